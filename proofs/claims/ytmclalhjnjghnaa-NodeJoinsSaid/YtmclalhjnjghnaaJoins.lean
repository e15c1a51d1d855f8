/- The walk of hwkeep.NodeJoins. -/
import Derived.Test.YtmclalhjnjghnaaNodeFns
import Derived.Test.YtmclalhjnjghnaaJoinsLaw
namespace Go.Proofs.Ytmclalhjnjghnaa
open Go.RowKit Hw

set_option maxRecDepth 100000 in
set_option maxHeartbeats 2000000 in
theorem joins_any (every least : Int) (A : Option Addr) (cc : Nat) (L : List (List Int)) (theta : Int) (w : World) (hL : ListsR w A L) (hcc : L.length ≤ cc) (hl : L.length ≤ 17592186044416) :
    Calls Try.prog 11 #[.int .i64 every, .int .i64 least, .slice A L.length cc, .int .i64 theta] w fun e w' => e = .returned (.bool true) ∧ Below w.heap.size w w' := by
  have HL := Lib.hid hL
  clear hL
  go_enter Try.func11, Try.ntmps11
  go_wp2_with (first
    | (go_at_call 28; refine (nodebegun_any _).mono ?_; rintro e w1 ⟨rfl, hb1⟩; have HB1 := Lib.hid hb1; clear hb1)
    | (go_at_call 29; refine (one_any every least _).mono ?_; rintro e w2 ⟨⟨b, rfl, hb, hn⟩, hb2⟩; have HB2 := Lib.hid (HB1.out.trans (hb2.mono HB1.out.size)); have HN2 := Lib.hid hn; have Hb := Lib.hid (Nat.le_trans HB1.out.size hb); clear hb hn hb2)
    | fail)
  rw [show min (L.length : Int) 40 = ((L.take 40).length : Int) from take_min L 40, Int.toNat_natCast, Int.max_eq_left (by omega)]
  have hM : (L.take 40).length ≤ 40 := by rw [List.length_take]; omega
  have hMc : (L.take 40).length ≤ cc := by rw [List.length_take]; omega
  have HM := Lib.hid (HL.out.take 40)
  generalize L.take 40 = M at HM hM hMc ⊢
  have hG := ones_good every least
  have hC := (ones_same every least 3).2.1
  have hD := (ones_same every least 3).2.2.2.2
  have hS := (ones_same every least 3).1
  generalize ones every least 3 = n0 at HN2 hG hC hD hS
  have HG := Lib.hid hG
  have HC := Lib.hid hC
  have HD := Lib.hid hD
  have HS := Lib.hid hS
  clear hG hC hD hS
  go_loopw [28] (fun i wr => ∃ k : Nat, k ≤ M.length ∧ i = .int .i64 k ∧ Hid (NewAt w wr b (askedAll n0 M k))) (fun i _ => M.length - (intOf i).toNat)
  case atStart => exact ⟨0, by omega, rfl, _, HN2.out, fun q hq => by simp [Value.ownBlock] at hq, HB2.out⟩
  case round =>
    obtain ⟨k, hk, rfl, HNk⟩ := hrel
    by_cases hlt : k < M.length
    · obtain ⟨vs, hn, hvs, hbw⟩ := HNk.out
      obtain ⟨A0, off, rfl, hc⟩ := (HM.out.below (hbw.mono (Nat.le_refl _))) (by omega)
      obtain ⟨A', c', h1, h2, h3⟩ := hc k hlt
      have hkM : (k : Int) < (M.length : Int) := by omega
      have hk0 : (0 : Int) ≤ (k : Int) := by omega
      have hkw : IntKind.i64.wrap ((k : Int) + 1) = (k : Int) + 1 := IntWalk.i64_in _ (by omega)
      have hg := askedAll_good HG.out M k
      have hsucc := askedAll_succ n0 M k hlt
      have hkept := askedAll_kept n0 M (k + 1) (by omega)
      rw [hsucc] at hkept
      generalize askedAll n0 M k = n at hn hg hsucc hkept
      have hg' := (asked_good hg M[k]).1
      generalize M[k] = c at h1 h2 h3 hsucc hg' hkept
      have hE : ∃ n', (asked n c).1 = n' := ⟨_, rfl⟩
      obtain ⟨n', hE⟩ := hE
      rw [hE] at hsucc hg' hkept
      have hbn := hn.lt
      have HN := Lib.hid hn
      have HGn := Lib.hid hg
      have HG' := Lib.hid hg'
      have HKt := Lib.hid hkept
      have HVS := Lib.hid hvs
      have HBW := Lib.hid hbw
      have HI := Lib.hid h2
      have Hsucc := Lib.hid hsucc
      have HE := Lib.hid hE
      have hA0 := bsome (Below.refl wr.heap.size wr) h1
      clear hn hg hg' hvs hbw hc h2 hsucc h1 hE hkept
      go_wp2_with (first
        | (go_at_call 43; refine (asked_any b vs n _ c' c _ HN.out HGn.out HI.out h3).mono ?_; rintro e w3 ⟨⟨vn, rfl, ho⟩, vs', hn', hv', ht'⟩; rw [HE.out] at hn'; have HNew := Lib.hid (NewAt.post HVS.out HBW.out Hb.out hn' hv' ht'); have HN' := Lib.hid hn'; clear ho hn' hv' ht')
        | fail)
      go_roundw
      case rel => exact ⟨k + 1, by omega, by go_num, by rw [Hsucc.out]; exact HNew.out⟩
      case measure => simp [intOf]; omega
    · have hkM : ¬ (k : Int) < (M.length : Int) := by omega
      obtain ⟨vs, hn, hvs, hbw⟩ := HNk.out
      have hgood := askedAll_good HG.out M k
      have hlow := (askedAll_kept n0 M k hk).2.2.1 (fun s hs => by rw [HS.out] at hs; cases hs)
      generalize askedAll n0 M k = n at hn hgood hlow HNk
      have hth := within_in (n := theta) (k := 40) (by omega)
      have hl := (hgood.inv.level_ok (id := ByteArray.mk #[98]) (by show nm 0 ∈ [nm 0, nm 1, nm 2]; simp)).1
      have hno := low_no hlow (id := ByteArray.mk #[98]) (theta := 20 + within theta 40) (by omega)
      have hap := hn.apart
      have h8 := hgood.subs.s8
      have hbN : ∀ q, q < w.heap.size → ¬ NodeS b vs q := fun q hq => by
        rintro (e | e)
        · have := Hb.out
          omega
        · have := hvs q e
          omega
      have hlvj : NodeLv (joined n (ByteArray.mk #[98]) (20 + within theta 40)) := hgood.inv.lv
      have Hlvj := Lib.hid hlvj
      have HbN := Lib.hid hbN
      have HN := Lib.hid hn
      have HGood := Lib.hid hgood
      have Hno := Lib.hid hno
      have Hl := Lib.hid hl
      have Hap := Lib.hid hap
      have HBW := Lib.hid hbw
      have hbl := hn.lt
      have hww : IntKind.i64.wrap (20 + within theta 40) = 20 + within theta 40 := IntWalk.i64_in _ (by omega)
      have hlw : IntKind.i64.wrap ((n.subs.length : Int) + 1) = (n.subs.length : Int) + 1 := IntWalk.i64_in _ (by omega)
      clear hn hgood hlow hl hno hap hbw hvs HNk hbN hlvj
      have ht1 : 1 ≤ 20 + within theta 40 := by omega
      have ht2 : 20 + within theta 40 ≤ 60 := by omega
      by_cases hlen : n.subs.length = 8
      · have hj := joins_full ht1 ht2 Hl.out Hno.out hlen
        have HJ := Lib.hid hj
        have hlb : ((n.subs.length : Int) == 8) = true := beq_iff_eq.2 (by omega)
        clear hj hlen
        go_wp2_with (first
          | (go_at_call 45; refine (nsubs_any b vs n _ HN.out h8).mono ?_; rintro e w4 ⟨⟨v4, rfl, ho4⟩, hb4⟩; obtain ⟨A4, c4, rfl, -⟩ := own_form ho4; have HO4 := Lib.hid ho4; have HB4 := Lib.hid hb4; clear ho4 hb4)
          | (go_at_call 30; refine (within_any _ _ _ (by decide) (by decide)).mono ?_; rintro e w9 ⟨rfl, rfl⟩)
          | fail)
        go_wp2_with (go_at_call 49; refine (njoin_any b vs n (ByteArray.mk #[98]) (20 + within theta 40) _ (HN.out.below HB4.out) HGood.out.inv.lv h8).mono ?_; rintro e w5 ⟨⟨vn, rfl, ho5⟩, vs5, hn5, hv5, ht5⟩; rw [HJ.out] at hn5 ⊢; have HN5 := Lib.hid hn5; have HO5 := Lib.hid (own_touch HO4.out ht5 (fun q hq => Hap.out q hq)); have HT5 := Lib.hid (Touch.below (HBW.out.trans (HB4.out.mono HBW.out.size)) ht5 (Nat.le_trans HBW.out.size HB4.out.size) HbN.out); clear ho5 hn5 hv5 ht5)
        go_wp2_with (first
          | (go_at_call 45; refine (nsubs_any b vs5 n _ HN5.out h8).mono ?_; rintro e w6 ⟨⟨v6, rfl, ho6⟩, hb6⟩; obtain ⟨A6, c6, rfl, -⟩ := own_form ho6; have HO6 := Lib.hid ho6; have HB6 := Lib.hid hb6; clear ho6 hb6)
          | (go_at_call 50; refine (equal_subs A6 A4 c6 c4 n.subs _ (own_subs HO6.out) ((own_subs HO5.out).below HB6.out) h8).mono ?_; rintro e w7 ⟨rfl, hb7⟩; have HB7 := Lib.hid hb7; clear hb7)
          | fail)
        go_ret
        exact ⟨rfl, HT5.out.trans ((HB6.out.mono HT5.out.size).trans (HB7.out.mono (Nat.le_trans HT5.out.size HB6.out.size)))⟩
      · obtain ⟨hj1, hj2⟩ := joins_new ht1 ht2 Hl.out Hno.out hlen HGood.out.on
        have HJ1 := Lib.hid hj1
        have HJ2 := Lib.hid hj2
        have HJA := Lib.hid (joins_again ht1 ht2 Hl.out Hno.out)
        have HPB := Lib.hid (parts_back Hno.out)
        have HPN := Lib.hid (parts_none Hno.out)
        have hjl : (joined n (ByteArray.mk #[98]) (20 + within theta 40)).subs.length = n.subs.length + 1 := by
          show (n.subs ++ [joins n (ByteArray.mk #[98]) (20 + within theta 40)]).length = _
          simp
        have hj8 : (joined n (ByteArray.mk #[98]) (20 + within theta 40)).subs.length ≤ 8 := by omega
        have hjb : (((joined n (ByteArray.mk #[98]) (20 + within theta 40)).subs.length : Int) != (n.subs.length : Int) + 1) = false := by simp; omega
        clear hj1 hj2 hjl hlen
        generalize joined n (ByteArray.mk #[98]) (20 + within theta 40) = nj at HJ1 HJA HPB Hlvj hj8 hjb
        go_wp2_with (first
          | (go_at_call 45; refine (nsubs_any b vs n _ HN.out h8).mono ?_; rintro e w4 ⟨⟨v4, rfl, ho4⟩, hb4⟩; obtain ⟨A4, c4, rfl, -⟩ := own_form ho4; have HO4 := Lib.hid ho4; have HB4 := Lib.hid hb4; clear ho4 hb4)
          | (go_at_call 30; refine (within_any _ _ _ (by decide) (by decide)).mono ?_; rintro e w9 ⟨rfl, rfl⟩)
          | (go_at_call 49; refine (njoin_any b vs n (ByteArray.mk #[98]) (20 + within theta 40) _ (HN.out.below HB4.out) HGood.out.inv.lv h8).mono ?_; rintro e w5 ⟨⟨vn, rfl, ho5⟩, vs5, hn5, hv5, ht5⟩; rw [HJ1.out] at hn5; rw [HJ2.out]; have HN5 := Lib.hid hn5; have HV5 := Lib.hid hv5; have HT5 := Lib.hid ht5; clear ho5 hn5 hv5 ht5)
          | (go_at_call 49; refine (njoin_any b vs5 nj (ByteArray.mk #[98]) (20 + within theta 40) _ HN5.out Hlvj.out hj8).mono ?_; rintro e w6 ⟨⟨vn6, rfl, ho6⟩, vs6, hn6, hv6, ht6⟩; rw [HJA.out] at hn6 ⊢; have HN6 := Lib.hid hn6; have HV6 := Lib.hid (HV5.out.trans hv6 HT5.out); have HT6 := Lib.hid (HT5.out.vs HV5.out ht6); clear ho6 hn6 hv6 ht6)
          | (go_at_call 45; refine (nsubs_any b vs6 nj _ HN6.out hj8).mono ?_; rintro e w7 ⟨⟨v7, rfl, ho7⟩, hb7⟩; obtain ⟨A7, c7, rfl, -⟩ := own_form ho7; have HB7 := Lib.hid hb7; clear ho7 hb7)
          | (go_at_call 51; refine (npart_any b vs6 nj (ByteArray.mk #[98]) (20 + within theta 40) _ (HN6.out.below HB7.out) hj8).mono ?_; rintro e w8 ⟨rfl, vs8, hn8, hv8, ht8⟩; rw [HPB.out] at hn8 ⊢; have HN8 := Lib.hid hn8; have HV8 := Lib.hid hv8; have HT8 := Lib.hid ht8; clear hn8 hv8 ht8)
          | (go_at_call 51; refine (npart_any b vs8 n (ByteArray.mk #[98]) (20 + within theta 40) _ HN8.out h8).mono ?_; rintro e w9 ⟨rfl, vs9, hn9, hv9, ht9⟩; rw [HPN.out] at hn9 ⊢; have HN9 := Lib.hid hn9; have HT9 := Lib.hid ((HT6.out.vs HV6.out (Touch.of_below HB7.out)).vs HV6.out (HT8.out.vs HV8.out ht9)); clear hn9 hv9 ht9)
          | (go_at_call 45; refine (nsubs_any b vs9 n _ HN9.out h8).mono ?_; rintro e w10 ⟨⟨v10, rfl, ho10⟩, hb10⟩; obtain ⟨A10, c10, rfl, -⟩ := own_form ho10; have HO10 := Lib.hid ho10; have HB10 := Lib.hid hb10; have HOw := Lib.hid (own_below (own_touch HO4.out HT9.out (fun q hq => Hap.out q hq)) hb10); clear ho10 hb10)
          | (go_at_call 50; refine (equal_subs A10 A4 c10 c4 n.subs _ (own_subs HO10.out) (own_subs HOw.out) h8).mono ?_; rintro e w11 ⟨rfl, hb11⟩; have HB11 := Lib.hid hb11; clear hb11)
          | fail)
        go_ret
        have hB9 : Below w.heap.size w w9 := Touch.below (HBW.out.trans (HB4.out.mono HBW.out.size)) HT9.out (Nat.le_trans HBW.out.size HB4.out.size) HbN.out
        exact ⟨rfl, hB9.trans ((HB10.out.mono hB9.size).trans (HB11.out.mono (Nat.le_trans hB9.size HB10.out.size)))⟩

end Go.Proofs.Ytmclalhjnjghnaa
