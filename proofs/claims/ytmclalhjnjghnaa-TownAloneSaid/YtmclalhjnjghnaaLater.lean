/- The walk of hwkeep.NodeLater. -/
import Derived.Test.YtmclalhjnjghnaaBaseM
namespace Go.Proofs.Ytmclalhjnjghnaa
open Go.RowKit Hw

theorem tick_err {n : Hw.Node} {t : Int} (h1 : 1 ≤ t) (h2 : t ≤ 60) : (tick n t).2.2.2 = 0 ∨ (tick n t).2.2.2 = 2 := by
  unfold tick
  rw [if_neg (by omega)]
  split
  · exact .inr rfl
  · exact .inl rfl

theorem level_later {I : List ByteArray} {n : Hw.Node} (h : Good I n) (t : Int) {id : ByteArray} (hid : id ∈ I) : (level n id).1 ≤ (level (tick n t).1 id).1 := by
  unfold tick
  split
  · exact Int.le_refl _
  · split
    · exact Int.le_refl _
    · exact h.inv.later (n' := (told (ticked n t)).1) rfl rfl (by show n.now ≤ n.now + t; omega) (by show n.now + t ≤ 1073741824; omega) hid

theorem levelOf_le {cap least since : Int} {l : List Int} (hw : winCheck cap l = 0) (l1 : 1 ≤ least) (l2 : least ≤ 16777216) (h1 : 1 ≤ l.length) (s1 : 0 ≤ since) (s2 : since ≤ 1073741824) : (levelOf cap l least since).1 ≤ 127 := by
  rw [levelOf_ok hw l1 l2 h1 s1 s2]
  obtain ⟨p1, p2⟩ := spread_in (win_list hw) (by omega) l1 l2
  obtain ⟨-, -, g3, -⟩ := gain_in (win_list hw) s1 s2
  split
  · show (0 : Int) ≤ 127
    omega
  · rename_i hd
    generalize (l.length : Int) * since - sumOf l = d at hd g3
    generalize spread l least = q at p1 p2
    have hdd : d * d ≤ 68719476736 * 68719476736 := Int.mul_le_mul g3 g3 (by omega) (by omega)
    have h2 : (q + d * d) / q ≤ q + d * d := Int.ediv_le_self _ (by have := Int.mul_nonneg (show 0 ≤ d by omega) (show 0 ≤ d by omega); omega)
    show ((((q + d * d) / q).toNat.log2 : Nat) : Int) ≤ 127
    generalize (q + d * d) / q = z at h2
    have hz : z.toNat < 2 ^ 127 := by
      have : (2 : Nat) ^ 127 = 170141183460469231731687303715884105728 := by decide
      omega
    by_cases h0 : z.toNat = 0
    · rw [h0]
      decide
    · have := (Nat.log2_lt h0).2 hz
      omega

theorem Inv.level_le {I : List ByteArray} {n : Hw.Node} (h : Inv I n) {id : ByteArray} (hid : id ∈ I) : (level n id).1 ≤ 127 := by
  obtain ⟨p, hp, -, -, hl⟩ := h.find hid
  rw [hl]
  have := (h.peer hp).lo
  have := h.last p hp
  have := h.n2
  exact levelOf_le (h.peer hp).win h.l1 h.l2 (h.win p hp).2 (by omega) (by omega)

/-- The node behind so many ticks. -/
def tickAll (n : Hw.Node) (T : List Int) (k : Nat) : Hw.Node := (T.take k).foldl (fun n t => (tick n (1 + within t 60)).1) n

theorem tickAll_succ (n : Hw.Node) (T : List Int) (k : Nat) (hk : k < T.length) : tickAll n T (k + 1) = (tick (tickAll n T k) (1 + within T[k] 60)).1 := by
  unfold tickAll
  rw [List.take_succ_eq_append_getElem hk, List.foldl_append]
  rfl

theorem tickAll_good {I : List ByteArray} {n : Hw.Node} (h : Good I n) (T : List Int) : ∀ k, Good I (tickAll n T k) := by
  intro k
  unfold tickAll
  induction T.take k generalizing n with
  | nil => exact h
  | cons c t ih => exact ih (good_tick h _).1

/-- What was known of the levels is no more than they are. -/
def LowAt (F : Value → Lit) (n : Hw.Node) : Prop := ∀ i, i < 3 → ∃ c : Int, F (.string (nm i)) = .int .i64 c ∧ c ≤ (level n (nm i)).1

theorem nm_in (i : Nat) (hi : i < 3) : nm i ∈ I3 := by
  obtain rfl | rfl | rfl : i = 0 ∨ i = 1 ∨ i = 2 := by omega
  all_goals simp [I3]

theorem nm_size (i : Nat) : (nm i).size ≤ 100 := by
  unfold nm
  split <;> decide

theorem Ints.take {w : World} {A : Option Addr} {xs : List Int} (h : Ints w A xs) (k : Nat) : Ints w A (xs.take k) := fun h0 => by
  obtain ⟨b, off, e, hc⟩ := h (by simp at h0; omega)
  refine ⟨b, off, e, fun j hj => ?_⟩
  have hj' : j < xs.length := by simp at hj; omega
  have := hc j hj'
  rw [this]
  congr 2
  simp only [List.getD_eq_getElem?_getD]
  rw [List.getElem?_take, if_pos (by simp at hj; omega)]

theorem int_wf {c : Int} (h1 : 0 ≤ c) (h2 : c ≤ 1000) : plainElem (H := Unit) Try.prog 3 (.int .i64 c) = some (.lit (.int .i64 c), []) := by
  exact plainElem_int Try.underlying3 (WalkArith.wf_i64 (by omega))

set_option maxRecDepth 100000 in
set_option maxHeartbeats 2000000 in
theorem later_any (every least : Int) (A : Option Addr) (cc : Nat) (L : List (List Int)) (A3 : Option Addr) (cc3 : Nat) (T0 : List Int) (w : World) (hL : ListsR w A L) (hcc : L.length ≤ cc) (hl : L.length ≤ 17592186044416) (hT : Ints w A3 T0) (hcc3 : T0.length ≤ cc3) (hl3 : T0.length ≤ 17592186044416) :
    Calls Try.prog 7 #[.int .i64 every, .int .i64 least, .slice A L.length cc, .slice A3 T0.length cc3] w fun e w' => e = .returned (.bool true) ∧ Below w.heap.size w w' := by
  have HL := Lib.hid hL
  clear hL
  have HT := Lib.hid hT
  clear hT
  go_enter Try.func7, Try.ntmps7
  go_wp2_with (first
    | (go_at_call 28; refine (nodebegun_any _).mono ?_; rintro e w1 ⟨rfl, hb1⟩; have HB1 := Lib.hid hb1; clear hb1)
    | (go_at_call 29; refine (one_any every least _).mono ?_; rintro e w2 ⟨⟨b, rfl, hb, hn⟩, hb2⟩; have HB2 := Lib.hid (HB1.out.trans (hb2.mono HB1.out.size)); have HN2 := Lib.hid hn; have Hb := Lib.hid (Nat.le_trans HB1.out.size hb); clear hb hn hb2)
    | fail)
  rw [show min (L.length : Int) 40 = ((L.take 40).length : Int) from take_min L 40, Int.toNat_natCast, Int.max_eq_left (by omega)]
  have hM : (L.take 40).length ≤ 40 := by rw [List.length_take]; omega
  have hMc : (L.take 40).length ≤ cc := by rw [List.length_take]; omega
  have HM := Lib.hid (HL.out.take 40)
  generalize L.take 40 = M at HM hM hMc ⊢
  have hG := ones_good every least
  have hC := (ones_same every least 3).2.1
  have hD := (ones_same every least 3).2.2.2.2
  have hS := (ones_same every least 3).1
  generalize ones every least 3 = n0 at HN2 hG hC hD hS
  have HG := Lib.hid hG
  have HC := Lib.hid hC
  have HD := Lib.hid hD
  have HS := Lib.hid hS
  clear hG hC hD hS
  go_loopw [33] (fun i wr => ∃ k : Nat, k ≤ M.length ∧ i = .int .i64 k ∧ Hid (NewAt w wr b (askedAll n0 M k))) (fun i _ => M.length - (intOf i).toNat)
  case atStart => exact ⟨0, by omega, rfl, _, HN2.out, fun q hq => by simp [Value.ownBlock] at hq, HB2.out⟩
  case round =>
    obtain ⟨k, hk, rfl, HNk⟩ := hrel
    by_cases hlt : k < M.length
    · obtain ⟨vs, hn, hvs, hbw⟩ := HNk.out
      obtain ⟨A0, off, rfl, hc⟩ := (HM.out.below (hbw.mono (Nat.le_refl _))) (by omega)
      obtain ⟨A', c', h1, h2, h3⟩ := hc k hlt
      have hkM : (k : Int) < (M.length : Int) := by omega
      have hk0 : (0 : Int) ≤ (k : Int) := by omega
      have hkw : IntKind.i64.wrap ((k : Int) + 1) = (k : Int) + 1 := IntWalk.i64_in _ (by omega)
      have hg := askedAll_good HG.out M k
      have hsucc := askedAll_succ n0 M k hlt
      have hkept := askedAll_kept n0 M (k + 1) (by omega)
      rw [hsucc] at hkept
      generalize askedAll n0 M k = n at hn hg hsucc hkept
      have hg' := (asked_good hg M[k]).1
      generalize M[k] = c at h1 h2 h3 hsucc hg' hkept
      have hE : ∃ n', (asked n c).1 = n' := ⟨_, rfl⟩
      obtain ⟨n', hE⟩ := hE
      rw [hE] at hsucc hg' hkept
      have hbn := hn.lt
      have HN := Lib.hid hn
      have HGn := Lib.hid hg
      have HG' := Lib.hid hg'
      have HKt := Lib.hid hkept
      have HVS := Lib.hid hvs
      have HBW := Lib.hid hbw
      have HI := Lib.hid h2
      have Hsucc := Lib.hid hsucc
      have HE := Lib.hid hE
      have hA0 := bsome (Below.refl wr.heap.size wr) h1
      clear hn hg hg' hvs hbw hc h2 hsucc h1 hE hkept
      go_wp2_with (first
        | (go_at_call 43; refine (asked_any b vs n _ c' c _ HN.out HGn.out HI.out h3).mono ?_; rintro e w3 ⟨⟨vn, rfl, ho⟩, vs', hn', hv', ht'⟩; rw [HE.out] at hn'; have HNew := Lib.hid (NewAt.post HVS.out HBW.out Hb.out hn' hv' ht'); have HN' := Lib.hid hn'; clear ho hn' hv' ht')
        | fail)
      go_roundw
      case rel => exact ⟨k + 1, by omega, by go_num, by rw [Hsucc.out]; exact HNew.out⟩
      case measure => simp [intOf]; omega
    · have hkM : ¬ (k : Int) < (M.length : Int) := by omega
      have hmm := @run_makeMap Try.prog
      obtain ⟨vs, hn, hvs, hbw⟩ := HNk.out
      have hgood := askedAll_good HG.out M k
      generalize askedAll n0 M k = n at hn hgood HNk
      have HGn := Lib.hid hgood
      have HN0 := Lib.hid (show NewAt w (wr.alloc (.map #[] 0)) b n from ⟨vs, hn.below ((Below.refl _ _).alloc (Nat.le_refl _) _), hvs, hbw.alloc hbw.size _⟩)
      have hmb : w.heap.size ≤ wr.heap.size := hbw.size
      have HM0 := Lib.hid (MapV.made 9 3 (.int .i64 0) wr)
      clear hn hgood hvs hbw HNk
      go_wp2_with fail
      rw [show min (T0.length : Int) 20 = ((T0.take 20).length : Int) from take_min T0 20, Int.toNat_natCast, Int.max_eq_left (by omega)]
      have hTl : (T0.take 20).length ≤ 20 := by rw [List.length_take]; omega
      have hTc : (T0.take 20).length ≤ cc3 := by rw [List.length_take]; omega
      have HT2 := Lib.hid (HT.out.take 20)
      generalize T0.take 20 = T at HT2 hTl hTc ⊢
      generalize hmbe : wr.heap.size = mb at HM0 hmb ⊢
      clear hmbe
      go_loopw [48] (fun i wq => ∃ j : Nat, j ≤ T.length ∧ i = .int .i64 j ∧ Hid (NewAt w wq b (tickAll n T j)) ∧ Hid (∃ m F, MapV 9 3 (.int .i64 0) wq mb m F ∧ m ≤ 3 * j ∧ LowAt F (tickAll n T j))) (fun i _ => T.length - (intOf i).toNat)
      case atStart => exact ⟨0, by omega, rfl, HN0.out, _, _, HM0.out, by omega, fun i hi => ⟨0, rfl, (HGn.out.inv.level_ok (nm_in i hi)).2⟩⟩
      case round =>
        obtain ⟨j, hj, rfl, HNj, HMj⟩ := hrel
        by_cases hjl : j < T.length
        · obtain ⟨vs, hn, hvs, hbw⟩ := HNj.out
          obtain ⟨m, F, hmap, hm3, hlow⟩ := HMj.out
          obtain ⟨b3, off3, rfl, hc⟩ := (HT2.out.below (hbw.mono (Nat.le_refl _))) (by omega)
          have q := hc j hjl
          have hd : T.getD j 0 = T[j] := by rw [List.getD_eq_getElem?_getD, List.getElem?_eq_getElem hjl]; rfl
          rw [hd] at q
          have hjw : IntKind.i64.wrap ((j : Int) + 1) = (j : Int) + 1 := IntWalk.i64_in _ (by omega)
          have hji : (j : Int) < (T.length : Int) := by omega
          have hj0 : (0 : Int) ≤ (j : Int) := by omega
          have hsucc := tickAll_succ n T j hjl
          have hg := tickAll_good HGn.out T j
          generalize tickAll n T j = nj at hn hlow hsucc hg
          generalize T[j] = t at q hsucc
          have h60 := within_in (n := t) (k := 60) (by omega)
          have hww : IntKind.i64.wrap (1 + within t 60) = 1 + within t 60 := IntWalk.i64_in _ (by omega)
          have hg2 := (good_tick hg (1 + within t 60)).1
          have hmono := fun i hi => level_later hg (1 + within t 60) (nm_in i hi)
          have hlow2 : LowAt F (tick nj (1 + within t 60)).1 := fun i hi => by
            obtain ⟨c, h1, h2⟩ := hlow i hi
            exact ⟨c, h1, Int.le_trans h2 (hmono i hi)⟩
          have herr := tick_err (n := nj) (t := 1 + within t 60) (by omega) (by omega)
          have hE : ∃ n', (tick nj (1 + within t 60)).1 = n' := ⟨_, rfl⟩
          obtain ⟨n', hE⟩ := hE
          rw [hE] at hsucc hg2 hlow2
          obtain ⟨er, her⟩ : ∃ er, (tick nj (1 + within t 60)).2.2.2 = er := ⟨_, rfl⟩
          rw [her] at herr
          have HN := Lib.hid hn
          have HVS := Lib.hid hvs
          have HBW := Lib.hid hbw
          have HMap := Lib.hid hmap
          have Hlow2 := Lib.hid hlow2
          have Hsucc := Lib.hid hsucc
          have HGj := Lib.hid hg
          have HG2 := Lib.hid hg2
          have HE := Lib.hid hE
          have HEr := Lib.hid her
          have hqb := blt q
          clear hn hvs hbw hmap hlow hlow2 hsucc hg hg2 hE her hc hd hmono
          rcases herr with rfl | rfl
          all_goals
            go_wp2_with (first
              | (go_at_call 30; refine (within_any _ _ _ (by decide) (by decide)).mono ?_; rintro e w9 ⟨rfl, rfl⟩)
              | (go_at_call 31; refine (tickg_any b vs nj (1 + within t 60) _ HN.out HGj.out (by omega)).mono ?_; rintro e w3 ⟨⟨vt, vn, rfl, ho1, ho2⟩, hn3, ht3⟩; rw [HE.out] at hn3; rw [HEr.out]; have HNew := Lib.hid (NewAt.post HVS.out HBW.out Hb.out hn3 (VsTo.refl _ _) ht3); have HN3 := Lib.hid hn3; have HM3 := Lib.hid (HMap.out.touch HN.out ht3); clear ho1 ho2 hn3 ht3)
              | fail)
            go_loopw [69] (fun i wq => ∃ q : Nat, q ≤ 3 ∧ i = .int .i64 q ∧ Hid (NodeAt wq b vs n') ∧ Hid (wq.heap[w3.heap.size]? = some (.cells #[.string (ByteArray.mk #[98]), .string (ByteArray.mk #[99]), .string (ByteArray.mk #[100])] 9 (0, 0))) ∧ Hid (∃ m F, MapV 9 3 (.int .i64 0) wq mb m F ∧ m ≤ 3 * j + q ∧ LowAt F n') ∧ Hid (Below w.heap.size w wq)) (fun i _ => 3 - (intOf i).toNat)
            case atStart =>
              obtain ⟨_, _, _, hb3⟩ := HNew.out
              exact ⟨0, by omega, rfl, HN3.out.below ((Below.refl _ _).alloc (Nat.le_refl _) _), heap_alloc_new w3 _, ⟨m, F, HM3.out.below ((Below.refl _ _).alloc (Nat.le_refl _) _), by omega, Hlow2.out⟩, hb3.alloc hb3.size _⟩
            case round =>
              obtain ⟨q, hq, rfl, HNq, HSq, HMq, HBq⟩ := hrel
              by_cases hql : q < 3
              · obtain ⟨m', F', hmap', hm', hlow'⟩ := HMq.out
                obtain ⟨c, hF, hcl⟩ := hlow' q hql
                have qs : wr.cell? ⟨w3.heap.size, q, none⟩ = some (.string (nm q)) := by
                  rw [cell_of_row wr _ q _ 9 (0, 0) HSq.out]
                  obtain rfl | rfl | rfl : q = 0 ∨ q = 1 ∨ q = 2 := by omega
                  all_goals rfl
                have hlv2 := (HG2.out.inv.level_ok (nm_in q hql)).1
                have hlv0 := (HG2.out.inv.level_ok (nm_in q hql)).2
                have hlv1 := HG2.out.inv.level_le (nm_in q hql)
                have hsz := nm_size q
                have hlow'' : ∀ F2 : Value → Lit, F2 (.string (nm q)) = .int .i64 (level n' (nm q)).1 → (∀ v, v ≠ .string (nm q) → F2 v = F' v) → LowAt F2 n' := fun F2 h1 h2 i hi => by
                  by_cases hv : (Value.string (nm i)) = .string (nm q)
                  · injection hv with hv
                    rw [hv]
                    exact ⟨_, h1, Int.le_refl _⟩
                  · rw [h2 _ hv]
                    exact hlow' i hi
                obtain ⟨lv, hlv⟩ : ∃ lv, (level n' (nm q)).1 = lv := ⟨_, rfl⟩
                rw [hlv] at hlv0 hlv1 hcl hlow''
                have Hlv := Lib.hid hlv
                have Hlv2 := Lib.hid hlv2
                have HMap' := Lib.hid hmap'
                have Hlow' := Lib.hid hlow''
                have HF := Lib.hid hF
                have hqw : IntKind.i64.wrap ((q : Int) + 1) = (q : Int) + 1 := IntWalk.i64_in _ (by omega)
                have hqi : (q : Int) < 3 := by omega
                have hq0 : (0 : Int) ≤ (q : Int) := by omega
                have hgl := blt qs
                have hcl' : decide (lv < c) = false := by simp; omega
                clear hlv hlv2 hmap' hlow' hlow'' hF
                go_wp2_with (first
                  | (go_at_call 44; refine (nlevel_any b vs n' (nm q) _ HNq.out HG2.out.inv.lv).mono ?_; rintro e w5 ⟨rfl, hb5⟩; rw [Hlv.out, Hlv2.out]; have hM5 := HMap'.out.below hb5; have hlook := hM5.look_int strK Try.underlying76 Try.underlying3 (zero3 _) (strKey hsz) HF.out; obtain ⟨F2, f1, f2⟩ := upd_exists F' (.string (nm q)) (.int .i64 lv); obtain ⟨w6, hr6, hM6, hg6⟩ := hM5.put strK Try.underlying76 (by unfold maxLen; omega) (strKey hsz) (int_wf hlv0 (by omega)) f1 f2; have HM6 := Lib.hid hM6; have HL6 := Lib.hid (Hlow'.out F2 f1 f2); have HN6 := Lib.hid ((HNq.out.below hb5).mapped hM5.block hg6); have HB6 := Lib.hid (below_mapped (HBq.out.trans (hb5.mono HBq.out.size)) hmb hg6 (Nat.le_trans HBq.out.size hb5.size)); have HS6 := Lib.hid ((hg6.block w3.heap.size (Nat.lt_of_lt_of_le hgl hb5.size) (fun e => by injection e with e; have := HM3.out.lt; omega)).trans ((hb5.block w3.heap.size hgl).trans HSq.out)); clear hM5 f1 f2 hM6 hg6 hb5)
                  | fail)
                go_roundw
                case rel => exact ⟨q + 1, by omega, by go_num, HN6.out, HS6.out, ⟨m' + 1, F2, HM6.out, by omega, HL6.out⟩, HB6.out⟩
                case measure => simp [intOf]; omega
              · have hqi : ¬ (q : Int) < 3 := by omega
                have hq3 : q = 3 := by omega
                subst hq3
                obtain ⟨m', F', hmap', hm', hlow'⟩ := HMq.out
                have HMap' := Lib.hid hmap'
                have Hlow' := Lib.hid hlow'
                clear hmap' hlow'
                go_wp2_with fail
                go_roundw
                case rel =>
                  exact ⟨j + 1, by omega, by go_num, by rw [Hsucc.out]; exact ⟨vs, HNq.out, HVS.out, HBq.out⟩, m', F', HMap'.out, by omega, by rw [Hsucc.out]; exact Hlow'.out⟩
                case measure => simp [intOf]; omega
        · have hji : ¬ (j : Int) < (T.length : Int) := by omega
          obtain ⟨vs, hn, hvs, hbw⟩ := HNj.out
          have Hbw := Lib.hid hbw
          clear hn hvs hbw
          go_wp2_with fail
          go_ret
          exact ⟨rfl, Hbw.out⟩

end Go.Proofs.Ytmclalhjnjghnaa
