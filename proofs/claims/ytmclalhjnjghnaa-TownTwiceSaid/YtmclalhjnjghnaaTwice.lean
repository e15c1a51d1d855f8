/- The walk of hwkeep.TownTwice. -/
import Derived.Test.YtmclalhjnjghnaaTownOps
namespace Go.Proofs.Ytmclalhjnjghnaa
open Go.RowKit Hw

set_option maxRecDepth 100000 in
set_option maxHeartbeats 2000000 in
theorem twice_any (every least : Int) (A : Option Addr) (cc : Nat) (L : List (List Int)) (w : World) (hL : ListsR w A L) (hcc : L.length ≤ cc) (hl : L.length ≤ 17592186044416) :
    Calls Try.prog 14 #[.int .i64 every, .int .i64 least, .slice A L.length cc] w fun e w' => e = .returned (.bool true) ∧ Below w.heap.size w w' := by
  have HL := Lib.hid hL
  have HC := Lib.hid (tc_two every least)
  have hE := within_in (n := every) (k := 20) (by omega)
  have hev0 : (cfA every least).every = 1 + within every 20 := rfl
  have hev1 : (cfB every least).every = 1 + within every 20 := rfl
  have hG0 := (two_good every least 2000 (by omega)).1
  have HG0 := Lib.hid hG0
  clear hL hG0
  go_enter Try.func14, Try.ntmps14
  go_wp2_with (first
    | (go_at_call 37; refine (begun_any _).mono ?_; rintro e w1 ⟨rfl, hb1⟩; have HB1 := Lib.hid hb1; clear hb1)
    | (go_at_call 55; refine (two_any every least _).mono ?_; rintro e w2 ⟨⟨t, rfl, ht⟩, hb2⟩; have HB2 := Lib.hid (HB1.out.trans (hb2.mono HB1.out.size)); have HT2 := Lib.hid (ht.base HB1.out.size); clear ht hb2)
    | fail)
  rw [show min (L.length : Int) 60 = ((L.take 60).length : Int) from take_min L 60, Int.toNat_natCast, Int.max_eq_left (by omega)]
  have hM : (L.take 60).length ≤ 60 := by rw [List.length_take]; omega
  have hMc : (L.take 60).length ≤ cc := by rw [List.length_take]; omega
  have HM := Lib.hid (HL.out.take 60)
  generalize L.take 60 = M at HM hM hMc ⊢
  obtain ⟨c0, hc0⟩ : ∃ c0, cfA every least = c0 := ⟨_, rfl⟩
  obtain ⟨c1, hc1⟩ : ∃ c1, cfB every least = c1 := ⟨_, rfl⟩
  have hid1 : c1.id = ByteArray.mk #[98] := by rw [← hc1]; rfl
  rw [hc0] at HC HG0 HT2 hev0
  rw [hc1] at HC HG0 HT2 hev1
  clear hc0 hc1
  have Hev0 := Lib.hid hev0
  have Hev1 := Lib.hid hev1
  have Hid1 := Lib.hid hid1
  have HS0 := Lib.hid (show TwAt c0 c1 w.heap.size t 0 2000 false w2 from ⟨_, _, _, HT2.out, HG0.out, by simp⟩)
  clear hev0 hev1 hid1 HT2 HG0
  go_loopw [29] (fun i wr => ∃ k : Nat, k ≤ M.length ∧ i = .int .i64 k ∧ Hid (Below w.heap.size w wr) ∧ Hid (TwAt c0 c1 w.heap.size t (19 * k) 2000 false wr)) (fun i _ => M.length - (intOf i).toNat)
  case atStart => exact ⟨0, by omega, rfl, HB2.out, HS0.out⟩
  case round =>
    obtain ⟨k, hk, rfl, HB, HS⟩ := hrel
    by_cases hlt : k < M.length
    · obtain ⟨A0, off, rfl, hc⟩ := (HM.out.below HB.out) (by omega)
      obtain ⟨A', c', h1, h2, h3⟩ := hc k hlt
      have hkM : (k : Int) < (M.length : Int) := by omega
      have hk0 : (0 : Int) ≤ (k : Int) := by omega
      have hkw : IntKind.i64.wrap ((k : Int) + 1) = (k : Int) + 1 := IntWalk.i64_in _ (by omega)
      generalize M[k] = c at h1 h2 h3
      have hA0 := blt h1
      obtain ⟨a, b, W, ht, hg, hW⟩ := HS.out
      have HT := Lib.hid ht
      have HG := Lib.hid hg
      have hN : (19 * (k : Int)) ≤ 2000 := by omega
      clear hc ht hg
      by_cases hshort : c.length < 2
      · have hsh : (c.length : Int) < 2 := by omega
        have hnx := HG.out.mono (show 19 * (k : Int) ≤ 19 * ((k + 1 : Nat) : Int) by omega)
        have HNx := Lib.hid hnx
        clear h2 hnx
        go_wp2_with fail
        go_roundw
        case rel => exact ⟨k + 1, by omega, by go_num, HB.out, a, b, W, HT.out, HNx.out, hW⟩
        case measure => simp [intOf]; omega
      · have hsh : ¬ (c.length : Int) < 2 := by omega
        obtain ⟨bA, oA, rfl, hcells⟩ := h2 (by omega)
        have u0 := hcells 0 (by omega)
        have u1 := hcells 1 (by omega)
        rw [Nat.add_zero] at u0
        have hbA := blt u0
        have hb1' := fun (w' : World) (hb : Below wr.heap.size wr w') => bsome hb u0
        have hb2' := fun (w' : World) (hb : Below wr.heap.size wr w') => bsome hb u1
        have HU0 := Lib.hid hb1'
        have HU1 := Lib.hid hb2'
        have hc0l : (0 : Int) < (c.length : Int) := by omega
        have hc1l : (1 : Int) < (c.length : Int) := by omega
        generalize c.getD 0 0 = x0 at u0 HU0
        generalize c.getD 1 0 = x1 at u1 HU1
        have hr1 := within_in (n := x1) (k := 19) (by omega)
        have hrw : IntKind.i64.wrap (1 + within x1 19) = 1 + within x1 19 := IntWalk.i64_in _ (by omega)
        clear hcells hb1' hb2'
        have hm := within_in (n := x0) (k := 2) (by omega)
        obtain ⟨m, hme⟩ : ∃ m, within x0 2 = m := ⟨_, rfl⟩
        rw [hme] at hm
        have HMe := Lib.hid hme
        clear hme
        have hcases : m = 0 ∨ (m = 1 ∧ W.length = 0) ∨ (m = 1 ∧ 1 ≤ W.length) := by omega
        clear hm
        rcases hcases with rfl | ⟨rfl, hW0⟩ | ⟨rfl, hW1⟩
        rotate_left 2
        · obtain ⟨hq0, hq1⟩ := within_in (n := x1) (k := (W.length : Int)) (by omega)
          obtain ⟨q, hqe⟩ := Int.eq_ofNat_of_zero_le hq0
          rw [hqe] at hq1
          have HQe := Lib.hid hqe
          have hql : q < W.length := by omega
          have hwz : ¬ (W.length : Int) = 0 := by omega
          have hg1 := HG.out.hear0 HC.out hN (List.getElem_mem hql)
          have hg2 := hg1.hear0 HC.out hN (List.getElem_mem hql)
          obtain ⟨hne, -, hlv⟩ := hears_twice HG.out.na hN (HG.out.way _ (List.getElem_mem hql)) HC.out.ne
          obtain ⟨a1, ha1⟩ : ∃ a1, (nhear a W[q]).1 = a1 := ⟨_, rfl⟩
          rw [ha1] at hg1 hg2 hne hlv
          obtain ⟨a2, ha2⟩ : ∃ a2, (nhear a1 W[q]).1 = a2 := ⟨_, rfl⟩
          rw [ha2] at hg2 hlv
          obtain ⟨E, hEe⟩ : ∃ E, (nhear a1 W[q]).2.2 = E := ⟨_, rfl⟩
          rw [hEe] at hne
          have heb : (E == 0) = false := beq_eq_false_iff_ne.2 hne
          have hl2 := (hg1.na.good.inv.level_ok (id := c1.id) (by simp)).1
          rw [Hid1.out] at hl2 hlv
          obtain ⟨v, hv⟩ : ∃ v, (level a1 (ByteArray.mk #[98])).1 = v := ⟨_, rfl⟩
          have HA1 := Lib.hid ha1
          have HA2 := Lib.hid ha2
          have HE := Lib.hid hEe
          have HL1 := Lib.hid (show level a1 (ByteArray.mk #[98]) = (v, 0) from Prod.ext hv hl2)
          have HL2 := Lib.hid (hlv.trans HL1.out)
          have HG1 := Lib.hid hg1
          have HG2 := Lib.hid hg2
          clear hqe hg1 hg2 hlv ha1 ha2 hEe hl2 hv hq0
          go_wp2_with (first
            | (go_at_call 42; refine (tw_way HT.out hW).mono ?_; rintro e w3 ⟨⟨A3, c3, rfl, -⟩, hb3⟩; have HT3 := Lib.hid (HT.out.below hb3); have y0 := HU0.out _ hb3; have y1 := HU1.out _ hb3; have HB3 := Lib.hid (HB.out.trans (hb3.mono HB.out.size)); clear hb3)
            | (go_at_call 30; refine (within_any _ _ _ (by decide) (by decide)).mono ?_; rintro e w4 ⟨rfl, rfl⟩; rw [HMe.out])
            | (go_at_call 30; refine (within_any _ _ _ (by omega) (by omega)).mono ?_; rintro e w4 ⟨rfl, rfl⟩; rw [HQe.out])
            | (go_at_call 56; refine (tw_bring0 HC.out HT3.out HG.out hN rfl hql).mono ?_; rintro e w5 ⟨⟨A5, c5, rfl⟩, ht5, hs5⟩; rw [HA1.out] at ht5; have HT5 := Lib.hid ht5; have HB5 := Lib.hid (HB3.out.trans hs5.below); clear ht5 hs5)
            | (go_at_call 40; refine (tw_level HT5.out HG1.out _).mono ?_; rintro e w6 ⟨rfl, hb6⟩; rw [HL1.out]; have HT6 := Lib.hid (HT5.out.below hb6); have HB6 := Lib.hid (HB5.out.trans (hb6.mono HB5.out.size)); clear hb6)
            | (go_at_call 56; refine (tw_bring0 HC.out HT6.out HG1.out hN rfl hql).mono ?_; rintro e w7 ⟨⟨A7, c7, rfl⟩, ht7, hs7⟩; rw [HA2.out] at ht7; rw [HE.out]; have HT7 := Lib.hid ht7; have HB7 := Lib.hid (HB6.out.trans hs7.below); clear ht7 hs7)
            | (go_at_call 40; refine (tw_level HT7.out HG2.out _).mono ?_; rintro e w8 ⟨rfl, hb8⟩; rw [HL2.out]; have HT8 := Lib.hid (HT7.out.below hb8); have HB8 := Lib.hid (HB7.out.trans (hb8.mono HB7.out.size)); clear hb8)
            | (go_at_call 42; refine (tw_way HT8.out hW).mono ?_; rintro e w9 ⟨⟨A9, c9, rfl, -⟩, hb9⟩; have HT9 := Lib.hid (HT8.out.below hb9); have HB9 := Lib.hid (HB8.out.trans (hb9.mono HB8.out.size)); clear hb9)
            | fail)
          go_roundw
          case rel => exact ⟨k + 1, by omega, by go_num, HB9.out, a2, b, W, HT9.out, HG2.out.mono (by omega), hW⟩
          case measure => simp [intOf]; omega
        all_goals
          go_wp2_with (first
            | (go_at_call 42; refine (tw_way HT.out hW).mono ?_; rintro e w3 ⟨⟨A3, c3, rfl, -⟩, hb3⟩; have HT3 := Lib.hid (HT.out.below hb3); have y0 := HU0.out _ hb3; have y1 := HU1.out _ hb3; have HB3 := Lib.hid (HB.out.trans (hb3.mono HB.out.size)); clear hb3)
            | (go_at_call 30; (with_reducible refine (within_any _ 2 _ (by decide) (by decide)).mono ?_); rintro e w4 ⟨rfl, rfl⟩; rw [HMe.out])
            | (go_at_call 30; refine (within_any _ _ _ (by decide) (by decide)).mono ?_; rintro e w4 ⟨rfl, rfl⟩)
            | (go_at_call 39; refine (tw_tick HC.out HT3.out HB3.out.size HG.out hW (by omega) (by omega) (by omega) (few_in (by omega) (by rw [Hev0.out]; omega) (by omega)) (few_in (by omega) (by rw [Hev1.out]; omega) (by omega))).mono ?_; rintro e w5 ⟨A5, c5, ee, rfl, hs5, hcase⟩; have HCase := Lib.hid hcase; have HB5 := Lib.hid (HB3.out.trans hs5.below); clear hcase hs5)
            | fail)
          have hnx : TwAt c0 c1 w.heap.size t (19 * ((k + 1 : Nat) : Int)) 2000 false w5 := by
            rcases HCase.out with ⟨-, ht, hg, hw⟩ | ⟨-, ht, -⟩
            · exact ⟨_, _, _, ht, hg.mono (by omega), hw⟩
            · exact ⟨a, b, W, ht, HG.out.mono (by omega), hW⟩
          have HNx := Lib.hid hnx
          clear hnx
          go_roundw
          case rel => exact ⟨k + 1, by omega, by go_num, HB5.out, HNx.out⟩
          case measure => simp [intOf]; omega
    · have hkM : ¬ (k : Int) < (M.length : Int) := by omega
      go_wp2_with fail
      go_ret
      exact ⟨rfl, HB.out⟩

end Go.Proofs.Ytmclalhjnjghnaa
