/- The walk of hwkeep.TownFresh. -/
import Derived.Test.YtmclalhjnjghnaaFreshLaw
namespace Go.Proofs.Ytmclalhjnjghnaa
open Go.RowKit Hw

theorem fr_zero (every : Int) : FrAt (cfA every 0) (cfB every 0) (1 + within every 20) 1000 0 (nodeA every 0) (nodeB every 0) [] := by
  have hE := within_in (n := every) (k := 20) (by omega)
  refine ⟨by simpa using (two_good every 0 1000 (by omega)).1, ⟨by simp [nodeA], by simp [nodeA], ?_, fun p hp => ?_, fun p hp x hx => ?_⟩, ⟨by simp [nodeB], by simp [nodeB], ?_, fun p hp => ?_, fun p hp x hx => ?_⟩, rfl⟩
  · show gateSeq (nodeA every 0) (ByteArray.mk #[98]) = 0
    unfold gateSeq nodeA addPeer
    simp [sq]
  · simp [nodeA, addPeer] at hp ⊢
    rw [hp]
  · simp [nodeA, addPeer] at hp
    rw [hp] at hx
    simpa using hx
  · show gateSeq (nodeB every 0) (ByteArray.mk #[97]) = 0
    unfold gateSeq nodeB addPeer
    simp [sq]
  · simp [nodeB, addPeer] at hp ⊢
    rw [hp]
  · simp [nodeB, addPeer] at hp
    rw [hp] at hx
    simpa using hx

theorem fr_wait {o : ByteArray} {E N S G : Int} {n : Hw.Node} (hf : Fr o E N S G 0 n) (t : Int) : Fr o E (N + t) (S + beats n t) G t (ticked n t) :=
  ⟨by show n.now + t = _; rw [hf.now], by show n.seq + (beats n t : Nat) = _; rw [hf.seq], hf.gate, fun p hp => by have := hf.last p hp; omega, hf.vals⟩

set_option maxRecDepth 100000 in
set_option maxHeartbeats 4000000 in
theorem fresh_any (every rounds more : Int) (w : World) :
    Calls Try.prog 13 #[.int .i64 every, .int .i64 rounds, .int .i64 more] w fun e w' => e = .returned (.bool true) ∧ Below w.heap.size w w' := by
  have HC := Lib.hid (tc_two every 0)
  have hE := within_in (n := every) (k := 20) (by omega)
  have hR := within_in (n := rounds) (k := 20) (by omega)
  have hev0 : (cfA every 0).every = 1 + within every 20 := rfl
  have hev1 : (cfB every 0).every = 1 + within every 20 := rfl
  have hid0 : (cfA every 0).id = ByteArray.mk #[97] := rfl
  have hid1 : (cfB every 0).id = ByteArray.mk #[98] := rfl
  have HF0 := Lib.hid (fr_zero every)
  have hEw : IntKind.i64.wrap (1 + within every 20) = 1 + within every 20 := IntWalk.i64_in _ (by omega)
  have hRw : IntKind.i64.wrap (1 + within rounds 20) = 1 + within rounds 20 := IntWalk.i64_in _ (by omega)
  go_enter Try.func13, Try.ntmps13
  go_wp2_with (first
    | (go_at_call 37; refine (begun_any _).mono ?_; rintro e w1 ⟨rfl, hb1⟩; have HB1 := Lib.hid hb1; clear hb1)
    | (go_at_call 55; refine (two_any every 0 _).mono ?_; rintro e w2 ⟨⟨t, rfl, ht⟩, hb2⟩; have HB2 := Lib.hid (HB1.out.trans (hb2.mono HB1.out.size)); have HT2 := Lib.hid (ht.base HB1.out.size); clear ht hb2)
    | (go_at_call 30; refine (within_any _ _ _ (by decide) (by decide)).mono ?_; rintro e w4 ⟨rfl, rfl⟩)
    | fail)
  have HS0 := Lib.hid (show ∃ a b W, TownAt w.heap.size w2 t (tw (cfA every 0) (cfB every 0) a b false W) ∧ FrAt (cfA every 0) (cfB every 0) (1 + within every 20) 1000 0 a b W from ⟨_, _, _, HT2.out, HF0.out⟩)
  obtain ⟨c0, hc0⟩ : ∃ c0, cfA every 0 = c0 := ⟨_, rfl⟩
  obtain ⟨c1, hc1⟩ : ∃ c1, cfB every 0 = c1 := ⟨_, rfl⟩
  rw [hc0] at HC HS0 hev0 hid0
  rw [hc1] at HC HS0 hev1 hid1
  clear hc0 hc1 HT2 HF0
  have e1 : 1 ≤ 1 + within every 20 := by omega
  have e2 : 1 + within every 20 ≤ 20 := by omega
  obtain ⟨R, hRn⟩ := Int.eq_ofNat_of_zero_le (show 0 ≤ 1 + within rounds 20 by omega)
  have hR2 : R ≤ 20 := by omega
  rw [hRn] at hRw ⊢
  generalize 1 + within every 20 = E at HS0 hev0 hev1 hEw e1 e2 ⊢
  have Hev0 := Lib.hid hev0
  have Hev1 := Lib.hid hev1
  have Hid0 := Lib.hid hid0
  have Hid1 := Lib.hid hid1
  clear hev0 hev1 hid0 hid1 hE hR hRn hRw
  go_loopw [34] (fun i wr => ∃ r : Nat, r ≤ R ∧ i = .int .i64 r ∧ Hid (Below w.heap.size w wr) ∧ Hid (∃ a b W, TownAt w.heap.size wr t (tw c0 c1 a b false W) ∧ FrAt c0 c1 E 1000 r a b W)) (fun i _ => R - (intOf i).toNat)
  case atStart => exact ⟨0, by omega, rfl, HB2.out, HS0.out⟩
  case round =>
    obtain ⟨r, hr, rfl, HB, HS⟩ := hrel
    obtain ⟨a, b, W, ht, hf⟩ := HS.out
    have hWl := hf.len
    have hbd : (r : Int) * E ≤ 20 * 20 := Int.mul_le_mul (by omega) e2 (by omega) (by omega)
    have HF := Lib.hid hf
    have HT := Lib.hid ht
    have hW : W.length ≤ 1000 := by omega
    clear ht hf
    by_cases hlt : r < R
    · have hrR : (r : Int) < (R : Int) := by omega
      have hr0 : (0 : Int) ≤ (r : Int) := by omega
      have hrw : IntKind.i64.wrap ((r : Int) + 1) = (r : Int) + 1 := IntWalk.i64_in _ (by omega)
      have hd : E / E < 64 := by rw [Int.ediv_self (by omega)]; omega
      have hmid := fr_start HC.out HF.out Hev0.out Hev1.out e1 e2 (by omega)
      have hW2 := hmid.len
      have hWw : IntKind.i64.wrap ((W.length : Int) + 2) = (W.length : Int) + 2 := IntWalk.i64_in _ (by omega)
      obtain ⟨a0, ha0⟩ : ∃ a0, ticked a E = a0 := ⟨_, rfl⟩
      obtain ⟨b0, hb0⟩ : ∃ b0, ticked b E = b0 := ⟨_, rfl⟩
      obtain ⟨W2, hw2⟩ : ∃ W2, wayT a b false W E = W2 := ⟨_, rfl⟩
      rw [ha0, hb0, hw2] at hmid
      rw [hw2] at hW2
      have HA0 := Lib.hid ha0
      have HB0 := Lib.hid hb0
      have HW2 := Lib.hid hw2
      have HMid := Lib.hid hmid
      have HL2 := Lib.hid (show W2.length = W.length + 2 by omega)
      have hlen2 : W2.length ≤ 1000 := by omega
      have HWl := Lib.hid hWl
      clear ha0 hb0 hw2 hmid hW2 hWl
      go_wp2_with (first
        | (go_at_call 42; refine (tw_way HT.out hW).mono ?_; rintro e w3 ⟨⟨A3, c3, rfl, -⟩, hb3⟩; have HT3 := Lib.hid (HT.out.below hb3); have HB3 := Lib.hid (HB.out.trans (hb3.mono HB.out.size)); clear hb3)
        | (go_at_call 39; refine (tw_tick HC.out HT3.out HB3.out.size HF.out.tg hW e1 (by omega) (by omega) (by rw [Hev0.out]; exact hd) (by rw [Hev1.out]; exact hd)).mono ?_; rintro e w5 ⟨A5, c5, ee, rfl, hs5, hcase⟩; obtain ⟨rfl, ht5, -, -⟩ := hcase.resolve_right (fun h => absurd h.2.2 (by rw [HW2.out]; omega)); simp only [Bool.false_eq_true, if_false] at ht5; rw [HA0.out, HB0.out, HW2.out] at ht5; have HT5 := Lib.hid ht5; have HB5 := Lib.hid (HB3.out.trans hs5.below); clear hcase hs5 ht5)
        | (go_at_call 42; refine (tw_way HT5.out hlen2).mono ?_; rintro e w6 ⟨⟨A6, c6, rfl, -⟩, hb6⟩; rw [HL2.out]; have HT6 := Lib.hid (HT5.out.below hb6); have HB6 := Lib.hid (HB5.out.trans (hb6.mono HB5.out.size)); clear hb6)
        | fail)
      go_loopw [11] (fun i wq => ∃ j : Nat, j ≤ 2 ∧ i = .int .i64 ((W.length : Int) + j) ∧ Hid (Below w.heap.size w wq) ∧ Hid (∃ a b, TownAt w.heap.size wq t (tw c0 c1 a b false W2) ∧ FrMid c0 c1 E 1000 r j a b W2)) (fun i _ => (W.length + 2) - (intOf i).toNat)
      case atStart => exact ⟨0, by omega, by simp, HB6.out, _, _, HT6.out, HMid.out⟩
      case round =>
        obtain ⟨j, hj, rfl, HBj, HSj⟩ := hrel
        obtain ⟨a, b, ht, hm⟩ := HSj.out
        have HTj := Lib.hid ht
        have HMj := Lib.hid hm
        clear ht hm
        have hNM : (r : Int) * E + E ≤ 1000 := by omega
        have hjc : j = 0 ∨ j = 1 ∨ j = 2 := by omega
        rcases hjc with rfl | rfl | rfl
        · have hq : 2 * r < W2.length := by have := HL2.out; have := HWl.out; omega
          obtain ⟨k1, k2, k3, k4⟩ := fr_first HC.out HMj.out e1 e2 (by omega) (Int.le_refl _) hq
          have K1 := Lib.hid k1
          have K2 := Lib.hid k2
          have K3 := Lib.hid k3
          have K4 := Lib.hid k4
          have hx : ((W.length : Int)) = ((2 * r : Nat) : Int) := by have := HWl.out; omega
          have HX := Lib.hid hx
          have hlt2 : (W.length : Int) < (W.length : Int) + 2 := by omega
          have hiw : IntKind.i64.wrap ((W.length : Int) + 1) = (W.length : Int) + 1 := IntWalk.i64_in _ (by omega)
          clear k1 k2 k3 k4 hx
          go_wp2_with (first
            | (go_at_call 56; (with_reducible refine (tw_bring0 HC.out HTj.out HMj.out.tg hNM (q := 2 * r) HX.out hq).mono ?_); rintro e w7 ⟨⟨A7, c7, rfl⟩, ht7, hs7⟩; rw [K3.out]; have HT7 := Lib.hid ht7; have HB7 := Lib.hid (HBj.out.trans hs7.below); clear ht7 hs7)
            | (go_at_call 56; refine (tw_bring1 HC.out HT7.out K2.out hNM (q := 2 * r) HX.out hq).mono ?_; rintro e w8 ⟨⟨A8, c8, rfl⟩, ht8, hs8⟩; rw [K4.out]; have HT8 := Lib.hid ht8; have HB8 := Lib.hid (HB7.out.trans hs8.below); clear ht8 hs8)
            | fail)
          go_roundw
          case rel => exact ⟨1, by omega, by go_num, HB8.out, _, _, HT8.out, K1.out⟩
          case measure => simp [intOf]
        · have hq : 2 * r + 1 < W2.length := by have := HL2.out; have := HWl.out; omega
          obtain ⟨k1, k2, k3, k4⟩ := fr_second HC.out HMj.out e1 e2 (by omega) (Int.le_refl _) hq
          have K1 := Lib.hid k1
          have K2 := Lib.hid k2
          have K3 := Lib.hid k3
          have K4 := Lib.hid k4
          have hx : ((W.length : Int)) + 1 = ((2 * r + 1 : Nat) : Int) := by have := HWl.out; omega
          have HX := Lib.hid hx
          have hlt2 : (W.length : Int) + 1 < (W.length : Int) + 2 := by omega
          have hiw : IntKind.i64.wrap ((W.length : Int) + 1 + 1) = (W.length : Int) + 2 := by rw [IntWalk.i64_in _ (by omega)]; omega
          clear k1 k2 k3 k4 hx
          go_wp2_with (first
            | (go_at_call 56; (with_reducible refine (tw_bring0 HC.out HTj.out HMj.out.tg hNM (q := 2 * r + 1) HX.out hq).mono ?_); rintro e w7 ⟨⟨A7, c7, rfl⟩, ht7, hs7⟩; rw [K3.out]; have HT7 := Lib.hid ht7; have HB7 := Lib.hid (HBj.out.trans hs7.below); clear ht7 hs7)
            | (go_at_call 56; refine (tw_bring1 HC.out HT7.out K2.out hNM (q := 2 * r + 1) HX.out hq).mono ?_; rintro e w8 ⟨⟨A8, c8, rfl⟩, ht8, hs8⟩; rw [K4.out]; have HT8 := Lib.hid ht8; have HB8 := Lib.hid (HB7.out.trans hs8.below); clear ht8 hs8)
            | fail)
          go_roundw
          case rel => exact ⟨2, by omega, by go_num, HB8.out, _, _, HT8.out, K1.out⟩
          case measure => simp [intOf]; omega
        · have hend := fr_end HMj.out
          have HEnd := Lib.hid hend
          have hla := fr_level hend.tg.na hend.fa (Int.le_refl _) (by omega)
          have hlb := fr_level hend.tg.nb hend.fb (Int.le_refl _) (by omega)
          rw [Hid1.out] at hla
          rw [Hid0.out] at hlb
          have HLa := Lib.hid hla
          have HLb := Lib.hid hlb
          clear hend hla hlb
          have hlt2 : ¬ (W.length : Int) + 2 < (W.length : Int) + 2 := by omega
          go_wp2_with fail
          go_loopw [87] (fun i wq => ∃ j : Nat, j ≤ 2 ∧ i = .int .i64 j ∧ Hid (Below w.heap.size w wq) ∧ Hid (TownAt w.heap.size wq t (tw c0 c1 a b false W2)) ∧ Hid (wq.heap[wr.heap.size]? = some (.cells #[.string (ByteArray.mk #[98]), .string (ByteArray.mk #[97])] 9 (0, 0)))) (fun i _ => 2 - (intOf i).toNat)
          case atStart => exact ⟨0, by omega, rfl, HBj.out.alloc HBj.out.size _, HTj.out.below ((Below.refl _ _).alloc (Nat.le_refl _) _), heap_alloc_new _ _⟩
          case round =>
            obtain ⟨j, hj, rfl, HB9, HT9, HX9⟩ := hrel
            have y0 := cell_of_row _ _ 0 _ 9 (0, 0) HX9.out
            have y1 := cell_of_row _ _ 1 _ 9 (0, 0) HX9.out
            simp at y0 y1
            have hyl := blt y0
            have hjc : j = 0 ∨ j = 1 ∨ j = 2 := by omega
            rcases hjc with rfl | rfl | rfl
            · go_wp2_with (first
                | (go_at_call 40; refine (tw_level HT9.out HEnd.out.tg _).mono ?_; rintro e w10 ⟨rfl, hb10⟩; rw [HLa.out]; have HT10 := Lib.hid (HT9.out.below hb10); have HX10 := Lib.hid ((hb10.block _ (Array.getElem?_eq_some_iff.1 HX9.out).1).trans HX9.out); have HB10 := Lib.hid (HB9.out.trans (hb10.mono HB9.out.size)); clear hb10)
                | fail)
              go_roundw
              case rel => exact ⟨1, by omega, by go_num, HB10.out, HT10.out, HX10.out⟩
              case measure => simp [intOf]
            · go_wp2_with (first
                | (go_at_call 40; refine (tw_level1 HT9.out HEnd.out.tg _).mono ?_; rintro e w10 ⟨rfl, hb10⟩; rw [HLb.out]; have HT10 := Lib.hid (HT9.out.below hb10); have HX10 := Lib.hid ((hb10.block _ (Array.getElem?_eq_some_iff.1 HX9.out).1).trans HX9.out); have HB10 := Lib.hid (HB9.out.trans (hb10.mono HB9.out.size)); clear hb10)
                | fail)
              go_roundw
              case rel => exact ⟨2, by omega, by go_num, HB10.out, HT10.out, HX10.out⟩
              case measure => simp [intOf]
            · go_wp2_with fail
              go_roundw
              case rel => exact ⟨r + 1, by omega, by go_num, HB9.out, a, b, W2, HT9.out, HEnd.out⟩
              case measure => simp [intOf]; omega
    · have hrR : ¬ (r : Int) < (R : Int) := by omega
      have hm := within_in (n := more) (k := E + 1) (by omega)
      have hmw : IntKind.i64.wrap (E + 1) = E + 1 := IntWalk.i64_in _ (by omega)
      obtain ⟨m, hme⟩ : ∃ m, within more (E + 1) = m := ⟨_, rfl⟩
      rw [hme] at hm
      have HMe := Lib.hid hme
      clear hme
      by_cases hm0 : m = 0
      · subst hm0
        go_wp2_with (first
          | (go_at_call 30; refine (within_any _ _ _ (by omega) (by omega)).mono ?_; rintro e w4 ⟨rfl, rfl⟩; rw [HMe.out])
          | fail)
        go_ret
        exact ⟨rfl, HB.out⟩
      · have hd : m / E < 64 := few_in (by omega) (by omega) (by omega)
        have hwl : (wayT a b false W m).length ≤ 1000 := by
          have ka := (HF.out.tg.na.ticks (t := m) (by omega) (by omega) (by omega) (by rw [Hev0.out]; exact hd)).1
          have kb := (HF.out.tg.nb.ticks (t := m) (by omega) (by omega) (by omega) (by rw [Hev1.out]; exact hd)).1
          obtain ⟨-, x1, -, x2⟩ := more_in ka (by omega)
          obtain ⟨-, z1, -, z2⟩ := more_in kb (by omega)
          have y1 := (more_in ka (by omega)).2.2.1
          have y2 := (more_in kb (by omega)).2.2.1
          simp only [wayT, Bool.false_eq_true, if_false, List.length_append, x2, z2]
          omega
        obtain ⟨-, htg⟩ := HF.out.tg.ticks HC.out false (t := m) (by omega) (by omega) (by omega) (by rw [Hev0.out]; exact hd) (by rw [Hev1.out]; exact hd)
        have hlv := fr_level htg.na (fr_wait HF.out.fa m) (by omega) (by omega)
        rw [Hid1.out] at hlv
        have HLv := Lib.hid hlv
        have HTg := Lib.hid htg
        clear htg hlv
        go_wp2_with (first
          | (go_at_call 30; refine (within_any _ _ _ (by omega) (by omega)).mono ?_; rintro e w4 ⟨rfl, rfl⟩; rw [HMe.out])
          | (go_at_call 39; refine (tw_tick HC.out HT.out HB.out.size HF.out.tg hW (by omega) (by omega) (by omega) (by rw [Hev0.out]; exact hd) (by rw [Hev1.out]; exact hd)).mono ?_; rintro e w5 ⟨A5, c5, ee, rfl, hs5, hcase⟩; obtain ⟨rfl, ht5, -, -⟩ := hcase.resolve_right (fun h => absurd h.2.2 (by omega)); have HT5 := Lib.hid ht5; have HB5 := Lib.hid (HB.out.trans hs5.below); clear hcase hs5 ht5)
          | (go_at_call 40; refine (tw_level HT5.out HTg.out _).mono ?_; rintro e w10 ⟨rfl, hb10⟩; rw [HLv.out]; have HB10 := Lib.hid (HB5.out.trans (hb10.mono HB5.out.size)); clear hb10)
          | fail)
        go_ret
        exact ⟨rfl, HB10.out⟩

end Go.Proofs.Ytmclalhjnjghnaa
