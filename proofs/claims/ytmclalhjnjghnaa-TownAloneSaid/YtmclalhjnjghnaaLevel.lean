/- Contracts of level.look and level.Of. -/
import Derived.Test.YtmclalhjnjghnaaHalf
import Derived.Test.YtmclalhjnjghnaaStat
namespace Go.Proofs.Ytmclalhjnjghnaa
open Go.RowKit Hw

def lookI (cap : Int) (vals : List Int) (least : Int) : Int := if winCheck cap vals ≠ 0 then winCheck cap vals else if least < 1 ∨ 16777216 < least then 1 else if vals.length = 0 then 4 else 0

set_option maxRecDepth 100000 in
set_option maxHeartbeats 1000000 in
theorem look_any (cap : Int) (A : Option Addr) (c : Nat) (l : List Int) (least : Int) (w : World) (h : Ints w A l) :
    Calls Try.prog 122 #[.agg #[.int .i64 cap, .slice A l.length c], .int .i64 least] w fun e w' => e = .returned (.int .i64 (lookI cap l least)) ∧ Below w.heap.size w w' := by
  have H := Lib.hid h
  clear h
  go_enter Try.func122, Try.ntmps122
  go_wp2_with (go_at_call 105; refine (wcheck_any cap A c l _ (H.out.below ((Below.refl _ _).alloc (Nat.le_refl _) _))).mono ?_; rintro e w1 ⟨rfl, hb1⟩; obtain ⟨c1, f1, z1, hw1⟩ := keep1 hb1; have c11 := c1 1; simp at c11; clear c1 f1 hb1)
  all_goals
    go_ret
    exact ⟨ret_int (by simp_all [lookI] <;> omega), hw1⟩

theorem spread_in {l : List Int} {least : Int} (hl : listCheck l = 0) (h0 : 0 < l.length) (h1 : 1 ≤ least) (h2 : least ≤ 16777216) : 1 ≤ spread l least ∧ spread l least ≤ 1152921504606846976 := by
  have hs := sumsOk hl
  obtain ⟨q1, q2, q3, q4⟩ := prods_in hs
  obtain ⟨h64, _⟩ := list_ok hl
  obtain ⟨m1, m2, m3, m4, m5, m6⟩ := least_in (n := (l.length : Int)) (m := least) (by omega) (by omega) h1 h2
  have n1 : (1 : Int) ≤ (l.length : Int) * l.length := by
    have : (l.length : Int) * 1 ≤ (l.length : Int) * l.length := Int.mul_le_mul_of_nonneg_left (by omega) (by omega)
    omega
  have n2 : (1 : Int) ≤ (l.length : Int) * l.length * least := by
    have : (l.length : Int) * l.length * 1 ≤ (l.length : Int) * l.length * least := Int.mul_le_mul_of_nonneg_left h1 (by omega)
    omega
  have n3 : (1 : Int) ≤ (l.length : Int) * l.length * least * least := by
    have : (l.length : Int) * l.length * least * 1 ≤ (l.length : Int) * l.length * least * least := Int.mul_le_mul_of_nonneg_left h1 (by omega)
    omega
  rw [spread_eq]
  have hsp : statSpread l.length (sumOf l) (sqOf l) ≤ 1152921504606846976 := by
    unfold statSpread
    split <;> omega
  omega

set_option maxRecDepth 100000 in
set_option maxHeartbeats 1000000 in
theorem levelof_bad (cap : Int) (A : Option Addr) (c : Nat) (l : List Int) (least since : Int) (w : World) (h : Ints w A l) (hk : ¬ lookI cap l least = 0) :
    Calls Try.prog 75 #[.agg #[.int .i64 cap, .slice A l.length c], .int .i64 least, .int .i64 since] w fun e w' => e = .returned (.tuple #[.int .i64 (levelOf cap l least since).1, .int .i64 (levelOf cap l least since).2]) ∧ Below w.heap.size w w' := by
  have H := Lib.hid h
  clear h
  have hkb : (lookI cap l least != 0) = true := by simp [hk]
  have hr : levelOf cap l least since = (0, lookI cap l least) := by
    unfold lookI at hk ⊢
    unfold levelOf
    split
    · rfl
    · rename_i h1
      rw [if_neg h1] at hk
      split
      · rfl
      · rename_i h2
        rw [if_neg h2] at hk
        split
        · rfl
        · rename_i h3
          rw [if_neg h3] at hk
          exact absurd rfl hk
  have Hr := Lib.hid hr
  clear hr hk
  go_enter Try.func75, Try.ntmps75
  go_wp2_with (go_at_call 122; refine (look_any cap A c l least _ (H.out.below ((Below.refl _ _).alloc (Nat.le_refl _) _))).mono ?_; rintro e w1 ⟨rfl, hb1⟩; obtain ⟨c1, f1, z1, hw1⟩ := keep1 hb1; clear c1 f1 hb1)
  go_ret2
  rw [Hr.out]
  exact ⟨rfl, hw1⟩

theorem look_ok {cap : Int} {l : List Int} {least : Int} (h : lookI cap l least = 0) : winCheck cap l = 0 ∧ 1 ≤ least ∧ least ≤ 16777216 ∧ 0 < l.length := by
  unfold lookI at h
  split at h
  · exact absurd h (by assumption)
  · rename_i h1
    split at h
    · cases h
    · split at h
      · cases h
      · exact ⟨by omega, by omega, by omega, by omega⟩

set_option maxRecDepth 100000 in
set_option maxHeartbeats 1000000 in
theorem levelof_core (cap : Int) (A : Option Addr) (len c : Nat) (l : List Int) (least since n s q sp d px py tx ty r : Int) (w : World) (hI : Ints w A l)
    (hLook : ∀ w, Ints w A l → Calls Try.prog 122 #[.agg #[.int .i64 cap, .slice A len c], .int .i64 least] w fun e w' => e = .returned (.int .i64 0) ∧ Below w.heap.size w w')
    (hSp : ∀ w, Ints w A l → Calls Try.prog 123 #[.agg #[.int .i64 cap, .slice A len c], .int .i64 least] w fun e w' => e = .returned (.tuple #[.agg #[.int .i64 n, .int .i64 s, .int .i64 q], .int .i64 sp]) ∧ Below w.heap.size w w')
    (hMul : ∀ w, Calls Try.prog 125 #[.int .u64 d, .int .u64 d] w fun e w' => e = .returned (.agg #[.int .u64 px, .int .u64 py]) ∧ Below w.heap.size w w')
    (hAdd : ∀ w, Calls Try.prog 124 #[.agg #[.int .u64 0, .int .u64 sp], .agg #[.int .u64 px, .int .u64 py]] w fun e w' => e = .returned (.tuple #[.agg #[.int .u64 tx, .int .u64 ty], .int .i64 0]) ∧ Below w.heap.size w w')
    (hHalf : ∀ w, Calls Try.prog 126 #[.agg #[.int .u64 tx, .int .u64 ty], .agg #[.int .u64 0, .int .u64 sp]] w fun e w' => e = .returned (.tuple #[.int .i64 r, .int .i64 0]) ∧ Below w.heap.size w w')
    (hs : ¬ (since < 0)) (hs2 : ¬ (1073741824 < since)) (h1 : IntKind.i64.wrap (n * since) = n * since) (h2 : IntKind.i64.wrap (n * since - s) = d) (hd : 0 < d) (h3 : IntKind.u64.wrap d = d) (h4 : IntKind.u64.wrap sp = sp) :
    Calls Try.prog 75 #[.agg #[.int .i64 cap, .slice A len c], .int .i64 least, .int .i64 since] w fun e w' => e = .returned (.tuple #[.int .i64 r, .int .i64 0]) ∧ Below w.heap.size w w' := by
  have H := Lib.hid hI
  have HLook := Lib.hid hLook
  have HSp := Lib.hid hSp
  have HMul := Lib.hid hMul
  have HAdd := Lib.hid hAdd
  have HHalf := Lib.hid hHalf
  have hd1 : ¬ d ≤ 0 := by omega
  clear hI hLook hSp hMul hAdd hHalf
  go_enter Try.func75, Try.ntmps75
  go_wp2_with (first
    | (go_at_call 122; refine (HLook.out _ (H.out.below ((Below.refl _ _).alloc (Nat.le_refl _) _))).mono ?_; rintro e w1 ⟨rfl, hb1⟩; have HB1 := Lib.hid (((Below.refl w.heap.size w).alloc (Nat.le_refl _) (.cells #[.int .i64 cap, .slice A len c] 38)).trans (hb1.mono (by simp))); obtain ⟨c1, f1, z1, hw1⟩ := keep1 hb1; have c10 := c1 0; have c11 := c1 1; simp at c10 c11; clear c1 f1 hb1 hw1)
    | (go_at_call 123; refine (HSp.out _ (H.out.below HB1.out)).mono ?_; rintro e w2 ⟨rfl, hb2⟩; have HB2 := Lib.hid (HB1.out.trans (hb2.mono HB1.out.size)); clear hb2)
    | (go_at_call 125; refine (HMul.out _).mono ?_; rintro e w3 ⟨rfl, hb3⟩; have HB3 := Lib.hid (HB2.out.trans (((Below.refl _ _).alloc (Nat.le_refl _) _).trans (hb3.mono (by simp)) |>.mono HB2.out.size)); clear hb3)
    | (go_at_call 124; refine (HAdd.out _).mono ?_; rintro e w4 ⟨rfl, hb4⟩; have HB4 := Lib.hid (HB3.out.trans (hb4.mono HB3.out.size)); clear hb4)
    | (go_at_call 126; refine (HHalf.out _).mono ?_; rintro e w5 ⟨rfl, hb5⟩; have HB5 := Lib.hid (HB4.out.trans (((Below.refl _ _).alloc (Nat.le_refl _) _).trans (hb5.mono (by simp)) |>.mono HB4.out.size)); clear hb5)
    | fail)
  go_ret2
  exact ⟨rfl, HB5.out⟩

set_option maxRecDepth 100000 in
set_option maxHeartbeats 1000000 in
/-- The two early answers of 'level.Of', behind a look that finds nothing. -/
theorem levelof_early (cap : Int) (A : Option Addr) (len c : Nat) (l : List Int) (least since n s q sp d : Int) (w : World) (hI : Ints w A l)
    (hLook : ∀ w, Ints w A l → Calls Try.prog 122 #[.agg #[.int .i64 cap, .slice A len c], .int .i64 least] w fun e w' => e = .returned (.int .i64 0) ∧ Below w.heap.size w w')
    (hSp : ∀ w, Ints w A l → Calls Try.prog 123 #[.agg #[.int .i64 cap, .slice A len c], .int .i64 least] w fun e w' => e = .returned (.tuple #[.agg #[.int .i64 n, .int .i64 s, .int .i64 q], .int .i64 sp]) ∧ Below w.heap.size w w')
    (h : since < 0 ∨ 1073741824 < since ∨ 0 ≤ since ∧ since ≤ 1073741824 ∧ IntKind.i64.wrap (n * since) = n * since ∧ IntKind.i64.wrap (n * since - s) = d ∧ d ≤ 0) :
    Calls Try.prog 75 #[.agg #[.int .i64 cap, .slice A len c], .int .i64 least, .int .i64 since] w fun e w' => e = .returned (.tuple #[.int .i64 0, .int .i64 (if since < 0 ∨ 1073741824 < since then 1 else 0)]) ∧ Below w.heap.size w w' := by
  have H := Lib.hid hI
  have HLook := Lib.hid hLook
  have HSp := Lib.hid hSp
  clear hI hLook hSp
  rcases h with h1 | h1 | ⟨h1, h2, h3, h4, h5⟩
  · rw [if_pos (.inl h1)]
    go_enter Try.func75, Try.ntmps75
    go_wp2_with (first
      | (go_at_call 122; refine (HLook.out _ (H.out.below ((Below.refl _ _).alloc (Nat.le_refl _) _))).mono ?_; rintro e w1 ⟨rfl, hb1⟩; have HB1 := Lib.hid (((Below.refl w.heap.size w).alloc (Nat.le_refl _) (.cells #[.int .i64 cap, .slice A len c] 38)).trans (hb1.mono (by simp))); obtain ⟨c1, f1, z1, hw1⟩ := keep1 hb1; have c10 := c1 0; have c11 := c1 1; simp at c10 c11; clear c1 f1 hb1 hw1)
      | fail)
    go_ret2
    exact ⟨rfl, HB1.out⟩
  · rw [if_pos (.inr h1)]
    go_enter Try.func75, Try.ntmps75
    go_wp2_with (first
      | (go_at_call 122; refine (HLook.out _ (H.out.below ((Below.refl _ _).alloc (Nat.le_refl _) _))).mono ?_; rintro e w1 ⟨rfl, hb1⟩; have HB1 := Lib.hid (((Below.refl w.heap.size w).alloc (Nat.le_refl _) (.cells #[.int .i64 cap, .slice A len c] 38)).trans (hb1.mono (by simp))); obtain ⟨c1, f1, z1, hw1⟩ := keep1 hb1; have c10 := c1 0; have c11 := c1 1; simp at c10 c11; clear c1 f1 hb1 hw1)
      | fail)
    go_ret2
    exact ⟨rfl, HB1.out⟩
  · rw [if_neg (by omega)]
    go_enter Try.func75, Try.ntmps75
    go_wp2_with (first
      | (go_at_call 122; refine (HLook.out _ (H.out.below ((Below.refl _ _).alloc (Nat.le_refl _) _))).mono ?_; rintro e w1 ⟨rfl, hb1⟩; have HB1 := Lib.hid (((Below.refl w.heap.size w).alloc (Nat.le_refl _) (.cells #[.int .i64 cap, .slice A len c] 38)).trans (hb1.mono (by simp))); obtain ⟨c1, f1, z1, hw1⟩ := keep1 hb1; have c10 := c1 0; have c11 := c1 1; simp at c10 c11; clear c1 f1 hb1 hw1)
      | (go_at_call 123; refine (HSp.out _ (H.out.below HB1.out)).mono ?_; rintro e w2 ⟨rfl, hb2⟩; have HB2 := Lib.hid (HB1.out.trans (hb2.mono HB1.out.size)); clear hb2)
      | fail)
    go_ret2
    exact ⟨rfl, HB2.out.alloc HB2.out.size _⟩

theorem gain_in {l : List Int} {since : Int} (hl : listCheck l = 0) (h1 : 0 ≤ since) (h2 : since ≤ 1073741824) : 0 ≤ (l.length : Int) * since ∧ (l.length : Int) * since ≤ 68719476736 ∧ (l.length : Int) * since - sumOf l ≤ 68719476736 ∧ -1073741824 ≤ (l.length : Int) * since - sumOf l := by
  obtain ⟨h64, hv⟩ := list_ok hl
  obtain ⟨s1, s2, _⟩ := sums_in l hv
  have a : (l.length : Int) * since ≤ 64 * since := Int.mul_le_mul_of_nonneg_right (by omega) h1
  have b : 0 ≤ (l.length : Int) * since := Int.mul_nonneg (by omega) h1
  omega

theorem levelof_any (cap : Int) (A : Option Addr) (c : Nat) (l : List Int) (least since : Int) (w : World) (h : Ints w A l) :
    Calls Try.prog 75 #[.agg #[.int .i64 cap, .slice A l.length c], .int .i64 least, .int .i64 since] w fun e w' => e = .returned (.tuple #[.int .i64 (levelOf cap l least since).1, .int .i64 (levelOf cap l least since).2]) ∧ Below w.heap.size w w' := by
  by_cases hk : lookI cap l least = 0
  · obtain ⟨k1, k2, k3, k4⟩ := look_ok hk
    have hl := win_list k1
    have hLook : ∀ w, Ints w A l → Calls Try.prog 122 #[.agg #[.int .i64 cap, .slice A l.length c], .int .i64 least] w fun e w' => e = .returned (.int .i64 0) ∧ Below w.heap.size w w' := fun w h => by
      have := look_any cap A c l least w h
      rwa [hk] at this
    have hSp : ∀ w, Ints w A l → Calls Try.prog 123 #[.agg #[.int .i64 cap, .slice A l.length c], .int .i64 least] w fun e w' => e = .returned (.tuple #[.agg #[.int .i64 l.length, .int .i64 (sumOf l), .int .i64 (sqOf l)], .int .i64 (spread l least)]) ∧ Below w.heap.size w w' := fun w h => spread_any cap A c l least w h hl k2 k3
    have hlv : levelOf cap l least since = if since < 0 ∨ 1073741824 < since then ((0 : Int), (1 : Int)) else if (l.length : Int) * since - sumOf l ≤ 0 then ((0 : Int), (0 : Int)) else (((((spread l least + ((l.length : Int) * since - sumOf l) * ((l.length : Int) * since - sumOf l)) / spread l least).toNat.log2 : Nat) : Int), (0 : Int)) := by
      unfold levelOf
      rw [if_neg (by simp [k1]), if_neg (by omega), if_neg (by omega)]
    rw [hlv]
    by_cases hs : since < 0 ∨ 1073741824 < since
    · have := levelof_early cap A l.length c l least since l.length (sumOf l) (sqOf l) (spread l least) 0 w h hLook hSp (by omega)
      rw [if_pos hs] at this ⊢
      exact this
    · obtain ⟨g1, g2, g3, g4⟩ := gain_in (since := since) hl (by omega) (by omega)
      have hw1 : IntKind.i64.wrap ((l.length : Int) * since) = (l.length : Int) * since := IntWalk.i64_in _ (by omega)
      have hw2 : IntKind.i64.wrap ((l.length : Int) * since - sumOf l) = (l.length : Int) * since - sumOf l := IntWalk.i64_in _ (by omega)
      rw [if_neg hs]
      by_cases hd : (l.length : Int) * since - sumOf l ≤ 0
      · have := levelof_early cap A l.length c l least since l.length (sumOf l) (sqOf l) (spread l least) _ w h hLook hSp (.inr (.inr ⟨by omega, by omega, hw1, hw2, hd⟩))
        rw [if_neg hs] at this
        rw [if_pos hd]
        exact this
      · rw [if_neg hd]
        obtain ⟨p1, p2⟩ := spread_in hl k4 k2 k3
        obtain ⟨S, hS⟩ := Int.eq_ofNat_of_zero_le (a := spread l least) (by omega)
        obtain ⟨d, hdd⟩ : ∃ d, (l.length : Int) * since - sumOf l = d := ⟨_, rfl⟩
        have hw2 := hw2.trans hdd
        rw [hdd] at hd g3 g4 ⊢
        clear hdd
        obtain ⟨D, rfl⟩ := Int.eq_ofNat_of_zero_le (a := d) (by omega)
        rw [hS] at hSp p1 p2 ⊢
        have hDD : D * D ≤ 68719476736 * 68719476736 := Nat.mul_le_mul (by omega) (by omega)
        have hr : (((S : Int) + (D : Int) * (D : Int)) / (S : Int)).toNat = (S + D * D) / S := by
          have : ((S : Int) + (D : Int) * (D : Int)) / (S : Int) = (((S + D * D) / S : Nat) : Int) := by push_cast; rfl
          rw [this]
          rfl
        rw [hr]
        refine levelof_core cap A l.length c l least since l.length (sumOf l) (sqOf l) S D (((D * D : Nat) : Int) / 18446744073709551616) (((D * D : Nat) : Int) % 18446744073709551616) (((S + D * D : Nat) : Int) / 18446744073709551616) (((S + D * D : Nat) : Int) % 18446744073709551616) _ w h hLook hSp (fun w => ?_) (fun w => ?_) (fun w => ?_) (by omega) (by omega) hw1 hw2 (by omega) (by rw [IntKind.wrap_u64]; omega) (by rw [IntKind.wrap_u64]; omega)
        · have := prodmul_any D D (by omega) (by omega) w
          rwa [wideV_eq] at this
        · have := wadd_any S (D * D) (by omega) w
          rw [wideV_eq, wideV_eq, wideV_eq] at this
          unfold wideI at this
          rw [show ((S : Int) / 18446744073709551616) = 0 by omega, show ((S : Int) % 18446744073709551616) = S by omega] at this
          exact this
        · have := halvings_any (S + D * D) S w (by omega) (by omega) (by omega) (by omega)
          unfold wideI at this
          rw [show ((S : Int) / 18446744073709551616) = 0 by omega, show ((S : Int) % 18446744073709551616) = S by omega] at this
          exact this
  · have hkb : (lookI cap l least != 0) = true := by simp [hk]
    exact levelof_bad cap A c l least since w h hk

end Go.Proofs.Ytmclalhjnjghnaa
