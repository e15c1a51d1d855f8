/- Contracts of stat.Of, stat.Check, stat.Spread and level.spread. -/
import Derived.Test.YtmclalhjnjghnaaBaseA
namespace Go.Proofs.Ytmclalhjnjghnaa
open Go.RowKit Hw

def sumsV (n s q : Int) : Value := .agg #[.int .i64 n, .int .i64 s, .int .i64 q]

theorem list_ok {l : List Int} (h : listCheck l = 0) : l.length ≤ 64 ∧ ∀ x ∈ l, 0 ≤ x ∧ x ≤ 16777216 := by
  unfold listCheck at h
  split at h
  · cases h
  · split at h
    · cases h
    · rename_i h1 h2
      refine ⟨by omega, fun x hx => ?_⟩
      rw [List.any_eq_true] at h2
      have : valOk x = true := by
        cases hv : valOk x with
        | true => rfl
        | false => exact absurd ⟨x, hx, by simp [hv]⟩ h2
      unfold valOk at this
      simpa using this

theorem win_list {cap : Int} {l : List Int} (h : winCheck cap l = 0) : listCheck l = 0 := by
  unfold winCheck at h
  split at h
  · cases h
  · split at h
    · cases h
    · exact h

theorem foldl_add_init (f : Int → Int) (l : List Int) : ∀ a, l.foldl (fun a x => a + f x) a = a + l.foldl (fun a x => a + f x) 0 := by
  induction l with
  | nil => intro a; simp
  | cons x l ih =>
    intro a
    simp only [List.foldl_cons]
    rw [ih (a + f x), ih (0 + f x)]
    omega

theorem sum_cons (x : Int) (l : List Int) : sumOf (x :: l) = x + sumOf l := by
  have := foldl_add_init (fun x => x) l x
  unfold sumOf
  simp only [List.foldl_cons, Int.zero_add]
  exact this
theorem sq_cons (x : Int) (l : List Int) : sqOf (x :: l) = x * x + sqOf l := by
  have := foldl_add_init (fun x => x * x) l (x * x)
  unfold sqOf
  simp only [List.foldl_cons, Int.zero_add]
  exact this

theorem sum_snoc (l : List Int) (x : Int) : sumOf (l ++ [x]) = sumOf l + x := by simp [sumOf]
theorem sq_snoc (l : List Int) (x : Int) : sqOf (l ++ [x]) = sqOf l + x * x := by simp [sqOf]
theorem sums_nil : sumOf [] = 0 ∧ sqOf [] = 0 := ⟨rfl, rfl⟩

theorem mul_self_in {x : Int} (h1 : 0 ≤ x) (h2 : x ≤ 16777216) : x ≤ x * x + 0 ∧ 0 ≤ x * x ∧ x * x ≤ 281474976710656 ∧ x * x ≤ x * 16777216 := by
  have a : x * x ≤ x * 16777216 := Int.mul_le_mul_of_nonneg_left h2 h1
  have b : 0 ≤ x * x := Int.mul_nonneg h1 h1
  have c : x * 16777216 ≤ 16777216 * 16777216 := by omega
  refine ⟨?_, b, by omega, a⟩
  by_cases h : x = 0
  · omega
  · have : x * 1 ≤ x * x := Int.mul_le_mul_of_nonneg_left (by omega) h1
    omega

/-- What sums of values are within. -/
theorem sums_in (l : List Int) (h : ∀ x ∈ l, 0 ≤ x ∧ x ≤ 16777216) : 0 ≤ sumOf l ∧ sumOf l ≤ l.length * 16777216 ∧ sumOf l ≤ sqOf l ∧ sqOf l ≤ l.length * 281474976710656 ∧ sqOf l ≤ sumOf l * 16777216 := by
  induction l with
  | nil => simp [sumOf, sqOf]
  | cons x l ih =>
    obtain ⟨i1, i2, i3, i4, i5⟩ := ih fun y hy => h y (by simp [hy])
    obtain ⟨x1, x2⟩ := h x (by simp)
    obtain ⟨m1, m2, m3, m4⟩ := mul_self_in x1 x2
    rw [sum_cons, sq_cons, List.length_cons]
    refine ⟨?_, ?_, ?_, ?_, ?_⟩ <;> omega

set_option maxRecDepth 100000 in
set_option maxHeartbeats 1000000 in
theorem statof_any (A : Option Addr) (c : Nat) (l : List Int) (w : World) (h : Ints w A l) (hl : listCheck l = 0) :
    Calls Try.prog 73 #[.slice A l.length c] w fun e w' => e = .returned (.tuple #[sumsV l.length (sumOf l) (sqOf l), .int .i64 0]) ∧ Below w.heap.size w w' := by
  have H := Lib.hid h
  obtain ⟨h64, hv⟩ := list_ok hl
  have HV := Lib.hid hv
  have hlb : (listCheck l != 0) = false := by simp [hl]
  clear h hv
  go_enter Try.func73, Try.ntmps73
  go_wp2_with (go_at_call 114; refine (list_any A c l _ (H.out.below ((Below.refl _ _).alloc (Nat.le_refl _) _))).mono ?_; rintro e w1 ⟨rfl, rfl⟩)
  go_loopw [7, 19] (fun _ i wr => ∃ k : Nat, k ≤ l.length ∧ i = .int .i64 k ∧ Hid (Below w.heap.size w wr) ∧ Hid (wr.heap[w.heap.size]? = some (.cells #[.int .i64 0, .int .i64 0, .int .i64 0] 115 (0, 0))) ∧
    Hid (wr.heap[(w.heap.size + 1)]? = some (.cells #[.int .i64 l.length, .int .i64 (sumOf (l.take k)), .int .i64 (sqOf (l.take k))] 115 (0, 0))) ) (fun _ i _ => l.length - (intOf i).toNat)
  case atStart =>
    have hbb := ((Below.refl w.heap.size w).alloc (Nat.le_refl _) (.cells #[.int .i64 0, .int .i64 0, .int .i64 0] 115)).alloc (by simp) (.cells #[.int .i64 l.length, .int .i64 0, .int .i64 0] 115)
    exact ⟨0, by omega, rfl, hbb, heap_alloc2_old _ _ _, heap_alloc2_new _ _ _⟩
  case round =>
    obtain ⟨k, hk, rfl, HB, H0, H1⟩ := hrel
    have a0 := cell_of_row wr (w.heap.size + 1) 0 _ 115 (0, 0) H1.out
    have a1 := cell_of_row wr (w.heap.size + 1) 1 _ 115 (0, 0) H1.out
    have a2 := cell_of_row wr (w.heap.size + 1) 2 _ 115 (0, 0) H1.out
    have b0 := cell_of_row wr w.heap.size 0 _ 115 (0, 0) H0.out
    have b1 := cell_of_row wr w.heap.size 1 _ 115 (0, 0) H0.out
    have b2 := cell_of_row wr w.heap.size 2 _ 115 (0, 0) H0.out
    simp at a0 a1 a2 b0 b1 b2
    have g0 := frozen_of_row wr (w.heap.size + 1) 1 _ 115 H1.out
    have g1 := frozen_of_row wr (w.heap.size + 1) 2 _ 115 H1.out
    have e0 := frozen_of_row wr w.heap.size 0 _ 115 H0.out
    have e1 := frozen_of_row wr w.heap.size 1 _ 115 H0.out
    have e2 := frozen_of_row wr w.heap.size 2 _ 115 H0.out
    by_cases hlt : k < l.length
    · obtain ⟨b, off, rfl, hc⟩ := (H.out.below HB.out) (by omega)
      have q := hc k hlt
      have hin := sums_in (l.take k) fun x hx => HV.out x (List.mem_of_mem_take hx)
      have hx := HV.out (l.getD k 0) (by rw [List.getD_eq_getElem?_getD, List.getElem?_eq_getElem hlt]; simp)
      have hm := mul_self_in hx.1 hx.2
      have hs1 : sumOf (l.take (k + 1)) = sumOf (l.take k) + l.getD k 0 := by
        rw [List.take_succ_eq_append_getElem hlt, sum_snoc, List.getD_eq_getElem?_getD, List.getElem?_eq_getElem hlt]
        rfl
      have hs2 : sqOf (l.take (k + 1)) = sqOf (l.take k) + l.getD k 0 * l.getD k 0 := by
        rw [List.take_succ_eq_append_getElem hlt, sq_snoc, List.getD_eq_getElem?_getD, List.getElem?_eq_getElem hlt]
        rfl
      have HS1 := Lib.hid hs1
      have HS2 := Lib.hid hs2
      have htk : (l.take k).length = k := by simp; omega
      rw [htk] at hin
      generalize l.getD k 0 = x at q hx hm HS1 HS2
      obtain ⟨s, hs⟩ : ∃ s, sumOf (l.take k) = s := ⟨_, rfl⟩
      obtain ⟨u, hu⟩ : ∃ u, sqOf (l.take k) = u := ⟨_, rfl⟩
      rw [hs] at a1 hin HS1
      rw [hu] at a2 hin HS2
      have hki : (k : Int) < (l.length : Int) := by omega
      have hk0 : (0 : Int) ≤ (k : Int) := by omega
      have hkw : IntKind.i64.wrap ((k : Int) + 1) = (k : Int) + 1 := IntWalk.i64_in _ (by omega)
      have hw1' : IntKind.i64.wrap (s + x) = s + x := IntWalk.i64_in _ (by omega)
      have hw2' : IntKind.i64.wrap (x * x) = x * x := IntWalk.i64_in _ (by omega)
      have hw3' : IntKind.i64.wrap (u + x * x) = u + x * x := IntWalk.i64_in _ (by omega)
      clear hc hs1 hs2 htk hs hu
      go_wp2_with fail
      go_roundw
      case rel =>
        refine ⟨k + 1, by omega, by go_num, (HB.out.setCell (by simp) _).setCell (by simp) _, ?_, ?_⟩
        · exact (heap_setCell_other _ _ _ _ (by simp)).trans ((heap_setCell_other _ _ _ _ (by simp)).trans H0.out)
        · have t := heap_setCell_same _ (w.heap.size + 1) 2 _ 115 (.int .i64 (u + x * x)) (heap_setCell_same wr (w.heap.size + 1) 1 _ 115 (.int .i64 (s + x)) H1.out)
          refine t.trans ?_
          rw [HS1.out, HS2.out]
          rfl
      case measure => simp [intOf]; omega
    · have hkl : k = l.length := by omega
      subst hkl
      rw [List.take_length] at a1 a2
      go_wp2_with fail
      refine bodyPost_ret (v := .tuple #[sumsV l.length (sumOf l) (sqOf l), .int .i64 0]) (by simp [results, Try.results73, go_sem, sumsV, b0, b1, b2]) rfl ⟨rfl, ?_⟩
      repeat (first | exact HB.out | refine Below.setCell ?_ (by simp) _)

/-- Sums that come of values. -/
def SumsOk (n s q : Int) : Prop := 0 ≤ n ∧ n ≤ 64 ∧ 0 ≤ s ∧ s ≤ n * 16777216 ∧ s ≤ q ∧ q ≤ s * 16777216 ∧ q ≤ n * 281474976710656

theorem prods_in {n s q : Int} (h : SumsOk n s q) : 0 ≤ n * q ∧ n * q ≤ 1152921504606846976 ∧ 0 ≤ s * s ∧ s * s ≤ 1152921504606846976 := by
  obtain ⟨h1, h2, h3, h4, h5, h6, h7⟩ := h
  have a : n * q ≤ 64 * q := Int.mul_le_mul_of_nonneg_right h2 (by omega)
  have b : 0 ≤ n * q := Int.mul_nonneg h1 (by omega)
  have c : s * s ≤ 1073741824 * s := Int.mul_le_mul_of_nonneg_right (by omega) h3
  have d : 0 ≤ s * s := Int.mul_nonneg h3 h3
  omega

theorem statcheck_of {n s q : Int} (h : SumsOk n s q) : statCheck n s q = if n * q < s * s then 9 else 0 := by
  obtain ⟨h1, h2, h3, h4, h5, h6, h7⟩ := h
  unfold statCheck
  rw [if_neg (by omega)]

set_option maxRecDepth 100000 in
set_option maxHeartbeats 1000000 in
theorem statcheck_any (n s q : Int) (w : World) (h : SumsOk n s q) : Calls Try.prog 160 #[sumsV n s q] w fun e w' => e = .returned (.int .i64 (statCheck n s q)) ∧ Below w.heap.size w w' := by
  obtain ⟨p1, p2, p3, p4⟩ := prods_in h
  have hr := statcheck_of h
  have Hr := Lib.hid hr
  obtain ⟨h1, h2, h3, h4, h5, h6, h7⟩ := h
  have w1 : IntKind.i64.wrap (n * q) = n * q := IntWalk.i64_in _ (by omega)
  have w2 : IntKind.i64.wrap (s * s) = s * s := IntWalk.i64_in _ (by omega)
  have w3 : IntKind.i64.wrap (n * 16777216) = n * 16777216 := IntWalk.i64_in _ (by omega)
  have w4 : IntKind.i64.wrap (s * 16777216) = s * 16777216 := IntWalk.i64_in _ (by omega)
  have t1 : ¬ n < 0 := by omega
  have t2 : ¬ 64 < n := by omega
  have t3 : ¬ s < 0 := by omega
  have t4 : ¬ q < 0 := by omega
  have t5 : ¬ n * 16777216 < s := by omega
  have t6 : ¬ s * 16777216 < q := by omega
  have t7 : ¬ q < s := by omega
  clear hr
  unfold sumsV
  by_cases hlt : n * q < s * s
  · go_enter Try.func160, Try.ntmps160
    go_wp2_with fail
    go_ret
    exact ⟨ret_int (by rw [Hr.out, if_pos hlt]), (Below.refl _ _).alloc (Nat.le_refl _) _⟩
  · go_enter Try.func160, Try.ntmps160
    go_wp2_with fail
    go_ret
    exact ⟨ret_int (by rw [Hr.out, if_neg (by omega)]), (Below.refl _ _).alloc (Nat.le_refl _) _⟩

/-- 'stat.Spread'. -/
def statSpread (n s q : Int) : Int := if statCheck n s q ≠ 0 then 0 else n * q - s * s

set_option maxRecDepth 100000 in
set_option maxHeartbeats 1000000 in
theorem statspread_any (n s q : Int) (w : World) (h : SumsOk n s q) : Calls Try.prog 146 #[sumsV n s q] w fun e w' => e = .returned (.tuple #[.int .i64 (statSpread n s q), .int .i64 (statCheck n s q)]) ∧ Below w.heap.size w w' := by
  obtain ⟨p1, p2, p3, p4⟩ := prods_in h
  have H := Lib.hid h
  have w1 : IntKind.i64.wrap (n * q) = n * q := IntWalk.i64_in _ (by omega)
  have w2 : IntKind.i64.wrap (s * s) = s * s := IntWalk.i64_in _ (by omega)
  have w3 : IntKind.i64.wrap (n * q - s * s) = n * q - s * s := IntWalk.i64_in _ (by omega)
  unfold sumsV
  clear h
  go_enter Try.func146, Try.ntmps146
  go_wp2_with (go_at_call 160; refine (statcheck_any n s q _ H.out).mono ?_; rintro e w5 ⟨rfl, hb1⟩; obtain ⟨c1, f1, z1, hw1⟩ := keep1 hb1; have c10 := c1 0; have c11 := c1 1; have c12 := c1 2; simp at c10 c11 c12; clear c1 f1 hb1)
  all_goals go_ret2
  · have hq : (statCheck n s q != 0) = true := by assumption
    refine ⟨?_, hw1⟩
    rw [show statSpread n s q = 0 by unfold statSpread; rw [if_pos (by simpa using hq)]]
    rfl
  · have hq : (statCheck n s q != 0) = false := by assumption
    refine ⟨?_, hw1⟩
    have h0 : statCheck n s q = 0 := by simpa using hq
    rw [show statSpread n s q = n * q - s * s by unfold statSpread; rw [if_neg (by simpa using hq)], h0]
    rfl

theorem sumsOk {l : List Int} (h : listCheck l = 0) : SumsOk l.length (sumOf l) (sqOf l) := by
  obtain ⟨h1, h2⟩ := list_ok h
  obtain ⟨a, b, c, d, e⟩ := sums_in l h2
  unfold SumsOk
  omega

theorem spread_eq (l : List Int) (least : Int) : spread l least = max (statSpread l.length (sumOf l) (sqOf l)) ((l.length : Int) * l.length * least * least) := rfl

theorem least_in {n m : Int} (h1 : 0 ≤ n) (h2 : n ≤ 64) (h3 : 1 ≤ m) (h4 : m ≤ 16777216) : 0 ≤ n * n ∧ n * n ≤ 4096 ∧ 0 ≤ n * n * m ∧ n * n * m ≤ 68719476736 ∧ 0 ≤ n * n * m * m ∧ n * n * m * m ≤ 1152921504606846976 := by
  have a0 : 0 ≤ n * n := Int.mul_nonneg h1 h1
  have a : n * n ≤ 64 * n := Int.mul_le_mul_of_nonneg_right h2 h1
  have b0 : 0 ≤ n * n * m := Int.mul_nonneg a0 (by omega)
  have b : n * n * m ≤ 4096 * m := Int.mul_le_mul_of_nonneg_right (by omega) (by omega)
  have c0 : 0 ≤ n * n * m * m := Int.mul_nonneg b0 (by omega)
  have c : n * n * m * m ≤ 68719476736 * m := Int.mul_le_mul_of_nonneg_right (by omega) (by omega)
  omega

set_option maxRecDepth 100000 in
set_option maxHeartbeats 1000000 in
theorem spread_any (cap : Int) (A : Option Addr) (c : Nat) (l : List Int) (least : Int) (w : World) (h : Ints w A l) (hl : listCheck l = 0) (h1 : 1 ≤ least) (h2 : least ≤ 16777216) :
    Calls Try.prog 123 #[.agg #[.int .i64 cap, .slice A l.length c], .int .i64 least] w fun e w' => e = .returned (.tuple #[sumsV l.length (sumOf l) (sqOf l), .int .i64 (spread l least)]) ∧ Below w.heap.size w w' := by
  have H := Lib.hid h
  have hs := sumsOk hl
  obtain ⟨q1, q2, q3, q4⟩ := prods_in hs
  have HS := Lib.hid hs
  obtain ⟨h64, _⟩ := list_ok hl
  obtain ⟨m1, m2, m3, m4, m5, m6⟩ := least_in (n := (l.length : Int)) (m := least) (by omega) (by omega) h1 h2
  have w1' : IntKind.i64.wrap ((l.length : Int) * l.length) = (l.length : Int) * l.length := IntWalk.i64_in _ (by omega)
  have w2' : IntKind.i64.wrap ((l.length : Int) * l.length * least) = (l.length : Int) * l.length * least := IntWalk.i64_in _ (by omega)
  have w3' : IntKind.i64.wrap ((l.length : Int) * l.length * least * least) = (l.length : Int) * l.length * least * least := IntWalk.i64_in _ (by omega)
  clear h hs
  go_enter Try.func123, Try.ntmps123
  go_wp2_with (first
    | (go_at_call 73; refine (statof_any A c l _ (H.out.below (((Below.refl _ _).alloc (Nat.le_refl _) _).alloc (by simp) _)) hl).mono ?_; rintro e w5 ⟨rfl, hb1⟩; unfold sumsV; obtain ⟨c1, f1, d1, g1, z1, hw1⟩ := keep2 hb1; have C1 := Lib.hid c1; have D1 := Lib.hid d1; have G1 := Lib.hid g1; have Hw1 := Lib.hid hw1; clear c1 f1 d1 g1 hb1 hw1)
    | (go_at_call 146; refine (statspread_any l.length (sumOf l) (sqOf l) _ HS.out).mono ?_; rintro e w6 ⟨rfl, hb2⟩; have Hb2 := Lib.hid hb2; clear hb2)
    | fail)
  have hb5 : Below w5.heap.size w5 w6 := ((Below.refl _ _).alloc (Nat.le_refl _) _).trans (Hb2.out.mono (by simp))
  have x0 := bsome hb5 ((D1.out 0).trans (by rfl : _ = some (.int .i64 0)))
  have x1 := bsome hb5 ((D1.out 1).trans (by rfl : _ = some (.int .i64 0)))
  have x2 := bsome hb5 ((D1.out 2).trans (by rfl : _ = some (.int .i64 0)))
  have y0 := (hb5.frozen (p := ⟨w.heap.size + 1, 0, none⟩) z1).trans (G1.out 0)
  have y1 := (hb5.frozen (p := ⟨w.heap.size + 1, 1, none⟩) z1).trans (G1.out 1)
  have y2 := (hb5.frozen (p := ⟨w.heap.size + 1, 2, none⟩) z1).trans (G1.out 2)
  have u0 := Hb2.out.cell (p := ⟨w5.heap.size, 0, none⟩) (by simp)
  have u1 := Hb2.out.cell (p := ⟨w5.heap.size, 1, none⟩) (by simp)
  have u2 := Hb2.out.cell (p := ⟨w5.heap.size, 2, none⟩) (by simp)
  simp at u0 u1 u2
  have HW := Lib.hid (Hw1.out.trans (hb5.mono Hw1.out.size))
  have hsp := spread_eq l least
  have Hsp := Lib.hid hsp
  clear hb5 hsp
  go_region
  all_goals go_wp2_with fail
  all_goals
    rw [Hsp.out]
    first
      | (rw [Int.max_eq_right (by omega)]
         refine bodyPost_ret (v := .tuple #[sumsV l.length (sumOf l) (sqOf l), .int .i64 ((l.length : Int) * l.length * least * least)]) (by simp [results, Try.results123, go_sem, sumsV, x0, x1, x2]) rfl ⟨rfl, ?_⟩)
      | (rw [Int.max_eq_left (by omega)]
         refine bodyPost_ret (v := .tuple #[sumsV l.length (sumOf l) (sqOf l), .int .i64 (statSpread l.length (sumOf l) (sqOf l))]) (by simp [results, Try.results123, go_sem, sumsV, x0, x1, x2]) rfl ⟨rfl, ?_⟩)
    repeat (first | exact HW.out | refine Below.setCell ?_ (by simp) _ | refine Below.drew ?_)

end Go.Proofs.Ytmclalhjnjghnaa
