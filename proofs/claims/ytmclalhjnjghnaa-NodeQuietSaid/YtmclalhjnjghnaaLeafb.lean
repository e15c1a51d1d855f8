/- The contracts of the small functions, further: win.List, win.Check, beat.Check, gate.Take. -/
import Derived.Test.YtmclalhjnjghnaaLeaf
namespace Go.Proofs.Ytmclalhjnjghnaa
open Go.RowKit Hw

set_option maxHeartbeats 400000 in
theorem containsBad_any (A : Option Addr) (c : Nat) (l : List Int) (w : World) (h : Ints w A l) (hl : l.length ≤ 64) :
    Calls Try.prog 136 #[.slice A l.length c, .func (.func 137) #[] #[]] w fun e w' => e = .returned (.bool (l.any (fun n => !valOk n))) ∧ w = w' := by
  go_enter Try.func136, Try.ntmps136
  go_wp2_with (go_at_call 154; refine (indexBad_any A c l _ h hl).mono ?_; rintro e w1 ⟨⟨i, rfl, hi⟩, rfl⟩; have Hi := Lib.hid hi; clear hi)
  go_ret
  exact ⟨ret_bool Hi.out, rfl⟩

set_option maxHeartbeats 400000 in
theorem list_any (A : Option Addr) (c : Nat) (l : List Int) (w : World) (h : Ints w A l) :
    Calls Try.prog 114 #[.slice A l.length c] w fun e w' => e = .returned (.int .i64 (listCheck l)) ∧ w = w' := by
  by_cases hl : 64 < l.length
  · go_enter Try.func114, Try.ntmps114
    go_wp2_with fail
    go_ret
    exact ⟨ret_int (by simp [listCheck, hl]), rfl⟩
  · have hl' : l.length ≤ 64 := by omega
    have Hh := Lib.hid h
    go_enter Try.func114, Try.ntmps114
    go_wp2_with (go_at_call 136; refine (containsBad_any A c l _ Hh.out hl').mono ?_; rintro e w1 ⟨rfl, rfl⟩)
    · have hb : (l.any fun n => !valOk n) = true := by assumption
      go_ret
      exact ⟨ret_int (by rw [listCheck, if_neg hl, if_pos hb]), rfl⟩
    · have hb : (l.any fun n => !valOk n) = false := by assumption
      go_ret
      exact ⟨ret_int (by rw [listCheck, if_neg hl, hb]; rfl), rfl⟩

set_option maxHeartbeats 400000 in
theorem wcheck_any (cap : Int) (A : Option Addr) (c : Nat) (l : List Int) (w : World) (h : Ints w A l) :
    Calls Try.prog 105 #[.agg #[.int .i64 cap, .slice A l.length c]] w fun e w' => e = .returned (.int .i64 (winCheck cap l)) ∧ Below w.heap.size w w' := by
  have Hh := Lib.hid h
  clear h
  go_enter Try.func105, Try.ntmps105
  go_wp2_with (go_at_call 114; refine (list_any A c l _ (Hh.out.below ((Below.refl _ _).alloc (Nat.le_refl _) _))).mono ?_; rintro e w1 ⟨rfl, rfl⟩)
  all_goals
    go_ret
    exact ⟨ret_int (by unfold winCheck; split <;> (try split) <;> omega), (Below.refl _ _).alloc (Nat.le_refl _) _⟩

set_option maxHeartbeats 400000 in
theorem bcheck_any (b : Beat) (w : World) :
    Calls Try.prog 89 #[.agg #[.string b.id, .int .i64 b.inc, .int .i64 b.seq]] w fun e w' => e = .returned (.int .i64 (beatCheck b)) ∧ Below w.heap.size w w' := by
  obtain ⟨id, inc, seq⟩ := b
  go_enter Try.func89, Try.ntmps89
  go_wp2_with (go_at_call 83; refine (id_any id _).mono ?_; rintro e w1 ⟨rfl, rfl⟩)
  all_goals
    go_ret
    exact ⟨ret_int (by simp_all [beatCheck] <;> omega), (Below.refl _ _).alloc (Nat.le_refl _) _⟩

theorem gate_bounds {g : Gate} (h : gateCheck g = 0) : 0 ≤ g.inc ∧ g.inc < 2147483648 ∧ 0 ≤ g.seq ∧ g.seq < 2147483648 ∧ 0 ≤ g.drops ∧ g.drops ≤ 1073741824 := by
  unfold gateCheck at h
  split at h
  · cases h
  · omega

def takeV (t : Gate × Bool × Int) : Value := .tuple #[.agg #[.int .i64 t.1.inc, .int .i64 t.1.seq, .int .i64 t.1.drops], .bool t.2.1, .int .i64 t.2.2]

theorem take_bad {g : Gate} {inc seq : Int} (hg : gateCheck g = 0) (h : inc < 0 ∨ 2147483648 ≤ inc ∨ seq < 1 ∨ 2147483648 ≤ seq) : take g inc seq = (⟨0, 0, 0⟩, false, 1) := by
  unfold take
  rw [if_neg (by simp [hg]), if_pos h]
theorem take_yes {g : Gate} {inc seq : Int} (hg : gateCheck g = 0) (h : ¬ (inc < 0 ∨ 2147483648 ≤ inc ∨ seq < 1 ∨ 2147483648 ≤ seq)) (hy : g.inc < inc ∨ (inc = g.inc ∧ g.seq < seq)) :
    take g inc seq = (⟨inc, seq, g.drops⟩, true, 0) := by
  unfold take
  rw [if_neg (by simp [hg]), if_neg h, if_pos hy]
theorem take_no {g : Gate} {inc seq : Int} (hg : gateCheck g = 0) (h : ¬ (inc < 0 ∨ 2147483648 ≤ inc ∨ seq < 1 ∨ 2147483648 ≤ seq)) (hy : ¬ (g.inc < inc ∨ (inc = g.inc ∧ g.seq < seq))) :
    take g inc seq = (⟨g.inc, g.seq, min (g.drops + 1) 1073741824⟩, false, 0) := by
  unfold take
  rw [if_neg (by simp [hg]), if_neg h, if_neg hy]

set_option maxHeartbeats 1000000 in
theorem take_any (g : Gate) (inc seq : Int) (w : World) :
    Calls Try.prog 90 #[.agg #[.int .i64 g.inc, .int .i64 g.seq, .int .i64 g.drops], .int .i64 inc, .int .i64 seq] w
      fun e w' => e = .returned (takeV (take g inc seq)) ∧ Below w.heap.size w w' := by
  by_cases hg : gateCheck g = 0
  · have hb : (gateCheck g != 0) = false := by simp [hg]
    obtain ⟨-, -, -, -, hd1, hd2⟩ := gate_bounds hg
    have Hg := Lib.hid hg
    clear hg
    go_enter Try.func90, Try.ntmps90
    go_wp2_with (go_at_call 104; refine (gcheck_any g _).mono ?_; rintro e w1 ⟨rfl, hb1⟩; obtain ⟨c0, f0, c1, f1, z1, hb2⟩ := keep2 hb1; clear hb1)
    all_goals first
      | (rw [take_bad Hg.out (by omega)]
         refine bodyPost_ret (v := .tuple #[.agg #[.int .i64 0, .int .i64 0, .int .i64 0], .bool false, .int .i64 1]) (by simp [results, Try.results90, go_sem, c1]) rfl ⟨rfl, ?_⟩)
      | (rw [take_yes Hg.out (by omega) (by omega)]
         refine bodyPost_ret (v := .tuple #[.agg #[.int .i64 inc, .int .i64 seq, .int .i64 g.drops], .bool true, .int .i64 0]) (by simp [results, Try.results90, go_sem, c1]; try omega) rfl ⟨rfl, ?_⟩)
      | (rw [take_no Hg.out (by omega) (by omega)]
         refine bodyPost_ret (v := .tuple #[.agg #[.int .i64 g.inc, .int .i64 g.seq, .int .i64 (min (g.drops + 1) 1073741824)], .bool false, .int .i64 0]) (by simp [results, Try.results90, go_sem, c1]; try omega) rfl ⟨rfl, ?_⟩)
    all_goals (repeat (first | exact hb2 | refine Below.setCell ?_ (by simp) _))
  · have hb : (gateCheck g != 0) = true := by simp [hg]
    go_enter Try.func90, Try.ntmps90
    go_wp2_with (go_at_call 104; refine (gcheck_any g _).mono ?_; rintro e w1 ⟨rfl, hb1⟩; obtain ⟨c0, f0, c1, f1, z1, hb2⟩ := keep2 hb1; clear hb1)
    have ht : take g inc seq = (⟨0, 0, 0⟩, false, gateCheck g) := by unfold take; rw [if_pos hg]
    rw [ht]
    refine bodyPost_ret (v := .tuple #[.agg #[.int .i64 0, .int .i64 0, .int .i64 0], .bool false, .int .i64 (gateCheck g)]) (by simp [results, Try.results90, go_sem, c1]) rfl ⟨rfl, ?_⟩
    all_goals (repeat (first | exact hb2 | refine Below.setCell ?_ (by simp) _))

end Go.Proofs.Ytmclalhjnjghnaa
