/- Contracts of spoil and spoilt: they write into the rows that they are handed, and nowhere else. -/
import Derived.Test.YtmclalhjnjghnaaCop
namespace Go.Proofs.Ytmclalhjnjghnaa
open Go.RowKit Hw

/-- A row that may be spoilt: nothing, or a whole block. -/
def Rw (w : World) (B E : Nat) (t : TypeId) (size : Nat) (v : Value) : Prop :=
  v = .slice none 0 0 ∨ ∃ g n c cur, v = .slice (some ⟨g, 0, none⟩) n c ∧ B ≤ g ∧ g < E ∧ n ≤ c ∧ c ≤ maxLen ∧ w.heap[g]? = some (.cells cur t (0, 0)) ∧ cur.size = c * size

/-- Some rows within [B, E) may hold something else, every block keeps its form. -/
structure Spoils (B E : Nat) (w w' : World) : Prop where
  low : Below B w w'
  high : ∀ k, E ≤ k → k < w.heap.size → w'.heap[k]? = w.heap[k]?
  form : ∀ (k : Nat) (t : TypeId) (cur : Array Value), w.heap[k]? = some (.cells cur t (0, 0)) → ∃ cur', w'.heap[k]? = some (.cells cur' t (0, 0)) ∧ cur'.size = cur.size

theorem Spoils.refl (B E : Nat) (w : World) : Spoils B E w w := ⟨Below.refl _ _, fun _ _ _ => rfl, fun _ _ cur h => ⟨cur, h, rfl⟩⟩

theorem Spoils.trans {B E : Nat} {w w1 w2 : World} (h : Spoils B E w w1) (h2 : Spoils B E w1 w2) : Spoils B E w w2 := by
  refine ⟨h.low.trans h2.low, fun k hk hs => (h2.high k hk (Nat.lt_of_lt_of_le hs h.low.size)).trans (h.high k hk hs), fun k t cur hc => ?_⟩
  obtain ⟨c1, e1, s1⟩ := h.form k t cur hc
  obtain ⟨c2, e2, s2⟩ := h2.form k t c1 e1
  exact ⟨c2, e2, s2.trans s1⟩

theorem Spoils.below {B E : Nat} {w w1 : World} (hB : B ≤ w.heap.size) (h : Below w.heap.size w w1) : Spoils B E w w1 :=
  ⟨h.mono hB, fun k _ hs => h.block k hs, fun k _ cur hc => ⟨cur, (h.block k (Array.getElem?_eq_some_iff.1 hc).1).trans hc, rfl⟩⟩

theorem Spoils.set {B E g j : Nat} {w : World} {cur : Array Value} {t : TypeId} (hg : w.heap[g]? = some (.cells cur t (0, 0))) (h1 : B ≤ g) (h2 : g < E) (v : Value) : Spoils B E w (w.setCell ⟨g, j, none⟩ v) := by
  have hs := heap_setCell_same w g j cur t v hg
  refine ⟨(Below.refl _ _).setCell h1 _, fun k hk _ => heap_setCell_other _ _ _ _ (by simp; omega), fun k t' cur' hc => ?_⟩
  by_cases hk : k = g
  · subst hk
    rw [hg] at hc
    injection hc with hc
    injection hc with e1 e2 e3
    subst e1 e2
    exact ⟨_, hs, by simp⟩
  · exact ⟨cur', (heap_setCell_other _ _ _ _ hk).trans hc, rfl⟩

theorem Rw.keep {w w' : World} {B E B' E' : Nat} {t : TypeId} {size : Nat} {v : Value} (h : Rw w B E t size v) (hs : Spoils B' E' w w') : Rw w' B E t size v := by
  rcases h with h | ⟨g, n, c, cur, e, h1, h2, h3, h4, h5, h6⟩
  · exact .inl h
  · obtain ⟨cur', e1, e2⟩ := hs.form g t cur h5
    exact .inr ⟨g, n, c, cur', e, h1, h2, h3, h4, e1, by rw [e2, h6]⟩

def RowSp (W0 W : World) (B E g : Nat) (t : TypeId) (n : Nat) : Prop :=
  ∃ cur : Array Value, W.heap[g]? = some (.cells cur t (0, 0)) ∧ cur.size = n ∧ Spoils B E W0 W ∧ ∀ k, k ≠ g → W.heap[k]? = W0.heap[k]?

theorem RowSp.step {W0 W : World} {B E g n : Nat} {t : TypeId} (h : RowSp W0 W B E g t n) (h1 : B ≤ g) (h2 : g < E) (a : Nat) (v : Value) : RowSp W0 (W.setCell ⟨g, a, none⟩ v) B E g t n := by
  obtain ⟨cur, c1, c2, c3, c4⟩ := h
  exact ⟨_, heap_setCell_same W _ _ cur t _ c1, by simp [c2], c3.trans (Spoils.set c1 h1 h2 v), fun k hk => (heap_setCell_other _ _ _ _ hk).trans (c4 k hk)⟩

theorem spoili_any (v : Value) (x : Int) (B E : Nat) (w : World) (h : Rw w B E 3 1 v) :
    Calls Try.prog 79 #[v, .int .i64 x] w fun e w' => e = .returned (.tuple #[]) ∧ Spoils B E w w' ∧ ∀ (k : Nat) (t : TypeId) (cur : Array Value), w.heap[k]? = some (.cells cur t (0, 0)) → t ≠ 3 → w'.heap[k]? = some (.cells cur t (0, 0)) := by
  rcases h with rfl | ⟨g, n, c, cur, rfl, h1, h2, h3, h4, h5, h6⟩
  · go_enter Try.func79, Try.ntmps79
    go_wp2_with fail
    go_loopw [4, 11] (fun _ i wr => i = .int .i64 0 ∧ wr = w) (fun _ _ _ => 0)
    case atStart => exact ⟨rfl, rfl⟩
    case round =>
      obtain ⟨rfl, rfl⟩ := hrel
      go_wp2_with fail
      exact bodyPost_end (v := .tuple #[]) (by simp [results, Try.results79]) rfl ⟨rfl, Spoils.refl _ _ _, fun _ _ _ h _ => h⟩
  · have hcm : c ≤ 9223372036854775807 := h4
    have H5 := Lib.hid h5
    clear h4 h5
    go_enter Try.func79, Try.ntmps79
    go_wp2_with fail
    go_loopw [4, 11] (fun _ i wr => ∃ (k : Nat) (cur' : Array Value), k ≤ c ∧ i = .int .i64 k ∧ Hid (wr.heap[g]? = some (.cells cur' 3 (0, 0))) ∧ cur'.size = c ∧ Hid (Spoils B E w wr) ∧ Hid (∀ k, k ≠ g → wr.heap[k]? = w.heap[k]?)) (fun _ i _ => c - (intOf i).toNat)
    case atStart => exact ⟨0, cur, Nat.zero_le _, rfl, H5.out, by simpa using h6, Spoils.refl _ _ _, fun _ _ => rfl⟩
    case round =>
      obtain ⟨k, cur', hk, rfl, HC, hcs, HS, HO⟩ := hrel
      by_cases hlt : k < c
      · have q : wr.cell? ⟨g, k, none⟩ = some (cur'[k]'(by omega)) := by
          rw [cell_of_row wr _ _ cur' 3 (0, 0) HC.out, Array.getElem?_eq_getElem (by omega)]
        have f : wr.frozen? ⟨g, k, none⟩ = false := frozen_of_row wr _ _ cur' 3 HC.out
        have hkw : IntKind.i64.wrap ((k : Int) + 1) = (k : Int) + 1 := IntWalk.i64_in _ (by omega)
        have hkc : (k : Int) < (c : Int) := by omega
        have hk0 : (0 : Int) ≤ (k : Int) := by omega
        go_wp2_with fail
        go_roundw
        case rel => exact ⟨k + 1, _, by omega, by go_num, heap_setCell_same wr g k cur' 3 _ HC.out, by simp [hcs], HS.out.trans (Spoils.set HC.out h1 h2 _), fun j hj => (heap_setCell_other _ _ _ _ hj).trans (HO.out j hj)⟩
        case measure => simp [intOf]; omega
      · have hkc : k = c := by omega
        subst hkc
        go_wp2_with fail
        refine bodyPost_end (v := .tuple #[]) (by simp [results, Try.results79]) rfl ⟨rfl, HS.out, fun j t cu hj ht => ?_⟩
        by_cases hjg : j = g
        · subst hjg
          rw [H5.out] at hj
          injection hj with hj
          injection hj with _ e _
          exact absurd e.symm ht
        · exact (HO.out j hjg).trans hj

theorem spoilp_any (v : Value) (s : ByteArray) (B E : Nat) (w : World) (h : Rw w B E 40 7 v) (hB : B ≤ w.heap.size) :
    Calls Try.prog 92 #[v, .agg #[.string s, .int .i64 0, .int .i64 0, .int .i64 0, .int .i64 0, .slice none 0 0, .int .i64 0]] w fun e w' => e = .returned (.tuple #[]) ∧ Spoils B E w w' := by
  rcases h with rfl | ⟨g, n, c, cur, rfl, h1, h2, h3, h4, h5, h6⟩
  · go_enter Try.func92, Try.ntmps92
    go_wp2_with fail
    go_loopw [4, 11] (fun _ i wr => i = .int .i64 0 ∧ Below w.heap.size w wr) (fun _ _ _ => 0)
    case atStart => exact ⟨rfl, (Below.refl _ _).alloc (Nat.le_refl _) _⟩
    case round =>
      obtain ⟨rfl, hb⟩ := hrel
      go_wp2_with fail
      exact bodyPost_end (v := .tuple #[]) (by simp [results, Try.results92]) rfl ⟨rfl, Spoils.below hB hb⟩
  · have hcm : c ≤ 9223372036854775807 := h4
    have H5 := Lib.hid h5
    have zg := (Array.getElem?_eq_some_iff.1 h5).1
    clear h4 h5
    go_enter Try.func92, Try.ntmps92
    go_wp2_with fail
    go_loopw [4, 11] (fun _ i wr => ∃ (k : Nat) (cur' : Array Value), k ≤ c ∧ i = .int .i64 k ∧ Hid (wr.heap[g]? = some (.cells cur' 40 (0, 0))) ∧ cur'.size = c * 7 ∧
      Hid (wr.heap[w.heap.size]? = some (.cells #[.string s, .int .i64 0, .int .i64 0, .int .i64 0, .int .i64 0, .slice none 0 0, .int .i64 0] 40 (0, 0))) ∧ Hid (Spoils B E w wr)) (fun _ i _ => c - (intOf i).toNat)
    case atStart => exact ⟨0, cur, Nat.zero_le _, rfl, (Below.heap_alloc _ _ _ zg).trans H5.out, h6, heap_alloc_new _ _, Spoils.below hB ((Below.refl _ _).alloc (Nat.le_refl _) _)⟩
    case round =>
      obtain ⟨k, cur', hk, rfl, HC, hcs, HX, HS⟩ := hrel
      by_cases hlt : k < c
      · have q : ∀ j, j < 7 → wr.cell? ⟨g, k * 7 + j, none⟩ = some (cur'.getD (k * 7 + j) undef) := fun j hj => by
          have hj2 : k * 7 + j < cur'.size := by rw [hcs]; omega
          rw [cell_of_row wr _ _ cur' 40 (0, 0) HC.out, Array.getElem?_eq_getElem hj2]
          simp [Array.getD, hj2]
        have f : ∀ j, wr.frozen? ⟨g, j, none⟩ = false := fun j => frozen_of_row wr _ _ cur' 40 HC.out
        have q0 : wr.cell? ⟨g, k * 7, none⟩ = some (cur'.getD (k * 7) undef) := q 0 (by omega)
        have q1 := q 1 (by omega)
        have q2 := q 2 (by omega)
        have q3 := q 3 (by omega)
        have q4 := q 4 (by omega)
        have q5 := q 5 (by omega)
        have q6 := q 6 (by omega)
        have t := fun j => cell_of_row wr w.heap.size j _ 40 (0, 0) HX.out
        have t0 := t 0
        have t1 := t 1
        have t2 := t 2
        have t3 := t 3
        have t4 := t 4
        have t5 := t 5
        have t6 := t 6
        simp at t0 t1 t2 t3 t4 t5 t6
        clear q t
        have hkw : IntKind.i64.wrap ((k : Int) + 1) = (k : Int) + 1 := IntWalk.i64_in _ (by omega)
        have hkc : (k : Int) < (c : Int) := by omega
        have hk0 : (0 : Int) ≤ (k : Int) := by omega
        go_wp2_with fail
        have hR0 : RowSp wr wr B E g 40 (c * 7) := ⟨cur', HC.out, hcs, Spoils.refl _ _ _, fun _ _ => rfl⟩
        have hR : RowSp wr (((((((wr.setCell ⟨g, k * 7, none⟩ (.string s)).setCell ⟨g, k * 7 + 1, none⟩ (.int .i64 0)).setCell ⟨g, k * 7 + 2, none⟩ (.int .i64 0)).setCell ⟨g, k * 7 + 3, none⟩ (.int .i64 0)).setCell ⟨g, k * 7 + 4, none⟩ (.int .i64 0)).setCell ⟨g, k * 7 + 5, none⟩ (.slice none 0 0)).setCell ⟨g, k * 7 + 6, none⟩ (.int .i64 0)) B E g 40 (c * 7) := (((((((hR0.step h1 h2 _ _).step h1 h2 _ _).step h1 h2 _ _).step h1 h2 _ _).step h1 h2 _ _).step h1 h2 _ _).step h1 h2 _ _)
        generalize (((((((wr.setCell ⟨g, k * 7, none⟩ (.string s)).setCell ⟨g, k * 7 + 1, none⟩ (.int .i64 0)).setCell ⟨g, k * 7 + 2, none⟩ (.int .i64 0)).setCell ⟨g, k * 7 + 3, none⟩ (.int .i64 0)).setCell ⟨g, k * 7 + 4, none⟩ (.int .i64 0)).setCell ⟨g, k * 7 + 5, none⟩ (.slice none 0 0)).setCell ⟨g, k * 7 + 6, none⟩ (.int .i64 0)) = W at hR ⊢
        have HR := Lib.hid hR
        clear hR hR0
        go_roundw
        case rel =>
          obtain ⟨cur2, e1, e2, e3, e4⟩ := HR.out
          exact ⟨k + 1, cur2, by omega, by go_num, e1, e2, (e4 _ (by omega)).trans HX.out, HS.out.trans e3⟩
        case measure => simp [intOf]; omega
      · have hkc : k = c := by omega
        subst hkc
        go_wp2_with fail
        exact bodyPost_end (v := .tuple #[]) (by simp [results, Try.results92]) rfl ⟨rfl, HS.out⟩

end Go.Proofs.Ytmclalhjnjghnaa
