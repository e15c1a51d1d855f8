/- A node's subs in memory: one sub read and written. Contracts of the closures over subs, of slices.IndexFunc and ContainsFunc with them. -/
import Derived.Test.YtmclalhjnjghnaaTick
import Derived.Test.YtmclalhjnjghnaaHearLaws
import Derived.Test.YtmclalhjnjghnaaNLevel
namespace Go.Proofs.Ytmclalhjnjghnaa
open Go.RowKit Hw

theorem subCells_len (s : Sub) : (subCells s).length = 3 := rfl

theorem subsCells_cons (s : Sub) (t : List Sub) : subsCells (s :: t) = subCells s ++ subsCells t := rfl

theorem subsCells_len (l : List Sub) : (subsCells l).length = l.length * 3 := by
  induction l with
  | nil => rfl
  | cons s t ih =>
    rw [subsCells_cons, List.length_append, ih, subCells_len, List.length_cons]
    omega

theorem subsCells_get : ∀ (l : List Sub) (k j : Nat) (hk : k < l.length) (_ : j < 3), (subsCells l)[k * 3 + j]? = (subCells l[k])[j]? := by
  intro l
  induction l with
  | nil => intro k j hk; simp at hk
  | cons s t ih =>
    intro k j hk hj
    rw [subsCells_cons]
    cases k with
    | zero =>
      rw [List.getElem?_append_left (by rw [subCells_len]; omega)]
      simp
    | succ k =>
      rw [List.getElem?_append_right (by rw [subCells_len]; omega), subCells_len, show (k + 1) * 3 + j - 3 = k * 3 + j by omega, ih k j (by simpa using hk) hj]
      simp

theorem subsCells_set : ∀ (l : List Sub) (k j : Nat) (s' : Sub) (u : Value) (hk : k < l.length) (_ : j < 3), subCells s' = (subCells l[k]).set j u → subsCells (l.set k s') = (subsCells l).set (k * 3 + j) u := by
  intro l
  induction l with
  | nil => intro k j s' u hk; simp at hk
  | cons s t ih =>
    intro k j s' u hk hj h
    rw [subsCells_cons]
    cases k with
    | zero =>
      simp only [List.set_cons_zero, List.getElem_cons_zero] at h ⊢
      rw [subsCells_cons, h, List.set_append_left _ _ (by rw [subCells_len]; omega)]
      simp
    | succ k =>
      simp only [List.set_cons_succ, List.getElem_cons_succ] at h ⊢
      rw [subsCells_cons, List.set_append_right _ _ (by rw [subCells_len]; omega), subCells_len, show (k + 1) * 3 + j - 3 = k * 3 + j by omega, ih k j s' u (by simpa using hk) hj h]

/-- A slice of subs. -/
def SubsR (w : World) (A : Option Addr) (l : List Sub) : Prop :=
  0 < l.length → ∃ g off, A = some ⟨g, off, none⟩ ∧ ∀ k (h : k < l.length), w.cell? ⟨g, off + k * 3, none⟩ = some (.string (l[k]).id) ∧ w.cell? ⟨g, off + k * 3 + 1, none⟩ = some (.int .i64 (l[k]).theta) ∧ w.cell? ⟨g, off + k * 3 + 2, none⟩ = some (.bool (l[k]).on)

theorem SubsR.below {w w' : World} {A : Option Addr} {l : List Sub} (h : SubsR w A l) (hb : Below w.heap.size w w') : SubsR w' A l := fun h0 => by
  obtain ⟨g, off, e, hc⟩ := h h0
  exact ⟨g, off, e, fun k hk => ⟨bsome hb (hc k hk).1, bsome hb (hc k hk).2.1, bsome hb (hc k hk).2.2⟩⟩

theorem own_subs {w : World} {B : Nat} {A : Option Addr} {n c : Nat} {l : List Sub} (h : w.ownsRow B 85 3 (.slice A n c) l.length (subsCells l)) : SubsR w A l := by
  intro h0
  rcases h.2 with ⟨e, e2⟩ | ⟨g, cap, cur, e, _⟩
  · omega
  · injection e with e1 e2 e3
    subst e1 e2 e3
    refine ⟨g, 0, rfl, fun k hk => ?_⟩
    have hcell : ∀ j u, j < 3 → (subCells l[k])[j]? = some u → w.cell? ⟨g, 0 + k * 3 + j, none⟩ = some u := by
      intro j u hj hu
      have hc := h.cells (g := g) rfl (k * 3 + j) u (by rw [subsCells_get l k j hk hj]; exact hu)
      rw [add_lit] at hc
      rw [← hc]
      congr 2
      omega
    exact ⟨hcell 0 _ (by omega) rfl, hcell 1 _ (by omega) rfl, hcell 2 _ (by omega) rfl⟩

/-- The subs of a node: where they lie. -/
theorem NodeAt.sub {w : World} {b : Nat} {vs : Value} {n : Hw.Node} (h : NodeAt w b vs n) : ∃ A c, vs = .slice A n.subs.length c ∧ SubsR w A n.subs := by
  obtain ⟨vp, -, -, e3⟩ := h
  obtain ⟨A, c, rfl, _⟩ := own_form e3
  exact ⟨A, c, rfl, own_subs e3⟩

theorem NodeAt.subAt {w : World} {b : Nat} {vs : Value} {n : Hw.Node} (h : NodeAt w b vs n) {k : Nat} (hk : k < n.subs.length) : ∃ g c, vs = .slice (some ⟨g, 0, none⟩) n.subs.length c ∧ g ≠ b ∧
    w.cell? ⟨g, k * 3, none⟩ = some (.string (n.subs[k]).id) ∧ w.cell? ⟨g, k * 3 + 1, none⟩ = some (.int .i64 (n.subs[k]).theta) ∧ w.cell? ⟨g, k * 3 + 2, none⟩ = some (.bool (n.subs[k]).on) ∧ ∀ j, w.frozen? ⟨g, j, none⟩ = false := by
  obtain ⟨vp, e1, -, e3⟩ := h
  have hr := e3.2
  rcases hr with ⟨e, e2⟩ | ⟨g, cap, cur, rfl, _, h3, _⟩
  · omega
  · obtain ⟨g', off, e, hc⟩ := own_subs e3 (by omega)
    injection e with e
    injection e with e5 e6
    subst e5 e6
    obtain ⟨c1, c2, c3⟩ := hc k hk
    refine ⟨_, _, rfl, ?_, by simpa using c1, by simpa using c2, by simpa using c3, fun j => frozen_of_row _ _ _ _ _ h3⟩
    intro e
    subst e
    rw [h3] at e1
    injection e1 with e1
    injection e1 with _ e1 _
    cases e1

theorem NodeAt.putSub {w : World} {b g m c : Nat} {n : Hw.Node} (h : NodeAt w b (.slice (some ⟨g, 0, none⟩) m c) n) (hm : m = n.subs.length) {k j : Nat} {u : Value} {s' : Sub} (hk : k < n.subs.length) (hj : j < 3) (hs : subCells s' = (subCells n.subs[k]).set j u) :
    NodeAt (w.setCell ⟨g, k * 3 + j, none⟩ u) b (.slice (some ⟨g, 0, none⟩) m c) { n with subs := n.subs.set k s' } := by
  obtain ⟨vp, e1, e2, e3⟩ := h
  have hg : ∃ cur, w.heap[g]? = some (.cells cur 85 (0, 0)) := by
    rcases e3.2 with ⟨e, _⟩ | ⟨g', cap, cur, e, _, h3, _⟩
    · cases e
    · injection e with e _ _
      injection e with e
      injection e with e _
      subst e
      exact ⟨cur, h3⟩
  obtain ⟨cur, hg⟩ := hg
  have hne : ∀ (q : Nat) (d : Array Value) (t : TypeId), t ≠ 85 → w.heap[q]? = some (.cells d t (0, 0)) → (w.setCell ⟨g, k * 3 + j, none⟩ u).heap[q]? = w.heap[q]? := by
    intro q d t ht hq
    refine heap_setCell_other _ _ _ _ fun e => ?_
    have e' : q = g := e
    subst e'
    rw [hq] at hg
    injection hg with hg
    injection hg with _ hg _
    exact ht hg
  subst hm
  refine ⟨vp, (hne _ _ _ (by decide) e1).trans e1, e2.typed fun q d t hq hc => hne q d t (by rcases hq with e | e <;> rw [e] <;> decide) hc, ?_⟩
  have := (e3.stored (k * 3 + j) u).1
  show World.ownsRow _ _ _ _ _ (n.subs.set k s').length (subsCells (n.subs.set k s'))
  rw [subsCells_set n.subs k j s' u hk hj hs, List.length_set]
  exact this

end Go.Proofs.Ytmclalhjnjghnaa

namespace Go.Proofs.Ytmclalhjnjghnaa
open Go.RowKit Hw

/-- That sub. -/
def subIs (id : ByteArray) (theta : Int) (s : Sub) : Bool := sq s.id id && s.theta == theta

set_option maxRecDepth 100000 in
theorem sub106_any (s : Sub) (id : ByteArray) (theta : Int) (g h : Nat) (w : World) (hc : w.cell? ⟨g, 0, none⟩ = some (.string id)) (hd : w.cell? ⟨h, 0, none⟩ = some (.int .i64 theta)) :
    Calls Try.prog 106 #[.agg (subCells s).toArray, .pointer (some ⟨g, 0, none⟩), .pointer (some ⟨h, 0, none⟩)] w fun e w' => e = .returned (.bool (subIs id theta s)) ∧ Below w.heap.size w w' := by
  have hb : ∀ c, Below w.heap.size w (w.alloc (.cells c 85)) := fun c => (Below.refl _ _).alloc (Nat.le_refl _) _
  have hg := blt hc
  have hh := blt hd
  cases hq : sq s.id id with
  | true =>
    have hq2 : (s.id.toList == id.toList) = true := hq
    have hr : subIs id theta s = (s.theta == theta) := by unfold subIs; rw [hq]; rfl
    have Hr := Lib.hid hr
    clear hq hr
    unfold subCells
    go_enter Try.func106, Try.ntmps106
    go_wp2_with fail
    go_ret
    rw [Hr.out]
    exact ⟨rfl, hb _⟩
  | false =>
    have hq2 : (s.id.toList == id.toList) = false := hq
    have hr : subIs id theta s = false := by unfold subIs; rw [hq]; rfl
    have Hr := Lib.hid hr
    clear hq hr
    unfold subCells
    go_enter Try.func106, Try.ntmps106
    go_wp2_with fail
    go_ret
    rw [Hr.out]
    exact ⟨rfl, hb _⟩

set_option maxRecDepth 100000 in
theorem sub108_any (s : Sub) (id : ByteArray) (theta : Int) (g h : Nat) (w : World) (hc : w.cell? ⟨g, 0, none⟩ = some (.string id)) (hd : w.cell? ⟨h, 0, none⟩ = some (.int .i64 theta)) :
    Calls Try.prog 108 #[.agg (subCells s).toArray, .pointer (some ⟨g, 0, none⟩), .pointer (some ⟨h, 0, none⟩)] w fun e w' => e = .returned (.bool (subIs id theta s)) ∧ Below w.heap.size w w' := by
  have hb : ∀ c, Below w.heap.size w (w.alloc (.cells c 85)) := fun c => (Below.refl _ _).alloc (Nat.le_refl _) _
  have hg := blt hc
  have hh := blt hd
  cases hq : sq s.id id with
  | true =>
    have hq2 : (s.id.toList == id.toList) = true := hq
    have hr : subIs id theta s = (s.theta == theta) := by unfold subIs; rw [hq]; rfl
    have Hr := Lib.hid hr
    clear hq hr
    unfold subCells
    go_enter Try.func108, Try.ntmps108
    go_wp2_with fail
    go_ret
    rw [Hr.out]
    exact ⟨rfl, hb _⟩
  | false =>
    have hq2 : (s.id.toList == id.toList) = false := hq
    have hr : subIs id theta s = false := by unfold subIs; rw [hq]; rfl
    have Hr := Lib.hid hr
    clear hq hr
    unfold subCells
    go_enter Try.func108, Try.ntmps108
    go_wp2_with fail
    go_ret
    rw [Hr.out]
    exact ⟨rfl, hb _⟩

set_option maxRecDepth 100000 in
theorem sub113_any (s : Sub) (id : ByteArray) (g : Nat) (w : World) (hc : w.cell? ⟨g, 0, none⟩ = some (.string id)) :
    Calls Try.prog 113 #[.agg (subCells s).toArray, .pointer (some ⟨g, 0, none⟩)] w fun e w' => e = .returned (.bool (sq s.id id)) ∧ Below w.heap.size w w' := by
  have hb : ∀ c, Below w.heap.size w (w.alloc (.cells c 85)) := fun c => (Below.refl _ _).alloc (Nat.le_refl _) _
  have hg := blt hc
  unfold subCells
  go_enter Try.func113, Try.ntmps113
  go_wp2_with fail
  go_ret
  exact ⟨rfl, hb _⟩

set_option maxRecDepth 100000 in
set_option maxHeartbeats 1000000 in
theorem index106_any (A : Option Addr) (c : Nat) (l : List Sub) (id : ByteArray) (theta : Int) (g h : Nat) (w : World) (hs : SubsR w A l) (hl : l.length ≤ 8) (hc : w.cell? ⟨g, 0, none⟩ = some (.string id)) (hd : w.cell? ⟨h, 0, none⟩ = some (.int .i64 theta)) :
    Calls Try.prog 107 #[.slice A l.length c, .func (.func 106) #[] #[.pointer (some ⟨g, 0, none⟩), .pointer (some ⟨h, 0, none⟩)]] w fun e w' => e = .returned (.int .i64 (at? (subIs id theta) l)) ∧ Below w.heap.size w w' := by
  have H := Lib.hid hs
  have HC := Lib.hid hc
  have HD := Lib.hid hd
  clear hs hc hd
  go_enter Try.func107, Try.ntmps107
  go_wp2_with fail
  go_loopw [5, 8] (fun _ i wr => ∃ k : Nat, k ≤ l.length ∧ i = .int .i64 k ∧ Hid (Below w.heap.size w wr) ∧ Hid (∀ j (hj : j < l.length), j < k → (subIs id theta) (l[j]) = false)) (fun _ i _ => l.length - (intOf i).toNat)
  case atStart => exact ⟨0, by omega, rfl, Below.refl _ _, fun j hj h => by omega⟩
  case round =>
    obtain ⟨k, hk, rfl, HB, HJ⟩ := hrel
    by_cases hlt : k < l.length
    · obtain ⟨g', off, rfl, hp⟩ := (H.out.below HB.out) (by omega)
      obtain ⟨h0, h1, h2⟩ := hp k hlt
      have hx := bsome HB.out HC.out
      have hy := bsome HB.out HD.out
      have hkl : (k : Int) < (l.length : Int) := by omega
      have hk0 : (0 : Int) ≤ (k : Int) := by omega
      have hkw : IntKind.i64.wrap ((k : Int) + 1) = (k : Int) + 1 := IntWalk.i64_in _ (by omega)
      clear hp
      go_wp2_with (go_at_call 106; refine (sub106_any _ id theta g h _ hx hy).mono ?_; rintro e w1 ⟨rfl, hb1⟩; have Hb1 := Lib.hid hb1; clear hb1)
      · have hs : subIs id theta l[k] = true := by assumption
        go_ret
        exact ⟨ret_int (at_found (f := subIs id theta) hlt hs HJ.out).symm, HB.out.trans (Hb1.out.mono HB.out.size)⟩
      · have hs : subIs id theta l[k] = false := by assumption
        go_roundw
        case rel => exact ⟨k + 1, by omega, by go_num, HB.out.trans (Hb1.out.mono HB.out.size), fun j hj hjk => by
          by_cases e : j = k
          · subst e; exact hs
          · exact HJ.out j hj (by omega)⟩
        case measure => simp [intOf]; omega
    · have hkl : ¬ (k : Int) < (l.length : Int) := by omega
      go_wp2_with fail
      go_ret
      exact ⟨ret_int (at_none fun j hj => HJ.out j hj (by omega)).symm, HB.out⟩

set_option maxRecDepth 100000 in
set_option maxHeartbeats 1000000 in
theorem index108_any (A : Option Addr) (c : Nat) (l : List Sub) (id : ByteArray) (theta : Int) (g h : Nat) (w : World) (hs : SubsR w A l) (hl : l.length ≤ 8) (hc : w.cell? ⟨g, 0, none⟩ = some (.string id)) (hd : w.cell? ⟨h, 0, none⟩ = some (.int .i64 theta)) :
    Calls Try.prog 107 #[.slice A l.length c, .func (.func 108) #[] #[.pointer (some ⟨g, 0, none⟩), .pointer (some ⟨h, 0, none⟩)]] w fun e w' => e = .returned (.int .i64 (at? (subIs id theta) l)) ∧ Below w.heap.size w w' := by
  have H := Lib.hid hs
  have HC := Lib.hid hc
  have HD := Lib.hid hd
  clear hs hc hd
  go_enter Try.func107, Try.ntmps107
  go_wp2_with fail
  go_loopw [5, 8] (fun _ i wr => ∃ k : Nat, k ≤ l.length ∧ i = .int .i64 k ∧ Hid (Below w.heap.size w wr) ∧ Hid (∀ j (hj : j < l.length), j < k → (subIs id theta) (l[j]) = false)) (fun _ i _ => l.length - (intOf i).toNat)
  case atStart => exact ⟨0, by omega, rfl, Below.refl _ _, fun j hj h => by omega⟩
  case round =>
    obtain ⟨k, hk, rfl, HB, HJ⟩ := hrel
    by_cases hlt : k < l.length
    · obtain ⟨g', off, rfl, hp⟩ := (H.out.below HB.out) (by omega)
      obtain ⟨h0, h1, h2⟩ := hp k hlt
      have hx := bsome HB.out HC.out
      have hy := bsome HB.out HD.out
      have hkl : (k : Int) < (l.length : Int) := by omega
      have hk0 : (0 : Int) ≤ (k : Int) := by omega
      have hkw : IntKind.i64.wrap ((k : Int) + 1) = (k : Int) + 1 := IntWalk.i64_in _ (by omega)
      clear hp
      go_wp2_with (go_at_call 108; refine (sub108_any _ id theta g h _ hx hy).mono ?_; rintro e w1 ⟨rfl, hb1⟩; have Hb1 := Lib.hid hb1; clear hb1)
      · have hs : subIs id theta l[k] = true := by assumption
        go_ret
        exact ⟨ret_int (at_found (f := subIs id theta) hlt hs HJ.out).symm, HB.out.trans (Hb1.out.mono HB.out.size)⟩
      · have hs : subIs id theta l[k] = false := by assumption
        go_roundw
        case rel => exact ⟨k + 1, by omega, by go_num, HB.out.trans (Hb1.out.mono HB.out.size), fun j hj hjk => by
          by_cases e : j = k
          · subst e; exact hs
          · exact HJ.out j hj (by omega)⟩
        case measure => simp [intOf]; omega
    · have hkl : ¬ (k : Int) < (l.length : Int) := by omega
      go_wp2_with fail
      go_ret
      exact ⟨ret_int (at_none fun j hj => HJ.out j hj (by omega)).symm, HB.out⟩

set_option maxRecDepth 100000 in
set_option maxHeartbeats 1000000 in
theorem index113_any (A : Option Addr) (c : Nat) (l : List Sub) (id : ByteArray) (g : Nat) (w : World) (hs : SubsR w A l) (hl : l.length ≤ 8) (hc : w.cell? ⟨g, 0, none⟩ = some (.string id)) :
    Calls Try.prog 107 #[.slice A l.length c, .func (.func 113) #[] #[.pointer (some ⟨g, 0, none⟩)]] w fun e w' => e = .returned (.int .i64 (at? (fun s => sq s.id id) l)) ∧ Below w.heap.size w w' := by
  have H := Lib.hid hs
  have HC := Lib.hid hc
  clear hs hc
  go_enter Try.func107, Try.ntmps107
  go_wp2_with fail
  go_loopw [5, 8] (fun _ i wr => ∃ k : Nat, k ≤ l.length ∧ i = .int .i64 k ∧ Hid (Below w.heap.size w wr) ∧ Hid (∀ j (hj : j < l.length), j < k → (fun s => sq s.id id) (l[j]) = false)) (fun _ i _ => l.length - (intOf i).toNat)
  case atStart => exact ⟨0, by omega, rfl, Below.refl _ _, fun j hj h => by omega⟩
  case round =>
    obtain ⟨k, hk, rfl, HB, HJ⟩ := hrel
    by_cases hlt : k < l.length
    · obtain ⟨g', off, rfl, hp⟩ := (H.out.below HB.out) (by omega)
      obtain ⟨h0, h1, h2⟩ := hp k hlt
      have hx := bsome HB.out HC.out
      have hkl : (k : Int) < (l.length : Int) := by omega
      have hk0 : (0 : Int) ≤ (k : Int) := by omega
      have hkw : IntKind.i64.wrap ((k : Int) + 1) = (k : Int) + 1 := IntWalk.i64_in _ (by omega)
      clear hp
      go_wp2_with (go_at_call 113; refine (sub113_any _ id g _ hx).mono ?_; rintro e w1 ⟨rfl, hb1⟩; have Hb1 := Lib.hid hb1; clear hb1)
      · have hs : sq (l[k]).id id = true := by assumption
        go_ret
        exact ⟨ret_int (at_found (f := fun s => sq s.id id) hlt hs HJ.out).symm, HB.out.trans (Hb1.out.mono HB.out.size)⟩
      · have hs : sq (l[k]).id id = false := by assumption
        go_roundw
        case rel => exact ⟨k + 1, by omega, by go_num, HB.out.trans (Hb1.out.mono HB.out.size), fun j hj hjk => by
          by_cases e : j = k
          · subst e; exact hs
          · exact HJ.out j hj (by omega)⟩
        case measure => simp [intOf]; omega
    · have hkl : ¬ (k : Int) < (l.length : Int) := by omega
      go_wp2_with fail
      go_ret
      exact ⟨ret_int (at_none fun j hj => HJ.out j hj (by omega)).symm, HB.out⟩

set_option maxRecDepth 100000 in
theorem contains106_any (A : Option Addr) (c : Nat) (l : List Sub) (id : ByteArray) (theta : Int) (g h : Nat) (w : World) (hs : SubsR w A l) (hl : l.length ≤ 8) (hc : w.cell? ⟨g, 0, none⟩ = some (.string id)) (hd : w.cell? ⟨h, 0, none⟩ = some (.int .i64 theta)) :
    Calls Try.prog 59 #[.slice A l.length c, .func (.func 106) #[] #[.pointer (some ⟨g, 0, none⟩), .pointer (some ⟨h, 0, none⟩)]] w fun e w' => e = .returned (.bool (decide (0 ≤ at? (subIs id theta) l))) ∧ Below w.heap.size w w' := by
  have H := Lib.hid hs
  have HC := Lib.hid hc
  have HD := Lib.hid hd
  clear hs hc hd
  go_enter Try.func59, Try.ntmps59
  go_wp2_with (go_at_call 107; refine (index106_any A c l id theta g h _ H.out hl HC.out HD.out).mono ?_; rintro e w1 ⟨rfl, hb1⟩; have Hb1 := Lib.hid hb1; clear hb1)
  go_ret
  exact ⟨rfl, Hb1.out⟩

end Go.Proofs.Ytmclalhjnjghnaa
