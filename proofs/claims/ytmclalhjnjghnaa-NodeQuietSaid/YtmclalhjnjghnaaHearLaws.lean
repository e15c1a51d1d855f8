/- Laws for storing into one peer of a row of peers of the call's own. -/
import Derived.Test.YtmclalhjnjghnaaPush
import Derived.Laws.OwnMore
namespace Go.Proofs.Ytmclalhjnjghnaa
open Go.RowKit Hw

/-- Peers of the call's own, their rows of values named. -/
def OwnV (w : World) (B : Nat) (v : Value) (l : List Peer) (vs : List Value) : Prop :=
  vs.length = l.length ∧ w.ownsRow B 40 7 v l.length (cellsOf l vs) ∧
    ∀ (k : Nat) (u : Value) (p : Peer), vs[k]? = some u → l[k]? = some p → w.ownsRow B 3 1 u p.vals.length (ints p.vals)

theorem OwnV.own {w : World} {B : Nat} {v : Value} {l : List Peer} {vs : List Value} (h : OwnV w B v l vs) : OwnP w B v l := ⟨vs, h⟩

theorem OwnV.below {w w' : World} {B : Nat} {v : Value} {l : List Peer} {vs : List Value} (h : OwnV w B v l vs) (hb : Below w.heap.size w w') : OwnV w' B v l vs :=
  ⟨h.1, own_below h.2.1 hb, fun k u p a b => own_below (h.2.2 k u p a b) hb⟩

theorem cellsOf_set : ∀ (l : List Peer) (vs : List Value) (i j : Nat) (p p' : Peer) (V V' u : Value), vs.length = l.length → l[i]? = some p → vs[i]? = some V → j < 7 → peerCells p' V' = (peerCells p V).set j u →
    cellsOf (l.set i p') (vs.set i V') = (cellsOf l vs).set (i * 7 + j) u
  | [], _, i, j, p, p', V, V', u, _, h, _, _, _ => by simp at h
  | q :: l, [], i, j, p, p', V, V', u, h, _, _, _, _ => by simp at h
  | q :: l, x :: vs, 0, j, p, p', V, V', u, h, hl, hv, hj, hc => by
    simp at hl hv
    subst hl hv
    simp only [List.set_cons_zero, cellsOf, hc]
    rw [List.set_append_left _ _ (by simp; omega)]
    simp
  | q :: l, x :: vs, i + 1, j, p, p', V, V', u, h, hl, hv, hj, hc => by
    have ih := cellsOf_set l vs i j p p' V V' u (by simpa using h) (by simpa using hl) (by simpa using hv) hj hc
    simp only [List.set_cons_succ, cellsOf, ih]
    rw [List.set_append_right _ _ (by simp; omega)]
    congr 2
    simp; omega

theorem _root_.Go.World.ownsRow.stored_grown {w : World} {base g n m cap size : Nat} {e : TypeId} {xs : List Value} (h : w.ownsRow base e size (.slice (some ⟨g, 0, none⟩) n cap) m xs) (hn : n = m) (j : Nat) (u : Value) :
    w.grownBy (w.setCell ⟨g, j, none⟩ u) (some g) := by
  subst hn
  exact (h.stored j u).2

/-- One cell of one peer is stored. -/
theorem OwnV.put {w : World} {B g n c : Nat} {l : List Peer} {vs : List Value} (h : OwnV w B (.slice (some ⟨g, 0, none⟩) n c) l vs) (hn : n = l.length) {i j : Nat} {p p' : Peer} {V V' u : Value}
    (hp : l[i]? = some p) (hv : vs[i]? = some V) (hj : j < 7) (hc : peerCells p' V' = (peerCells p V).set j u) (hV : w.ownsRow B 3 1 V' p'.vals.length (ints p'.vals)) :
    OwnV (w.setCell ⟨g, i * 7 + j, none⟩ u) B (.slice (some ⟨g, 0, none⟩) n c) (l.set i p') (vs.set i V') := by
  obtain ⟨h1, h2, h3⟩ := h
  subst hn
  obtain ⟨s1, s2⟩ := h2.stored (i * 7 + j) u
  refine ⟨by simp [h1], ?_, fun k y q hy hq => ?_⟩
  · rw [cellsOf_set l vs i j p p' V V' u h1 hp hv hj hc]
    simpa using s1
  · have hr : w.ownsRow B 3 1 y q.vals.length (ints q.vals) := by
      by_cases hk : i = k
      · subst hk
        have hi := (List.getElem?_eq_some_iff.1 hp).1
        rw [List.getElem?_set_self (by omega)] at hy hq
        cases hy; cases hq
        exact hV
      · rw [List.getElem?_set_ne hk] at hy hq
        exact h3 k y q hy hq
    exact hr.kept s2 (own_ne hr h2 (by decide))

/-- Where one peer's cells are, what they hold. -/
theorem OwnV.at {w : World} {B : Nat} {v : Value} {l : List Peer} {vs : List Value} (h : OwnV w B v l vs) {i : Nat} {p : Peer} (hp : l[i]? = some p) :
    ∃ g c A' c', v = .slice (some ⟨g, 0, none⟩) l.length c ∧ B ≤ g ∧ g < w.heap.size ∧ vs[i]? = some (.slice A' p.vals.length c') ∧ p.vals.length ≤ c' ∧
      w.ownsRow B 3 1 (.slice A' p.vals.length c') p.vals.length (ints p.vals) ∧
      w.cell? ⟨g, i * 7, none⟩ = some (.string p.id) ∧ w.cell? ⟨g, i * 7 + 1, none⟩ = some (.int .i64 p.gate.inc) ∧ w.cell? ⟨g, i * 7 + 1 + 1, none⟩ = some (.int .i64 p.gate.seq) ∧
      w.cell? ⟨g, i * 7 + 1 + 2, none⟩ = some (.int .i64 p.gate.drops) ∧ w.cell? ⟨g, i * 7 + 4, none⟩ = some (.int .i64 p.cap) ∧ w.cell? ⟨g, i * 7 + 4 + 1, none⟩ = some (.slice A' p.vals.length c') ∧
      w.cell? ⟨g, i * 7 + 6, none⟩ = some (.int .i64 p.last) ∧ ∀ j, w.frozen? ⟨g, j, none⟩ = false := by
  obtain ⟨h1, h2, h3⟩ := h
  have hi := (List.getElem?_eq_some_iff.1 hp).1
  have hpe := (List.getElem?_eq_some_iff.1 hp).2
  have hv : vs[i]? = some (vs[i]'(by omega)) := List.getElem?_eq_getElem (by omega)
  have ho := h3 i _ _ hv hp
  obtain ⟨A', c', ev, hle, -⟩ := own_form ho
  rcases h2.2 with ⟨_, e2⟩ | ⟨g, cap, cur, e, hBg, hg, _⟩
  · omega
  · subst e
    have hcell : ∀ j u, j < 7 → (peerCells p (vs[i]'(by omega)))[j]? = some u → w.cell? ⟨g, i * 7 + j, none⟩ = some u := by
      intro j u hj hu
      have hc := h2.cells (g := g) rfl (i * 7 + j) u (by rw [cellsOf_get l vs i j h1 hi hj, hpe]; exact hu)
      rw [add_lit] at hc
      rw [← hc]
      congr 2
      omega
    rw [ev] at hv ho hcell
    exact ⟨g, cap, A', c', rfl, hBg, (Array.getElem?_eq_some_iff.1 hg).1, hv, hle, ho, hcell 0 _ (by omega) rfl, hcell 1 _ (by omega) rfl, hcell 2 _ (by omega) rfl, hcell 3 _ (by omega) rfl, hcell 4 _ (by omega) rfl,
      hcell 5 _ (by omega) rfl, hcell 6 _ (by omega) rfl, h2.frozenAt⟩

/-- Behind gate.Take: the peer's three cells of its gate have been stored. -/
theorem hear_gate {w4 w6 : World} {B g n c : Nat} {l : List Peer} {vs : List Value} (h : OwnV w4 B (.slice (some ⟨g, 0, none⟩) n c) l vs) (hn : n = l.length) {i : Nat} {p : Peer} {V : Value} (g' : Gate)
    (hp : l[i]? = some p) (hv : vs[i]? = some V) (hb : Below w4.heap.size w4 w6) :
    OwnV (((w6.setCell ⟨g, i * 7 + 1, none⟩ (.int .i64 g'.inc)).setCell ⟨g, i * 7 + 1 + 1, none⟩ (.int .i64 g'.seq)).setCell ⟨g, i * 7 + 1 + 2, none⟩ (.int .i64 g'.drops)) B (.slice (some ⟨g, 0, none⟩) n c)
      (l.set i { p with gate := g' }) (vs.set i V) := by
  have hi := (List.getElem?_eq_some_iff.1 hp).1
  have hi' := (List.getElem?_eq_some_iff.1 hv).1
  have h6 := h.below hb
  have s1 := h6.put hn (i := i) (j := 1) (p := p) (p' := { p with gate := { p.gate with inc := g'.inc } }) (V := V) (V' := V) (u := .int .i64 g'.inc) hp hv (by omega) rfl (by have r := h6.2.2 i _ _ hv hp; exact r)
  have s2 := s1.put (by simp [hn]) (i := i) (j := 2) (p := { p with gate := { p.gate with inc := g'.inc } }) (p' := { p with gate := { p.gate with inc := g'.inc, seq := g'.seq } }) (V := V) (V' := V) (u := .int .i64 g'.seq)
    (by rw [List.getElem?_set_self hi]) (by rw [List.getElem?_set_self hi']) (by omega) rfl (by have r := s1.2.2 i _ _ (by rw [List.getElem?_set_self hi']) (by rw [List.getElem?_set_self hi]); exact r)
  have s3 := s2.put (by simp [hn]) (i := i) (j := 3) (p := { p with gate := { p.gate with inc := g'.inc, seq := g'.seq } }) (p' := { p with gate := g' }) (V := V) (V' := V) (u := .int .i64 g'.drops)
    (by rw [List.getElem?_set_self (by simpa using hi)]) (by rw [List.getElem?_set_self (by simpa using hi')]) (by omega) rfl (by have r := s2.2.2 i _ _ (by rw [List.getElem?_set_self (by simpa using hi')]) (by rw [List.getElem?_set_self (by simpa using hi)]); exact r)
  simpa only [List.set_set] using s3

/-- Behind win.Push: the peer's window and its last time have been stored. -/
theorem hear_win {w4 w6 : World} {B g n c : Nat} {l : List Peer} {vs : List Value} (h : OwnV w4 B (.slice (some ⟨g, 0, none⟩) n c) l vs) (hn : n = l.length) {i : Nat} {p : Peer} {V V' : Value} (cap : Int) (vals : List Int) (now : Int)
    (hp : l[i]? = some p) (hv : vs[i]? = some V) (hb : Below w4.heap.size w4 w6) (hc : cap = p.cap) (hV : w6.ownsRow B 3 1 V' vals.length (ints vals)) :
    OwnV (((w6.setCell ⟨g, i * 7 + 4, none⟩ (.int .i64 cap)).setCell ⟨g, i * 7 + 4 + 1, none⟩ V').setCell ⟨g, i * 7 + 6, none⟩ (.int .i64 now)) B (.slice (some ⟨g, 0, none⟩) n c)
      (l.set i { p with vals := vals, last := now }) (vs.set i V') := by
  subst hc
  have hi := (List.getElem?_eq_some_iff.1 hp).1
  have hi' := (List.getElem?_eq_some_iff.1 hv).1
  have h6 := h.below hb
  have hne : V'.ownBlock = none ∨ V'.ownBlock ≠ some g := own_ne hV h6.2.1 (by decide)
  have s1 := h6.put hn (i := i) (j := 4) (p := p) (p' := p) (V := V) (V' := V) (u := .int .i64 p.cap) hp hv (by omega) rfl (by have r := h6.2.2 i _ _ hv hp; exact r)
  have hV1 := hV.kept (h6.2.1.stored_grown hn (i * 7 + 4) (.int .i64 p.cap)) hne
  have s2 := s1.put (by simp [hn]) (i := i) (j := 5) (p := p) (p' := { p with vals := vals }) (V := V) (V' := V') (u := V')
    (by rw [List.getElem?_set_self hi]) (by rw [List.getElem?_set_self hi']) (by omega) rfl hV1
  have s3 := s2.put (by simp [hn]) (i := i) (j := 6) (p := { p with vals := vals }) (p' := { p with vals := vals, last := now }) (V := V') (V' := V') (u := .int .i64 now)
    (by rw [List.getElem?_set_self (by simpa using hi)]) (by rw [List.getElem?_set_self (by simpa using hi')]) (by omega) rfl (by have r := s2.2.2 i _ _ (by rw [List.getElem?_set_self (by simpa using hi')]) (by rw [List.getElem?_set_self (by simpa using hi)]); exact r)
  simpa only [List.set_set] using s3

end Go.Proofs.Ytmclalhjnjghnaa
