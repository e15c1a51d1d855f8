/- Words for memory: what a slice of numbers, a peer and a slice of peers read as in a world; and that they stay so while nothing below is written. -/
import Derived.Test.YtmclalhjnjghnaaProg
import Derived.Test.YtmclalhjnjghnaaModel2
import Derived.WalkKit
import Derived.WalkSpells
import Derived.WalkLawsBesides
import Derived.Lib.Hide
namespace Go.Proofs.Ytmclalhjnjghnaa
open Go.RowKit Hw

theorem ret_int {k : IntKind} {a b : Int} (h : a = b) : Ending.returned (.int k a) = .returned (.int k b) := by rw [h]
theorem ret_bool {a b : Bool} (h : a = b) : Ending.returned (.bool a) = .returned (.bool b) := by rw [h]
theorem ret_val {a b : Value} (h : a = b) : Ending.returned a = .returned b := by rw [h]

/-- What a caller keeps of its own cells behind a call that writes nothing old. -/
theorem bcell {W w1 : World} (hb : Below W.heap.size W w1) :
    (∀ b o, b < W.heap.size → w1.cell? ⟨b, o, none⟩ = W.cell? ⟨b, o, none⟩) ∧ (∀ b o, b < W.heap.size → w1.frozen? ⟨b, o, none⟩ = W.frozen? ⟨b, o, none⟩) ∧ W.heap.size ≤ w1.heap.size :=
  ⟨fun b o h => hb.cell (p := ⟨b, o, none⟩) h, fun b o h => hb.frozen (p := ⟨b, o, none⟩) h, hb.size⟩

theorem blt {w : World} {b o : Nat} {v : Value} (h : w.cell? ⟨b, o, none⟩ = some v) : b < w.heap.size := World.block_lt_of_cell? w _ h

/-- Cells that stand in w stand in every world that keeps the blocks of w. -/
theorem bsome {w w' : World} (hb : Below w.heap.size w w') {b o : Nat} {v : Value} (h : w.cell? ⟨b, o, none⟩ = some v) : w'.cell? ⟨b, o, none⟩ = some v :=
  (hb.cell (p := ⟨b, o, none⟩) (blt h)).trans h

theorem below_drewN {B : Nat} {a w : World} (h : Below B a w) (n : Nat) : Below B a (w.drewN n) := ⟨h.os, h.tape, h.output, h.size, h.block⟩

theorem keepBlk {W w1 : World} (hb : Below W.heap.size W w1) {g : Nat} {c : Array Value} {t : TypeId} (h : W.heap[g]? = some (.cells c t (0, 0))) :
    (∀ i, w1.cell? ⟨g, i, none⟩ = c[i]?) ∧ (∀ i, w1.frozen? ⟨g, i, none⟩ = false) := by
  have hg : g < W.heap.size := (Array.getElem?_eq_some_iff.1 h).1
  have h1 : w1.heap[g]? = some (.cells c t (0, 0)) := (hb.block g hg).trans h
  exact ⟨fun i => cell_of_row w1 g i c t (0, 0) h1, fun i => by simp [World.frozen?, h1]⟩

/-- One block laid ahead of a call: what it holds behind the call. -/
theorem keep1 {w w1 : World} {c : Array Value} {t : TypeId} (hb : Below (w.alloc (.cells c t)).heap.size (w.alloc (.cells c t)) w1) :
    (∀ i, w1.cell? ⟨w.heap.size, i, none⟩ = c[i]?) ∧ (∀ i, w1.frozen? ⟨w.heap.size, i, none⟩ = false) ∧ w.heap.size < w1.heap.size ∧ Below w.heap.size w w1 := by
  obtain ⟨h1, h2⟩ := keepBlk hb (heap_alloc_new w _)
  refine ⟨h1, h2, ?_, ((Below.refl _ _).alloc (Nat.le_refl _) _).trans (hb.mono (by simp))⟩
  have := hb.size
  simp at this
  omega

theorem keep2 {w w1 : World} {c d : Array Value} {t u : TypeId} (hb : Below ((w.alloc (.cells c t)).alloc (.cells d u)).heap.size ((w.alloc (.cells c t)).alloc (.cells d u)) w1) :
    (∀ i, w1.cell? ⟨w.heap.size, i, none⟩ = c[i]?) ∧ (∀ i, w1.frozen? ⟨w.heap.size, i, none⟩ = false) ∧
    (∀ i, w1.cell? ⟨w.heap.size + 1, i, none⟩ = d[i]?) ∧ (∀ i, w1.frozen? ⟨w.heap.size + 1, i, none⟩ = false) ∧ w.heap.size + 1 < w1.heap.size ∧ Below w.heap.size w w1 := by
  have e : ((w.alloc (.cells c t)).alloc (.cells d u)).heap[w.heap.size]? = some (.cells c t (0, 0)) :=
    (Below.heap_alloc _ _ _ (by simp)).trans (heap_alloc_new w _)
  obtain ⟨h1, h2⟩ := keepBlk hb e
  have e2 : ((w.alloc (.cells c t)).alloc (.cells d u)).heap[w.heap.size + 1]? = some (.cells d u (0, 0)) := by
    have := heap_alloc_new (w.alloc (.cells c t)) (.cells d u)
    simpa using this
  obtain ⟨h3, h4⟩ := keepBlk hb e2
  refine ⟨h1, h2, h3, h4, ?_, (((Below.refl _ _).alloc (Nat.le_refl _) _).alloc (by simp) _).trans (hb.mono (by simp; omega))⟩
  have := hb.size
  simp at this
  omega

/-- A slice of numbers. -/
def Ints (w : World) (A : Option Addr) (xs : List Int) : Prop :=
  0 < xs.length → ∃ b off, A = some ⟨b, off, none⟩ ∧ ∀ j, j < xs.length → w.cell? ⟨b, off + j, none⟩ = some (.int .i64 (xs.getD j 0))

theorem Ints.below {w w' : World} {A : Option Addr} {xs : List Int} (h : Ints w A xs) (hb : Below w.heap.size w w') : Ints w' A xs := fun h0 => by
  obtain ⟨b, off, e, hc⟩ := h h0
  exact ⟨b, off, e, fun j hj => bsome hb (hc j hj)⟩

/-- A peer whose seven cells begin at o. -/
def PeerAt (w : World) (b o : Nat) (p : Peer) : Prop :=
  ∃ A c, w.cell? ⟨b, o, none⟩ = some (.string p.id) ∧ w.cell? ⟨b, o + 1, none⟩ = some (.int .i64 p.gate.inc) ∧
    w.cell? ⟨b, o + 2, none⟩ = some (.int .i64 p.gate.seq) ∧ w.cell? ⟨b, o + 3, none⟩ = some (.int .i64 p.gate.drops) ∧
    w.cell? ⟨b, o + 4, none⟩ = some (.int .i64 p.cap) ∧ w.cell? ⟨b, o + 5, none⟩ = some (.slice A p.vals.length c) ∧
    w.cell? ⟨b, o + 6, none⟩ = some (.int .i64 p.last) ∧ Ints w A p.vals ∧ p.vals.length ≤ c

theorem PeerAt.below {w w' : World} {b o : Nat} {p : Peer} (h : PeerAt w b o p) (hb : Below w.heap.size w w') : PeerAt w' b o p := by
  obtain ⟨A, c, h0, h1, h2, h3, h4, h5, h6, hi, hc⟩ := h
  exact ⟨A, c, bsome hb h0, bsome hb h1, bsome hb h2, bsome hb h3, bsome hb h4, bsome hb h5, bsome hb h6, hi.below hb, hc⟩

/-- A slice of peers. -/
def PeersR (w : World) (A : Option Addr) (l : List Peer) : Prop :=
  0 < l.length → ∃ b off, A = some ⟨b, off, none⟩ ∧ ∀ k (h : k < l.length), PeerAt w b (off + k * 7) (l[k])

theorem PeersR.below {w w' : World} {A : Option Addr} {l : List Peer} (h : PeersR w A l) (hb : Below w.heap.size w w') : PeersR w' A l := fun h0 => by
  obtain ⟨b, off, e, hc⟩ := h h0
  exact ⟨b, off, e, fun k hk => (hc k hk).below hb⟩

end Go.Proofs.Ytmclalhjnjghnaa
