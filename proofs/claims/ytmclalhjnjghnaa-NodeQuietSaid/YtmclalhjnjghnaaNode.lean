/- A node in memory; what a step may touch; contracts of node.Check, New, Now, Seq, Drops. -/
import Derived.Test.YtmclalhjnjghnaaAdd
import Derived.Test.YtmclalhjnjghnaaDrop
import Derived.Test.YtmclalhjnjghnaaLeafb
namespace Go.Proofs.Ytmclalhjnjghnaa
open Go.RowKit Hw

def subCells (s : Sub) : List Value := [.string s.id, .int .i64 s.theta, .bool s.on]
def subsCells (l : List Sub) : List Value := l.flatMap subCells
def nodeCells (n : Hw.Node) (vp vs : Value) : List Value := [.string n.c.id, .int .i64 n.c.inc, .int .i64 n.c.every, .int .i64 n.c.cap, .int .i64 n.c.least, .int .i64 n.now, .int .i64 n.seq, .int .i64 n.drops, vp, vs]

/-- A node in memory, in block b; its subs: vs. -/
def NodeAt (w : World) (b : Nat) (vs : Value) (n : Hw.Node) : Prop :=
  ∃ vp, w.heap[b]? = some (.cells (nodeCells n vp vs).toArray 145 (0, 0)) ∧ OwnP w (b + 1) vp n.peers ∧ w.ownsRow (b + 1) 85 3 vs n.subs.length (subsCells n.subs)

/-- Only the blocks of S, and new ones, may have changed. -/
structure Touch (S : Nat → Prop) (w w' : World) : Prop where
  os : w'.os = w.os
  tape : w'.tape = w.tape
  output : w'.output = w.output
  size : w.heap.size ≤ w'.heap.size
  block : ∀ k, k < w.heap.size → ¬ S k → w'.heap[k]? = w.heap[k]?

theorem Touch.refl (S : Nat → Prop) (w : World) : Touch S w w := ⟨rfl, rfl, rfl, Nat.le_refl _, fun _ _ _ => rfl⟩
theorem Touch.trans {S : Nat → Prop} {w w1 w2 : World} (h : Touch S w w1) (h2 : Touch S w1 w2) : Touch S w w2 :=
  ⟨h2.os.trans h.os, h2.tape.trans h.tape, h2.output.trans h.output, Nat.le_trans h.size h2.size, fun k hk hs => (h2.block k (Nat.lt_of_lt_of_le hk h.size) hs).trans (h.block k hk hs)⟩
theorem Touch.of_below {S : Nat → Prop} {w w' : World} (h : Below w.heap.size w w') : Touch S w w' := ⟨h.os, h.tape, h.output, h.size, fun k hk _ => h.block k hk⟩
theorem Touch.mono {S S' : Nat → Prop} {w w' : World} (h : Touch S w w') (hs : ∀ k, k < w.heap.size → S k → S' k) : Touch S' w w' := ⟨h.os, h.tape, h.output, h.size, fun k hk hn => h.block k hk fun hS => hn (hs k hk hS)⟩
theorem Touch.setCell {S : Nat → Prop} {w w' : World} (h : Touch S w w') {a : Addr} (ha : S a.block) (v : Value) : Touch S w (w'.setCell a v) :=
  ⟨h.os, h.tape, h.output, by simpa [World.setCell] using h.size, fun k hk hn => (heap_setCell_other _ _ _ _ (fun e => hn (by rw [e]; exact ha))).trans (h.block k hk hn)⟩
theorem Touch.alloc {S : Nat → Prop} {w w' : World} (h : Touch S w w') (o : Obj) : Touch S w (w'.alloc o) := h.trans (Touch.of_below ((Below.refl _ _).alloc (Nat.le_refl _) _))
theorem Touch.drew {S : Nat → Prop} {w w' : World} (h : Touch S w w') : Touch S w w'.drew := ⟨h.os, h.tape, h.output, h.size, h.block⟩
/-- Behind a base below all that may change. -/
theorem Touch.below {S : Nat → Prop} {B : Nat} {w0 w w' : World} (h0 : Below B w0 w) (h : Touch S w w') (hB : B ≤ w.heap.size) (hs : ∀ k, k < B → ¬ S k) : Below B w0 w' :=
  h0.trans ⟨h.os, h.tape, h.output, h.size, fun k hk => h.block k (by omega) (hs k hk)⟩
theorem Touch.cell {S : Nat → Prop} {w w' : World} (h : Touch S w w') {b o : Nat} {v : Value} (hc : w.cell? ⟨b, o, none⟩ = some v) (hb : ¬ S b) : w'.cell? ⟨b, o, none⟩ = some v :=
  (World.cell?_of_block (a := ⟨b, o, none⟩) (h.block b (blt hc) hb)).trans hc

theorem own_typed {w w' : World} {B : Nat} {e : TypeId} {s : Nat} {v : Value} {n : Nat} {xs : List Value} (h : w.ownsRow B e s v n xs) (hk : ∀ (k : Nat) (c : Array Value), some k = v.ownBlock → w.heap[k]? = some (.cells c e (0, 0)) → w'.heap[k]? = w.heap[k]?) : w'.ownsRow B e s v n xs := by
  obtain ⟨h1, h2 | ⟨g, cap, cur, e1, e2, e3, e4⟩⟩ := h
  · exact ⟨h1, .inl h2⟩
  · exact ⟨h1, .inr ⟨g, cap, cur, e1, e2, (hk g cur (by rw [e1]; rfl) e3).trans e3, e4⟩⟩

theorem OwnP.typed {w w' : World} {B : Nat} {v : Value} {l : List Peer} (h : OwnP w B v l) (hk : ∀ (k : Nat) (c : Array Value) (t : TypeId), t = 40 ∨ t = 3 → w.heap[k]? = some (.cells c t (0, 0)) → w'.heap[k]? = w.heap[k]?) : OwnP w' B v l := by
  obtain ⟨vs, h1, h2, h3⟩ := h
  exact ⟨vs, h1, own_typed h2 (fun k c _ hc => hk k c 40 (.inl rfl) hc), fun k u p a b => own_typed (h3 k u p a b) (fun k c _ hc => hk k c 3 (.inr rfl) hc)⟩

theorem NodeAt.lt {w : World} {b : Nat} {vs : Value} {n : Hw.Node} (h : NodeAt w b vs n) : b < w.heap.size := by
  obtain ⟨vp, h1, _⟩ := h
  exact (Array.getElem?_eq_some_iff.1 h1).1

theorem NodeAt.below {w w' : World} {b : Nat} {vs : Value} {n : Hw.Node} (h : NodeAt w b vs n) (hb : Below w.heap.size w w') : NodeAt w' b vs n := by
  obtain ⟨vp, h1, h2, h3⟩ := h
  exact ⟨vp, (hb.block b (Array.getElem?_eq_some_iff.1 h1).1).trans h1, h2.below hb, own_below h3 hb⟩

/-- A node keeps, where what changes are blocks of nodes and of subs, but none of its own. -/
theorem NodeAt.touch {S : Nat → Prop} {w w' : World} {b : Nat} {vs : Value} {n : Hw.Node} (h : NodeAt w b vs n) (ht : Touch S w w') (h1 : ¬ S b) (h2 : ∀ k, some k = vs.ownBlock → ¬ S k)
    (h3 : ∀ (k : Nat) (c : Array Value) (t : TypeId), t = 40 ∨ t = 3 → w.heap[k]? = some (.cells c t (0, 0)) → ¬ S k) : NodeAt w' b vs n := by
  obtain ⟨vp, e1, e2, e3⟩ := h
  refine ⟨vp, (ht.block b (Array.getElem?_eq_some_iff.1 e1).1 h1).trans e1, e2.typed fun k c t hk hc => ht.block k (Array.getElem?_eq_some_iff.1 hc).1 (h3 k c t hk hc), own_typed e3 fun k c hk hc => ht.block k (Array.getElem?_eq_some_iff.1 hc).1 (h2 k hk)⟩

theorem NodeAt.cells {w : World} {b : Nat} {vs : Value} {n : Hw.Node} (h : NodeAt w b vs n) : ∃ A c, w.cell? ⟨b, 0, none⟩ = some (.string n.c.id) ∧ w.cell? ⟨b, 1, none⟩ = some (.int .i64 n.c.inc) ∧ w.cell? ⟨b, 2, none⟩ = some (.int .i64 n.c.every) ∧
    w.cell? ⟨b, 3, none⟩ = some (.int .i64 n.c.cap) ∧ w.cell? ⟨b, 4, none⟩ = some (.int .i64 n.c.least) ∧ w.cell? ⟨b, 5, none⟩ = some (.int .i64 n.now) ∧ w.cell? ⟨b, 6, none⟩ = some (.int .i64 n.seq) ∧ w.cell? ⟨b, 7, none⟩ = some (.int .i64 n.drops) ∧
    w.cell? ⟨b, 8, none⟩ = some (.slice A n.peers.length c) ∧ w.cell? ⟨b, 9, none⟩ = some vs ∧ PeersR w A n.peers ∧ OwnP w (b + 1) (.slice A n.peers.length c) n.peers ∧ ∀ j, w.frozen? ⟨b, j, none⟩ = false := by
  obtain ⟨vp, e1, e2, e3⟩ := h
  obtain ⟨A, c, rfl, _⟩ := e2.form
  have hc := fun j => cell_of_row w b j _ 145 (0, 0) e1
  exact ⟨A, c, hc 0, hc 1, hc 2, hc 3, hc 4, hc 5, hc 6, hc 7, hc 8, hc 9, e2.reads, e2, fun j => frozen_of_row _ _ _ _ _ e1⟩

theorem heap_set {w : World} {b j : Nat} {c : Array Value} {t : TypeId} (v : Value) (h : w.heap[b]? = some (.cells c t (0, 0))) : (w.setCell ⟨b, j, none⟩ v).heap[b]? = some (.cells (c.setIfInBounds j v) t (0, 0)) := heap_setCell_same w b j c t v h

theorem set_typed {w : World} {b j : Nat} {c : Array Value} (v : Value) (h : w.heap[b]? = some (.cells c 145 (0, 0))) : ∀ (k : Nat) (d : Array Value) (t : TypeId), t ≠ 145 → w.heap[k]? = some (.cells d t (0, 0)) → (w.setCell ⟨b, j, none⟩ v).heap[k]? = w.heap[k]? := by
  intro k d t ht hk
  refine heap_setCell_other _ _ _ _ fun e => ?_
  have e' : k = b := e
  subst e'
  rw [hk] at h
  injection h with h
  injection h with _ h _
  exact ht h

/-- A plain field is written. -/
theorem NodeAt.put {w : World} {b : Nat} {vs : Value} {n n' : Hw.Node} (h : NodeAt w b vs n) (j : Nat) (v : Value) (hp : n'.peers = n.peers) (hs : n'.subs = n.subs)
    (hj : ∀ vp, (nodeCells n vp vs).toArray.setIfInBounds j v = (nodeCells n' vp vs).toArray) : NodeAt (w.setCell ⟨b, j, none⟩ v) b vs n' := by
  obtain ⟨vp, e1, e2, e3⟩ := h
  have ht := set_typed (j := j) v e1
  refine ⟨vp, by rw [heap_set v e1, hj], ?_, ?_⟩
  · rw [hp]
    exact e2.typed fun k c t hk hc => ht k c t (by rcases hk with e | e <;> rw [e] <;> decide) hc
  · rw [hs]
    exact own_typed e3 fun k c _ hc => ht k c 85 (by decide) hc

theorem NodeAt.putNow {w : World} {b : Nat} {vs : Value} {n : Hw.Node} (h : NodeAt w b vs n) (z : Int) : NodeAt (w.setCell ⟨b, 5, none⟩ (.int .i64 z)) b vs { n with now := z } := h.put 5 _ rfl rfl fun _ => rfl
theorem NodeAt.putSeq {w : World} {b : Nat} {vs : Value} {n : Hw.Node} (h : NodeAt w b vs n) (z : Int) : NodeAt (w.setCell ⟨b, 6, none⟩ (.int .i64 z)) b vs { n with seq := z } := h.put 6 _ rfl rfl fun _ => rfl
theorem NodeAt.putDrops {w : World} {b : Nat} {vs : Value} {n : Hw.Node} (h : NodeAt w b vs n) (z : Int) : NodeAt (w.setCell ⟨b, 7, none⟩ (.int .i64 z)) b vs { n with drops := z } := h.put 7 _ rfl rfl fun _ => rfl

/-- Other peers. -/
theorem NodeAt.putPeers {w : World} {b : Nat} {vs v : Value} {n : Hw.Node} {l : List Peer} (h : NodeAt w b vs n) (ho : OwnP w (b + 1) v l) : NodeAt (w.setCell ⟨b, 8, none⟩ v) b vs { n with peers := l } := by
  obtain ⟨vp, e1, e2, e3⟩ := h
  have ht := set_typed (j := 8) v e1
  exact ⟨v, by rw [heap_set v e1]; rfl, ho.typed fun k c t hk hc => ht k c t (by rcases hk with e | e <;> rw [e] <;> decide) hc, own_typed e3 fun k c _ hc => ht k c 85 (by decide) hc⟩

/-- Other subs. -/
theorem NodeAt.putSubs {w : World} {b : Nat} {vs v : Value} {n : Hw.Node} {l : List Sub} (h : NodeAt w b vs n) (ho : w.ownsRow (b + 1) 85 3 v l.length (subsCells l)) : NodeAt (w.setCell ⟨b, 9, none⟩ v) b v { n with subs := l } := by
  obtain ⟨vp, e1, e2, e3⟩ := h
  have ht := set_typed (j := 9) v e1
  exact ⟨vp, by rw [heap_set v e1]; rfl, e2.typed fun k c t hk hc => ht k c t (by rcases hk with e | e <;> rw [e] <;> decide) hc, own_typed ho fun k c _ hc => ht k c 85 (by decide) hc⟩

def confV (c : Config) : Value := .agg #[.string c.id, .int .i64 c.inc, .int .i64 c.every, .int .i64 c.cap, .int .i64 c.least]

set_option maxRecDepth 100000 in
set_option maxHeartbeats 2000000 in
theorem ncheck_any (c : Config) (w : World) : Calls Try.prog 132 #[confV c] w fun e w' => e = .returned (.int .i64 (configCheck c)) ∧ Below w.heap.size w w' := by
  obtain ⟨id, inc, every, cap, least⟩ := c
  unfold confV
  go_enter Try.func132, Try.ntmps132
  go_wp2_with (first
    | (go_at_call 83; refine (id_any _ _).mono ?_; rintro e w1 ⟨rfl, rfl⟩)
    | (go_at_call 84; refine (val_any _ _).mono ?_; rintro e w2 ⟨rfl, rfl⟩)
    | fail)
  all_goals
    go_ret
    exact ⟨ret_int (by simp_all [configCheck, valOk] <;> omega), (Below.refl _ _).alloc (Nat.le_refl _) _⟩

/-- A new node. -/
def newNode (c : Config) : Hw.Node := ⟨c, 0, 0, 0, [], []⟩

set_option maxRecDepth 100000 in
set_option maxHeartbeats 2000000 in
theorem new_any (c : Config) (w : World) (hc : configCheck c = 0) : Calls Try.prog 93 #[confV c] w fun e w' => (∃ b, e = .returned (.tuple #[.pointer (some ⟨b, 0, none⟩), .int .i64 0]) ∧ w.heap.size ≤ b ∧ NodeAt w' b (.slice none 0 0) (newNode c)) ∧ Below w.heap.size w w' := by
  obtain ⟨id, inc, every, cap, least⟩ := c
  have hcb : (configCheck ⟨id, inc, every, cap, least⟩ != 0) = false := by simp [hc]
  unfold confV
  clear hc
  go_enter Try.func93, Try.ntmps93
  go_wp2_with (go_at_call 132; refine (ncheck_any ⟨id, inc, every, cap, least⟩ _).mono ?_; rintro e w1 ⟨rfl, hb1⟩; obtain ⟨c1, f1, z1, hw1⟩ := keep1 hb1; have c10 := c1 0; have c11 := c1 1; have c12 := c1 2; have c13 := c1 3; have c14 := c1 4; simp at c10 c11 c12 c13 c14; clear c1 f1 hb1)
  go_ret2
  refine ⟨⟨_, rfl, ?_, ?_⟩, ?_⟩
  · have := hw1.size
    first | exact this | omega
  · exact ⟨.slice none 0 0, heap_alloc_new _ _, OwnP.nil _ _, World.ownsRow_nil _ _ _ _⟩
  · exact hw1.alloc hw1.size _

set_option maxRecDepth 100000 in
theorem now_any (b : Nat) (vs : Value) (n : Hw.Node) (w : World) (h : NodeAt w b vs n) : Calls Try.prog 35 #[.pointer (some ⟨b, 0, none⟩)] w fun e w' => e = .returned (.int .i64 n.now) ∧ w' = w := by
  obtain ⟨A, c, -, -, -, -, -, c5, -⟩ := h.cells
  clear h
  go_enter Try.func35, Try.ntmps35
  go_wp2
  go_ret
  exact ⟨rfl, rfl⟩

set_option maxRecDepth 100000 in
theorem seq_any (b : Nat) (vs : Value) (n : Hw.Node) (w : World) (h : NodeAt w b vs n) : Calls Try.prog 34 #[.pointer (some ⟨b, 0, none⟩)] w fun e w' => e = .returned (.int .i64 n.seq) ∧ w' = w := by
  obtain ⟨A, c, -, -, -, -, -, -, c6, -⟩ := h.cells
  clear h
  go_enter Try.func34, Try.ntmps34
  go_wp2
  go_ret
  exact ⟨rfl, rfl⟩

set_option maxRecDepth 100000 in
theorem drops_any (b : Nat) (vs : Value) (n : Hw.Node) (w : World) (h : NodeAt w b vs n) : Calls Try.prog 52 #[.pointer (some ⟨b, 0, none⟩)] w fun e w' => e = .returned (.int .i64 n.drops) ∧ w' = w := by
  obtain ⟨A, c, -, -, -, -, -, -, -, c7, -⟩ := h.cells
  clear h
  go_enter Try.func52, Try.ntmps52
  go_wp2
  go_ret
  exact ⟨rfl, rfl⟩

end Go.Proofs.Ytmclalhjnjghnaa
