/- A node in memory; what a step may touch; contracts of node.Check, New, Now, Seq, Drops. Contracts of slices.IndexFunc over peers and subs, with the program's closures; of (*Node).Level. The contract of (*Node).Level. The contract of (*Node).Tick, given what told does. The contract of (*Node).Watch. A node's subs in memory: one sub read and written. Contracts of the closures over subs, of slices.IndexFunc and ContainsFunc with them. The contract of (*Node).told. The contract of (*Node).Hear. The contract of (*Node).Join. The walk of (*Node).Join. Contracts of slices.Delete and Clone of subs, of (*Node).Part, Subs and Peers. Contracts of told (where nobody is subscribed), hwkeep.nodeBegun and hwkeep.one. Plain laws of nodes: what stays so of a node whatever it is asked; levels. Plain laws of nodes: what stays so of a node whatever it is asked; what is told. Plain laws of nodes: each turn keeps what is so of a node; what it tells. The contract of hwkeep.asked: a node that is asked by turns. The node of hwkeep.one: all is so of it at the start; and whatever it is asked. -/
import Derived.Test.YtmclalhjnjghnaaBaseP
import Derived.Test.YtmclalhjnjghnaaBaseA
import Derived.Test.YtmclalhjnjghnaaLevel
import Derived.Test.YtmclalhjnjghnaaStat
import Derived.Test.YtmclalhjnjghnaaBaseE
import Derived.Deep.QuietTactic
import Derived.BigQuiet
namespace Go.Proofs.Ytmclalhjnjghnaa
open Go.RowKit Hw

def subCells (s : Sub) : List Value := [.string s.id, .int .i64 s.theta, .bool s.on]
def subsCells (l : List Sub) : List Value := l.flatMap subCells
def nodeCells (n : Hw.Node) (vp vs : Value) : List Value := [.string n.c.id, .int .i64 n.c.inc, .int .i64 n.c.every, .int .i64 n.c.cap, .int .i64 n.c.least, .int .i64 n.now, .int .i64 n.seq, .int .i64 n.drops, vp, vs]

/-- A node in memory, in block b; its subs: vs. -/
def NodeAt (w : World) (b : Nat) (vs : Value) (n : Hw.Node) : Prop :=
  ∃ vp, w.heap[b]? = some (.cells (nodeCells n vp vs).toArray 145 (0, 0)) ∧ OwnP w (b + 1) vp n.peers ∧ w.ownsRow (b + 1) 85 3 vs n.subs.length (subsCells n.subs)

/-- Only the blocks of S, and new ones, may have changed. -/
structure Touch (S : Nat → Prop) (w w' : World) : Prop where
  os : w'.os = w.os
  tape : w'.tape = w.tape
  output : w'.output = w.output
  size : w.heap.size ≤ w'.heap.size
  block : ∀ k, k < w.heap.size → ¬ S k → w'.heap[k]? = w.heap[k]?

theorem Touch.refl (S : Nat → Prop) (w : World) : Touch S w w := ⟨rfl, rfl, rfl, Nat.le_refl _, fun _ _ _ => rfl⟩
theorem Touch.trans {S : Nat → Prop} {w w1 w2 : World} (h : Touch S w w1) (h2 : Touch S w1 w2) : Touch S w w2 :=
  ⟨h2.os.trans h.os, h2.tape.trans h.tape, h2.output.trans h.output, Nat.le_trans h.size h2.size, fun k hk hs => (h2.block k (Nat.lt_of_lt_of_le hk h.size) hs).trans (h.block k hk hs)⟩
theorem Touch.of_below {S : Nat → Prop} {w w' : World} (h : Below w.heap.size w w') : Touch S w w' := ⟨h.os, h.tape, h.output, h.size, fun k hk _ => h.block k hk⟩
theorem Touch.mono {S S' : Nat → Prop} {w w' : World} (h : Touch S w w') (hs : ∀ k, k < w.heap.size → S k → S' k) : Touch S' w w' := ⟨h.os, h.tape, h.output, h.size, fun k hk hn => h.block k hk fun hS => hn (hs k hk hS)⟩
theorem Touch.setCell {S : Nat → Prop} {w w' : World} (h : Touch S w w') {a : Addr} (ha : S a.block) (v : Value) : Touch S w (w'.setCell a v) :=
  ⟨h.os, h.tape, h.output, by simpa [World.setCell] using h.size, fun k hk hn => (heap_setCell_other _ _ _ _ (fun e => hn (by rw [e]; exact ha))).trans (h.block k hk hn)⟩
theorem Touch.alloc {S : Nat → Prop} {w w' : World} (h : Touch S w w') (o : Obj) : Touch S w (w'.alloc o) := h.trans (Touch.of_below ((Below.refl _ _).alloc (Nat.le_refl _) _))
theorem Touch.drew {S : Nat → Prop} {w w' : World} (h : Touch S w w') : Touch S w w'.drew := ⟨h.os, h.tape, h.output, h.size, h.block⟩
/-- Behind a base below all that may change. -/
theorem Touch.below {S : Nat → Prop} {B : Nat} {w0 w w' : World} (h0 : Below B w0 w) (h : Touch S w w') (hB : B ≤ w.heap.size) (hs : ∀ k, k < B → ¬ S k) : Below B w0 w' :=
  h0.trans ⟨h.os, h.tape, h.output, h.size, fun k hk => h.block k (by omega) (hs k hk)⟩
theorem Touch.cell {S : Nat → Prop} {w w' : World} (h : Touch S w w') {b o : Nat} {v : Value} (hc : w.cell? ⟨b, o, none⟩ = some v) (hb : ¬ S b) : w'.cell? ⟨b, o, none⟩ = some v :=
  (World.cell?_of_block (a := ⟨b, o, none⟩) (h.block b (blt hc) hb)).trans hc

theorem own_typed {w w' : World} {B : Nat} {e : TypeId} {s : Nat} {v : Value} {n : Nat} {xs : List Value} (h : w.ownsRow B e s v n xs) (hk : ∀ (k : Nat) (c : Array Value), some k = v.ownBlock → w.heap[k]? = some (.cells c e (0, 0)) → w'.heap[k]? = w.heap[k]?) : w'.ownsRow B e s v n xs := by
  obtain ⟨h1, h2 | ⟨g, cap, cur, e1, e2, e3, e4⟩⟩ := h
  · exact ⟨h1, .inl h2⟩
  · exact ⟨h1, .inr ⟨g, cap, cur, e1, e2, (hk g cur (by rw [e1]; rfl) e3).trans e3, e4⟩⟩

theorem OwnP.typed {w w' : World} {B : Nat} {v : Value} {l : List Peer} (h : OwnP w B v l) (hk : ∀ (k : Nat) (c : Array Value) (t : TypeId), t = 40 ∨ t = 3 → w.heap[k]? = some (.cells c t (0, 0)) → w'.heap[k]? = w.heap[k]?) : OwnP w' B v l := by
  obtain ⟨vs, h1, h2, h3⟩ := h
  exact ⟨vs, h1, own_typed h2 (fun k c _ hc => hk k c 40 (.inl rfl) hc), fun k u p a b => own_typed (h3 k u p a b) (fun k c _ hc => hk k c 3 (.inr rfl) hc)⟩

theorem NodeAt.lt {w : World} {b : Nat} {vs : Value} {n : Hw.Node} (h : NodeAt w b vs n) : b < w.heap.size := by
  obtain ⟨vp, h1, _⟩ := h
  exact (Array.getElem?_eq_some_iff.1 h1).1

theorem NodeAt.below {w w' : World} {b : Nat} {vs : Value} {n : Hw.Node} (h : NodeAt w b vs n) (hb : Below w.heap.size w w') : NodeAt w' b vs n := by
  obtain ⟨vp, h1, h2, h3⟩ := h
  exact ⟨vp, (hb.block b (Array.getElem?_eq_some_iff.1 h1).1).trans h1, h2.below hb, own_below h3 hb⟩

/-- A node keeps, where what changes are blocks of nodes and of subs, but none of its own. -/
theorem NodeAt.touch {S : Nat → Prop} {w w' : World} {b : Nat} {vs : Value} {n : Hw.Node} (h : NodeAt w b vs n) (ht : Touch S w w') (h1 : ¬ S b) (h2 : ∀ k, some k = vs.ownBlock → ¬ S k)
    (h3 : ∀ (k : Nat) (c : Array Value) (t : TypeId), t = 40 ∨ t = 3 → w.heap[k]? = some (.cells c t (0, 0)) → ¬ S k) : NodeAt w' b vs n := by
  obtain ⟨vp, e1, e2, e3⟩ := h
  refine ⟨vp, (ht.block b (Array.getElem?_eq_some_iff.1 e1).1 h1).trans e1, e2.typed fun k c t hk hc => ht.block k (Array.getElem?_eq_some_iff.1 hc).1 (h3 k c t hk hc), own_typed e3 fun k c hk hc => ht.block k (Array.getElem?_eq_some_iff.1 hc).1 (h2 k hk)⟩

theorem NodeAt.cells {w : World} {b : Nat} {vs : Value} {n : Hw.Node} (h : NodeAt w b vs n) : ∃ A c, w.cell? ⟨b, 0, none⟩ = some (.string n.c.id) ∧ w.cell? ⟨b, 1, none⟩ = some (.int .i64 n.c.inc) ∧ w.cell? ⟨b, 2, none⟩ = some (.int .i64 n.c.every) ∧
    w.cell? ⟨b, 3, none⟩ = some (.int .i64 n.c.cap) ∧ w.cell? ⟨b, 4, none⟩ = some (.int .i64 n.c.least) ∧ w.cell? ⟨b, 5, none⟩ = some (.int .i64 n.now) ∧ w.cell? ⟨b, 6, none⟩ = some (.int .i64 n.seq) ∧ w.cell? ⟨b, 7, none⟩ = some (.int .i64 n.drops) ∧
    w.cell? ⟨b, 8, none⟩ = some (.slice A n.peers.length c) ∧ w.cell? ⟨b, 9, none⟩ = some vs ∧ PeersR w A n.peers ∧ OwnP w (b + 1) (.slice A n.peers.length c) n.peers ∧ ∀ j, w.frozen? ⟨b, j, none⟩ = false := by
  obtain ⟨vp, e1, e2, e3⟩ := h
  obtain ⟨A, c, rfl, _⟩ := e2.form
  have hc := fun j => cell_of_row w b j _ 145 (0, 0) e1
  exact ⟨A, c, hc 0, hc 1, hc 2, hc 3, hc 4, hc 5, hc 6, hc 7, hc 8, hc 9, e2.reads, e2, fun j => frozen_of_row _ _ _ _ _ e1⟩

theorem heap_set {w : World} {b j : Nat} {c : Array Value} {t : TypeId} (v : Value) (h : w.heap[b]? = some (.cells c t (0, 0))) : (w.setCell ⟨b, j, none⟩ v).heap[b]? = some (.cells (c.setIfInBounds j v) t (0, 0)) := heap_setCell_same w b j c t v h

theorem set_typed {w : World} {b j : Nat} {c : Array Value} (v : Value) (h : w.heap[b]? = some (.cells c 145 (0, 0))) : ∀ (k : Nat) (d : Array Value) (t : TypeId), t ≠ 145 → w.heap[k]? = some (.cells d t (0, 0)) → (w.setCell ⟨b, j, none⟩ v).heap[k]? = w.heap[k]? := by
  intro k d t ht hk
  refine heap_setCell_other _ _ _ _ fun e => ?_
  have e' : k = b := e
  subst e'
  rw [hk] at h
  injection h with h
  injection h with _ h _
  exact ht h

/-- A plain field is written. -/
theorem NodeAt.put {w : World} {b : Nat} {vs : Value} {n n' : Hw.Node} (h : NodeAt w b vs n) (j : Nat) (v : Value) (hp : n'.peers = n.peers) (hs : n'.subs = n.subs)
    (hj : ∀ vp, (nodeCells n vp vs).toArray.setIfInBounds j v = (nodeCells n' vp vs).toArray) : NodeAt (w.setCell ⟨b, j, none⟩ v) b vs n' := by
  obtain ⟨vp, e1, e2, e3⟩ := h
  have ht := set_typed (j := j) v e1
  refine ⟨vp, by rw [heap_set v e1, hj], ?_, ?_⟩
  · rw [hp]
    exact e2.typed fun k c t hk hc => ht k c t (by rcases hk with e | e <;> rw [e] <;> decide) hc
  · rw [hs]
    exact own_typed e3 fun k c _ hc => ht k c 85 (by decide) hc

theorem NodeAt.putNow {w : World} {b : Nat} {vs : Value} {n : Hw.Node} (h : NodeAt w b vs n) (z : Int) : NodeAt (w.setCell ⟨b, 5, none⟩ (.int .i64 z)) b vs { n with now := z } := h.put 5 _ rfl rfl fun _ => rfl
theorem NodeAt.putSeq {w : World} {b : Nat} {vs : Value} {n : Hw.Node} (h : NodeAt w b vs n) (z : Int) : NodeAt (w.setCell ⟨b, 6, none⟩ (.int .i64 z)) b vs { n with seq := z } := h.put 6 _ rfl rfl fun _ => rfl
theorem NodeAt.putDrops {w : World} {b : Nat} {vs : Value} {n : Hw.Node} (h : NodeAt w b vs n) (z : Int) : NodeAt (w.setCell ⟨b, 7, none⟩ (.int .i64 z)) b vs { n with drops := z } := h.put 7 _ rfl rfl fun _ => rfl

/-- Other peers. -/
theorem NodeAt.putPeers {w : World} {b : Nat} {vs v : Value} {n : Hw.Node} {l : List Peer} (h : NodeAt w b vs n) (ho : OwnP w (b + 1) v l) : NodeAt (w.setCell ⟨b, 8, none⟩ v) b vs { n with peers := l } := by
  obtain ⟨vp, e1, e2, e3⟩ := h
  have ht := set_typed (j := 8) v e1
  exact ⟨v, by rw [heap_set v e1]; rfl, ho.typed fun k c t hk hc => ht k c t (by rcases hk with e | e <;> rw [e] <;> decide) hc, own_typed e3 fun k c _ hc => ht k c 85 (by decide) hc⟩

/-- Other subs. -/
theorem NodeAt.putSubs {w : World} {b : Nat} {vs v : Value} {n : Hw.Node} {l : List Sub} (h : NodeAt w b vs n) (ho : w.ownsRow (b + 1) 85 3 v l.length (subsCells l)) : NodeAt (w.setCell ⟨b, 9, none⟩ v) b v { n with subs := l } := by
  obtain ⟨vp, e1, e2, e3⟩ := h
  have ht := set_typed (j := 9) v e1
  exact ⟨vp, by rw [heap_set v e1]; rfl, e2.typed fun k c t hk hc => ht k c t (by rcases hk with e | e <;> rw [e] <;> decide) hc, own_typed ho fun k c _ hc => ht k c 85 (by decide) hc⟩

def confV (c : Config) : Value := .agg #[.string c.id, .int .i64 c.inc, .int .i64 c.every, .int .i64 c.cap, .int .i64 c.least]

set_option maxRecDepth 100000 in
set_option maxHeartbeats 2000000 in
theorem ncheck_any (c : Config) (w : World) : Calls Try.prog 132 #[confV c] w fun e w' => e = .returned (.int .i64 (configCheck c)) ∧ Below w.heap.size w w' := by
  obtain ⟨id, inc, every, cap, least⟩ := c
  unfold confV
  go_enter Try.func132, Try.ntmps132
  go_wp2_with (first
    | (go_at_call 83; refine (id_any _ _).mono ?_; rintro e w1 ⟨rfl, rfl⟩)
    | (go_at_call 84; refine (val_any _ _).mono ?_; rintro e w2 ⟨rfl, rfl⟩)
    | fail)
  all_goals
    go_ret
    exact ⟨ret_int (by simp_all [configCheck, valOk] <;> omega), (Below.refl _ _).alloc (Nat.le_refl _) _⟩

/-- A new node. -/
def newNode (c : Config) : Hw.Node := ⟨c, 0, 0, 0, [], []⟩

set_option maxRecDepth 100000 in
set_option maxHeartbeats 2000000 in
theorem new_any (c : Config) (w : World) (hc : configCheck c = 0) : Calls Try.prog 93 #[confV c] w fun e w' => (∃ b, e = .returned (.tuple #[.pointer (some ⟨b, 0, none⟩), .int .i64 0]) ∧ w.heap.size ≤ b ∧ NodeAt w' b (.slice none 0 0) (newNode c)) ∧ Below w.heap.size w w' := by
  obtain ⟨id, inc, every, cap, least⟩ := c
  have hcb : (configCheck ⟨id, inc, every, cap, least⟩ != 0) = false := by simp [hc]
  unfold confV
  clear hc
  go_enter Try.func93, Try.ntmps93
  go_wp2_with (go_at_call 132; refine (ncheck_any ⟨id, inc, every, cap, least⟩ _).mono ?_; rintro e w1 ⟨rfl, hb1⟩; obtain ⟨c1, f1, z1, hw1⟩ := keep1 hb1; have c10 := c1 0; have c11 := c1 1; have c12 := c1 2; have c13 := c1 3; have c14 := c1 4; simp at c10 c11 c12 c13 c14; clear c1 f1 hb1)
  go_ret2
  refine ⟨⟨_, rfl, ?_, ?_⟩, ?_⟩
  · have := hw1.size
    first | exact this | omega
  · exact ⟨.slice none 0 0, heap_alloc_new _ _, OwnP.nil _ _, World.ownsRow_nil _ _ _ _⟩
  · exact hw1.alloc hw1.size _

set_option maxRecDepth 100000 in
theorem now_any (b : Nat) (vs : Value) (n : Hw.Node) (w : World) (h : NodeAt w b vs n) : Calls Try.prog 35 #[.pointer (some ⟨b, 0, none⟩)] w fun e w' => e = .returned (.int .i64 n.now) ∧ w' = w := by
  obtain ⟨A, c, -, -, -, -, -, c5, -⟩ := h.cells
  clear h
  go_enter Try.func35, Try.ntmps35
  go_wp2
  go_ret
  exact ⟨rfl, rfl⟩

set_option maxRecDepth 100000 in
theorem seq_any (b : Nat) (vs : Value) (n : Hw.Node) (w : World) (h : NodeAt w b vs n) : Calls Try.prog 34 #[.pointer (some ⟨b, 0, none⟩)] w fun e w' => e = .returned (.int .i64 n.seq) ∧ w' = w := by
  obtain ⟨A, c, -, -, -, -, -, -, c6, -⟩ := h.cells
  clear h
  go_enter Try.func34, Try.ntmps34
  go_wp2
  go_ret
  exact ⟨rfl, rfl⟩

set_option maxRecDepth 100000 in
theorem drops_any (b : Nat) (vs : Value) (n : Hw.Node) (w : World) (h : NodeAt w b vs n) : Calls Try.prog 52 #[.pointer (some ⟨b, 0, none⟩)] w fun e w' => e = .returned (.int .i64 n.drops) ∧ w' = w := by
  obtain ⟨A, c, -, -, -, -, -, -, -, c7, -⟩ := h.cells
  clear h
  go_enter Try.func52, Try.ntmps52
  go_wp2
  go_ret
  exact ⟨rfl, rfl⟩

end Go.Proofs.Ytmclalhjnjghnaa

namespace Go.Proofs.Ytmclalhjnjghnaa
open Go.RowKit Hw

/-- Where the first stands of which f is true; -1 where none. -/
def at? {α : Type} (f : α → Bool) (l : List α) : Int := match l.findIdx? f with | some k => k | none => -1

theorem at_found {α : Type} {f : α → Bool} {l : List α} {k : Nat} (hk : k < l.length) (h : f l[k] = true) (hl : ∀ j (hj : j < l.length), j < k → f l[j] = false) : at? f l = k := by
  unfold at?
  rw [List.findIdx?_eq_some_iff_getElem.2 ⟨hk, h, fun j hj => by simp [hl j (by omega) hj]⟩]

theorem at_none {α : Type} {f : α → Bool} {l : List α} (hl : ∀ j (hj : j < l.length), f l[j] = false) : at? f l = -1 := by
  unfold at?
  rw [List.findIdx?_eq_none_iff.2 fun x hx => by
    obtain ⟨j, hj, rfl⟩ := List.getElem_of_mem hx
    exact hl j hj]

set_option maxRecDepth 100000 in
theorem lvl1_any (p : Peer) (u : Value) (id : ByteArray) (g : Nat) (w : World) (hc : w.cell? ⟨g, 0, none⟩ = some (.string id)) :
    Calls Try.prog 102 #[.agg (peerCells p u).toArray, .pointer (some ⟨g, 0, none⟩)] w fun e w' => e = .returned (.bool (sq p.id id)) ∧ Below w.heap.size w w' := by
  have hb : ∀ c, Below w.heap.size w (w.alloc (.cells c 40)) := fun c => (Below.refl _ _).alloc (Nat.le_refl _) _
  have hg := blt hc
  have hc2 := fun c => bsome (hb c) hc
  go_enter Try.func102, Try.ntmps102
  go_wp2_with fail
  go_ret
  exact ⟨rfl, hb _⟩

set_option maxRecDepth 100000 in
set_option maxHeartbeats 1000000 in
theorem indexp_any (A : Option Addr) (c : Nat) (l : List Peer) (id : ByteArray) (g : Nat) (w : World) (h : PeersR w A l) (hl : l.length ≤ 6) (hc : w.cell? ⟨g, 0, none⟩ = some (.string id)) :
    Calls Try.prog 62 #[.slice A l.length c, .func (.func 102) #[] #[.pointer (some ⟨g, 0, none⟩)]] w fun e w' => e = .returned (.int .i64 (at? (fun p => sq p.id id) l)) ∧ Below w.heap.size w w' := by
  have H := Lib.hid h
  have HC := Lib.hid hc
  clear h hc
  go_enter Try.func62, Try.ntmps62
  go_wp2_with fail
  go_loopw [5, 8] (fun _ i wr => ∃ k : Nat, k ≤ l.length ∧ i = .int .i64 k ∧ Hid (Below w.heap.size w wr) ∧ Hid (∀ j (hj : j < l.length), j < k → sq (l[j]).id id = false)) (fun _ i _ => l.length - (intOf i).toNat)
  case atStart => exact ⟨0, by omega, rfl, Below.refl _ _, fun j hj h => by omega⟩
  case round =>
    obtain ⟨k, hk, rfl, HB, HJ⟩ := hrel
    by_cases hlt : k < l.length
    · obtain ⟨g', off, rfl, hp⟩ := (H.out.below HB.out) (by omega)
      obtain ⟨A', c', h0, h1, h2, h3, h4, h5, h6, -, -⟩ := hp k hlt
      have hd := bsome HB.out HC.out
      have hkl : (k : Int) < (l.length : Int) := by omega
      have hk0 : (0 : Int) ≤ (k : Int) := by omega
      have hkw : IntKind.i64.wrap ((k : Int) + 1) = (k : Int) + 1 := IntWalk.i64_in _ (by omega)
      clear hp
      go_wp2_with (go_at_call 102; refine (lvl1_any _ _ id g _ hd).mono ?_; rintro e w1 ⟨rfl, hb1⟩; have Hb1 := Lib.hid hb1; clear hb1)
      · have hs : sq l[k].id id = true := by assumption
        go_ret
        exact ⟨ret_int (at_found (f := fun p => sq p.id id) hlt hs HJ.out).symm, HB.out.trans (Hb1.out.mono HB.out.size)⟩
      · have hs : sq l[k].id id = false := by assumption
        go_roundw
        case rel => exact ⟨k + 1, by omega, by go_num, HB.out.trans (Hb1.out.mono HB.out.size), fun j hj hjk => by
          by_cases e : j = k
          · subst e; exact hs
          · exact HJ.out j hj (by omega)⟩
        case measure => simp [intOf]; omega
    · have hkl : ¬ (k : Int) < (l.length : Int) := by omega
      go_wp2_with fail
      go_ret
      exact ⟨ret_int (at_none fun j hj => HJ.out j hj (by omega)).symm, HB.out⟩

end Go.Proofs.Ytmclalhjnjghnaa

namespace Go.Proofs.Ytmclalhjnjghnaa
open Go.RowKit Hw

theorem at_cases {α : Type} (f : α → Bool) (l : List α) : (at? f l = -1 ∧ l.find? f = none) ∨ ∃ k, ∃ hk : k < l.length, at? f l = (k : Int) ∧ l.find? f = some l[k] ∧ f l[k] = true := by
  unfold at?
  cases h : l.findIdx? f with
  | none =>
    refine .inl ⟨rfl, List.find?_eq_none.2 fun x hx => ?_⟩
    have := List.findIdx?_eq_none_iff.1 h x hx
    simp [this]
  | some k =>
    obtain ⟨hk, h1, h2⟩ := List.findIdx?_eq_some_iff_getElem.1 h
    exact .inr ⟨k, hk, rfl, List.find?_eq_some_iff_getElem.2 ⟨h1, k, hk, rfl, fun j hj => by simpa using h2 j hj⟩, h1⟩

def V44 (b P : Nat) (n : Hw.Node) (p : Peer) (A2 : Option Addr) (c2 : Nat) (j : Nat) (v : Value) (_ : World) : Prop :=
  match j with
  | 0 => v = .pointer (some ⟨P, 4, none⟩)
  | 1 => v = .agg #[.int .i64 p.cap, .slice A2 p.vals.length c2]
  | 2 => v = .pointer (some ⟨b, 0, none⟩)
  | 3 => v = .pointer (some ⟨b, 0, none⟩)
  | 4 => v = .pointer (some ⟨b, 0, none⟩)
  | 5 => v = .pointer (some ⟨b, 4, none⟩)
  | 6 => v = .int .i64 n.c.least
  | 7 => v = .pointer (some ⟨b, 0, none⟩)
  | 8 => v = .pointer (some ⟨b, 0, none⟩)
  | 9 => v = .pointer (some ⟨b, 5, none⟩)
  | 10 => v = .int .i64 n.now
  | 11 => v = .pointer (some ⟨P, 6, none⟩)
  | 12 => v = .int .i64 p.last
  | 13 => v = .int .i64 (n.now - p.last)
  | 14 => v = .tuple #[.int .i64 (levelOf p.cap p.vals n.c.least (n.now - p.last)).1, .int .i64 (levelOf p.cap p.vals n.c.least (n.now - p.last)).2]
  | 15 => v = .int .i64 (levelOf p.cap p.vals n.c.least (n.now - p.last)).1
  | 16 => v = .int .i64 (levelOf p.cap p.vals n.c.least (n.now - p.last)).2
  | 17 => v = .int .i64 (levelOf p.cap p.vals n.c.least (n.now - p.last)).1
  | _ => v = .int .i64 (levelOf p.cap p.vals n.c.least (n.now - p.last)).2
def V44S : List Nat := [23, 24, 25, 26, 27, 28, 29, 30, 31, 32, 33, 34, 35, 36, 37, 38, 39, 4, 5]

/-- The node's levels can be told: no difference of times wraps. -/
def NodeLv (n : Hw.Node) : Prop := n.peers.length ≤ 6 ∧ ∀ p ∈ n.peers, IntKind.i64.wrap (n.now - p.last) = n.now - p.last

set_option maxRecDepth 100000 in
set_option maxHeartbeats 1000000 in
theorem nlevel_any (b : Nat) (vs : Value) (n : Hw.Node) (id : ByteArray) (w : World) (h : NodeAt w b vs n) (hlv : NodeLv n) :
    Calls Try.prog 44 #[.pointer (some ⟨b, 0, none⟩), .string id] w fun e w' => e = .returned (.tuple #[.int .i64 (level n id).1, .int .i64 (level n id).2]) ∧ Below w.heap.size w w' := by
  obtain ⟨A, c, -, -, -, -, c4, c5, -, -, c8, -, hp, -, -⟩ := h.cells
  have Hp := Lib.hid hp
  have hbl := h.lt
  obtain ⟨hl6, hlw⟩ := hlv
  clear h hp
  rcases at_cases (fun p => sq p.id id) n.peers with ⟨ha, hf⟩ | ⟨k, hk, ha, hf, hs⟩
  · have hr : level n id = (0, 4) := by unfold level; rw [hf]
    have Hr := Lib.hid hr
    have HI : Hid (∀ w, PeersR w A n.peers → ∀ g, w.cell? ⟨g, 0, none⟩ = some (.string id) → Calls Try.prog 62 #[.slice A n.peers.length c, .func (.func 102) #[] #[.pointer (some ⟨g, 0, none⟩)]] w fun e w' => e = .returned (.int .i64 (-1)) ∧ Below w.heap.size w w') := fun w h g hg => by
      have := indexp_any A c n.peers id g w h hl6 hg
      rwa [ha] at this
    have hbb := (Below.refl w.heap.size w).alloc (Nat.le_refl _) (.cells #[.string id] 9)
    have HB := Lib.hid hbb
    have hcg : (w.alloc (.cells #[.string id] 9)).cell? ⟨w.heap.size, 0, none⟩ = some (.string id) := by
      rw [cell_of_row _ _ _ _ _ _ (heap_alloc_new w _)]; rfl
    have HG := Lib.hid hcg
    clear hr ha hf hbb hcg
    go_enter Try.func44, Try.ntmps44
    go_wp2_with (go_at_call 62; refine (HI.out _ (Hp.out.below HB.out) _ HG.out).mono ?_; rintro e w1 ⟨rfl, hb1⟩; have Hb1 := Lib.hid hb1; clear hb1)
    go_ret2
    rw [Hr.out]
    exact ⟨rfl, HB.out.trans (Hb1.out.mono HB.out.size)⟩
  · obtain ⟨p, hpk⟩ : ∃ p, n.peers[k] = p := ⟨_, rfl⟩
    have hww := hlw p (by rw [← hpk]; exact List.getElem_mem hk)
    have hr : level n id = levelOf p.cap p.vals n.c.least (n.now - p.last) := by unfold level; rw [hf, hpk]
    have Hr := Lib.hid hr
    have HI : Hid (∀ w, PeersR w A n.peers → ∀ g, w.cell? ⟨g, 0, none⟩ = some (.string id) → Calls Try.prog 62 #[.slice A n.peers.length c, .func (.func 102) #[] #[.pointer (some ⟨g, 0, none⟩)]] w fun e w' => e = .returned (.int .i64 k) ∧ Below w.heap.size w w') := fun w h g hg => by
      have := indexp_any A c n.peers id g w h hl6 hg
      rwa [ha] at this
    have hbb := (Below.refl w.heap.size w).alloc (Nat.le_refl _) (.cells #[.string id] 9)
    have HB := Lib.hid hbb
    have hcg : (w.alloc (.cells #[.string id] 9)).cell? ⟨w.heap.size, 0, none⟩ = some (.string id) := by
      rw [cell_of_row _ _ _ _ _ _ (heap_alloc_new w _)]; rfl
    have HG := Lib.hid hcg
    have hki : (k : Int) < (n.peers.length : Int) := by omega
    have hk0 : ¬ (k : Int) < 0 := by omega
    obtain ⟨g, off, rfl, hpa⟩ := Hp.out (by omega)
    have hpat := hpa k hk
    rw [hpk] at hpat
    have Hpat := Lib.hid hpat
    have Hpk := Lib.hid hpk
    clear hr ha hf hbb hcg hlw hpa hpat hs hpk
    go_enter Try.func44, Try.ntmps44
    go_wp2_with (first | (go_at_call 62; refine (HI.out _ (Hp.out.below HB.out) _ HG.out).mono ?_; rintro e w1 ⟨rfl, hb1⟩; have hb0 := HB.out.trans (hb1.mono HB.out.size); have c8 := bsome hb0 c8; have c4 := bsome hb0 c4; have c5 := bsome hb0 c5; obtain ⟨A2, c2, p0, p1, p2, p3, p4, p5, p6, pi, -⟩ := Hpat.out.below hb0; have Pi := Lib.hid pi; have Hb0 := Lib.hid hb0; clear hb1 hb0 pi) | fail)
    have hbW := (Below.refl w1.heap.size w1).alloc (Nat.le_refl _) (.cells #[.string p.id, .int .i64 p.gate.inc, .int .i64 p.gate.seq, .int .i64 p.gate.drops, .int .i64 p.cap, .slice A2 p.vals.length c2, .int .i64 p.last] 40)
    have x0 := heap_alloc_new w1 (.cells #[.string p.id, .int .i64 p.gate.inc, .int .i64 p.gate.seq, .int .i64 p.gate.drops, .int .i64 p.cap, .slice A2 p.vals.length c2, .int .i64 p.last] 40)
    generalize w1.alloc (.cells #[.string p.id, .int .i64 p.gate.inc, .int .i64 p.gate.seq, .int .i64 p.gate.drops, .int .i64 p.cap, .slice A2 p.vals.length c2, .int .i64 p.last] 40) = W at hbW x0 ⊢
    have q4 := cell_of_row W w1.heap.size 4 _ 40 (0, 0) x0
    have q5 := cell_of_row W w1.heap.size 5 _ 40 (0, 0) x0
    have q6 := cell_of_row W w1.heap.size 6 _ 40 (0, 0) x0
    simp at q4 q5 q6
    have r4 := bsome hbW c4
    have r5 := bsome hbW c5
    have PiW := Lib.hid (Pi.out.below hbW)
    have HbW := Lib.hid (Hb0.out.trans (hbW.mono Hb0.out.size))
    clear hbW x0 p0 p1 p2 p3 p4 p5 p6 c8 c4 c5 Pi
    refine wp_region_lit (V44 b w1.heap.size n p A2 c2) (fun wx => Below W.heap.size W wx) V44S (by kernel_rfl) (by rfl) (by kernel_rfl) (fun j v wx wy _ h _ => h) (Below.refl _ _).drew ?hs ?hd
    case hs =>
      repeat (refine AllOps.cons ?_ ?_; focus (
        intro a wx hC hk hv K hK
        have h0 := hk 0 (by decide)
        have h7 := hk 7 (by decide)
        have HC := Lib.hid hC
        have d4 := bsome hC r4
        have d5 := bsome hC r5
        have e4 := bsome hC q4
        have e5 := bsome hC q5
        have e6 := bsome hC q6
        have PiX := Lib.hid (PiW.out.below hC)
        clear hk hC
        simp [Region.binds, V44, V44S] at hv h0 h7
        first
          | (go_simp; exact hK _ _ HC.out (Below.refl _ _) rfl)
          | (obtain ⟨hv1, hv2, hv3⟩ := hv; go_simp; refine (levelof_any p.cap A2 c2 p.vals n.c.least (n.now - p.last) _ PiX.out).mono ?_; rintro e w2 ⟨rfl, hb2⟩; exact hK _ _ (HC.out.trans (hb2.mono HC.out.size)) hb2 rfl)))
      exact AllOps.nil
    case hd =>
      intro us w2 hC hv
      have u17 : us 17 = .int .i64 (levelOf p.cap p.vals n.c.least (n.now - p.last)).1 := hv 17 (by decide)
      have u18 : us 18 = .int .i64 (levelOf p.cap p.vals n.c.least (n.now - p.last)).2 := hv 18 (by decide)
      simp only [setAll, V44S, List.setIfInBounds_toArray, List.set_cons_zero, List.set_cons_succ, u17, u18]
      have HC := Lib.hid hC
      clear hv hC u17 u18
      go_wp2_with fail
      go_ret2
      rw [Hr.out]
      exact ⟨rfl, HbW.out.trans (HC.out.mono HbW.out.size)⟩

end Go.Proofs.Ytmclalhjnjghnaa

namespace Go.Proofs.Ytmclalhjnjghnaa
open Go.RowKit Hw

theorem NodeAt.grown {w w' : World} {b : Nat} {vs : Value} {n : Hw.Node} {B : Nat} {t : TypeId} {s : Nat} {v : Value} {k : Nat} {xs : List Value} (h : NodeAt w b vs n) (ho : w.ownsRow B t s v k xs) (hg : w.grownBy w' v.ownBlock)
    (ht : t ≠ 145 ∧ t ≠ 85 ∧ t ≠ 40 ∧ t ≠ 3) : NodeAt w' b vs n := by
  have hne : ∀ (q : Nat) (c : Array Value) (u : TypeId), w.heap[q]? = some (.cells c u (0, 0)) → u ≠ t → w'.heap[q]? = w.heap[q]? := by
    intro q c u hq hu
    refine hg.block q (Array.getElem?_eq_some_iff.1 hq).1 fun he => ?_
    rcases ho.2 with ⟨e1, _⟩ | ⟨g', cap, cur, e1, _, e3, _⟩
    · rw [e1] at he; simp [Value.ownBlock] at he
    · rw [e1] at he
      simp [Value.ownBlock] at he
      subst he
      rw [hq] at e3
      injection e3 with e3
      injection e3 with _ e4 _
      exact hu e4
  obtain ⟨vp, e1, e2, e3⟩ := h
  exact ⟨vp, (hne _ _ _ e1 (Ne.symm ht.1)).trans e1, e2.typed fun k c t' hk hc => hne k c t' hc (by rcases hk with e | e <;> (rw [e]; first | exact Ne.symm ht.2.2.1 | exact Ne.symm ht.2.2.2)), own_typed e3 fun k c _ hc => hne k c 85 hc (Ne.symm ht.2.1)⟩

theorem Touch.grown {S : Nat → Prop} {w0 w w' : World} {r : Option Nat} (h : Touch S w0 w) (hg : w.grownBy w' r) (hr : ∀ k, some k = r → w0.heap.size ≤ k) : Touch S w0 w' :=
  ⟨hg.os.trans h.os, hg.tape.trans h.tape, hg.output.trans h.output, Nat.le_trans h.size hg.size, fun k hk hn => (hg.block k (Nat.lt_of_lt_of_le hk h.size) fun e => by have := hr k e; omega).trans (h.block k hk hn)⟩

def noteCells (x : Note) : List Value := [.string x.id, .int .i64 x.theta, .bool x.suspect]
def notesCells (l : List Note) : List Value := l.flatMap noteCells

def NodeS (b : Nat) (vs : Value) (k : Nat) : Prop := k = b ∨ some k = vs.ownBlock

theorem NodeAt.other {w : World} {b : Nat} {vs : Value} {n : Hw.Node} (h : NodeAt w b vs n) {k : Nat} {c : Array Value} {t : TypeId} (hk : w.heap[k]? = some (.cells c t (0, 0))) (h1 : t ≠ 145) (h2 : t ≠ 85) : ¬ NodeS b vs k := by
  obtain ⟨vp, e1, _, e3⟩ := h
  rintro (e | e)
  · subst e
    rw [hk] at e1
    injection e1 with e1
    injection e1 with _ e1 _
    exact h1 e1
  · rcases e3.2 with ⟨q, _⟩ | ⟨g, cap, cur, q, _, q3, _⟩
    · rw [q] at e
      simp [Value.ownBlock] at e
    · rw [q] at e
      simp [Value.ownBlock] at e
      subst e
      rw [hk] at q3
      injection q3 with q3
      injection q3 with _ q3 _
      exact h2 q3

def ToldPost (b : Nat) (vs : Value) (n : Hw.Node) (w : World) (e : Ending) (w' : World) : Prop :=
  (∃ v, e = .returned v ∧ w'.ownsRow w.heap.size 74 3 v (told n).2.length (notesCells (told n).2)) ∧ NodeAt w' b vs (told n).1 ∧ Touch (NodeS b vs) w w'

/-- The texts of so many beats behind number q. -/
def texts (n : Hw.Node) (k : Nat) : List ByteArray := (List.range k).map fun (i : Nat) => (encode ⟨n.c.id, n.c.inc, n.seq + 1 + (i : Int)⟩).1
def beats (n : Hw.Node) (t : Int) : Nat := ((n.now + t) / n.c.every - n.now / n.c.every).toNat
def ticked (n : Hw.Node) (t : Int) : Hw.Node := { n with seq := n.seq + beats n t, now := n.now + t }

/-- '(*Node).Tick': the node behind it, the texts, the notes, the error. -/
def tick (n : Hw.Node) (t : Int) : Hw.Node × List ByteArray × List Note × Int :=
  if t < 1 ∨ 1073741824 < t then (n, [], [], 1)
  else if 1073741824 < n.now + t ∨ 64 ≤ t / n.c.every then (n, [], [], 2)
  else ((told (ticked n t)).1, texts n (beats n t), (told (ticked n t)).2, 0)

def NodeOk (n : Hw.Node) : Prop := 1 ≤ n.c.every ∧ n.c.every ≤ 16777216 ∧ 0 ≤ n.now ∧ n.now ≤ 1073741824 ∧ 0 ≤ n.seq ∧ n.seq ≤ 1073741824

def V31 (b : Nat) (n : Hw.Node) (q : Int) (j : Nat) (v : Value) (_ : World) : Prop :=
  match j with
  | 0 => v = .pointer (some ⟨b, 0, none⟩)
  | 1 => v = .pointer (some ⟨b, 0, none⟩)
  | 2 => v = .pointer (some ⟨b, 0, none⟩)
  | 3 => v = .pointer (some ⟨b, 0, none⟩)
  | 4 => v = .string n.c.id
  | 5 => v = .pointer (some ⟨b, 0, none⟩)
  | 6 => v = .pointer (some ⟨b, 0, none⟩)
  | 7 => v = .pointer (some ⟨b, 0, none⟩)
  | 8 => v = .pointer (some ⟨b, 1, none⟩)
  | 9 => v = .int .i64 n.c.inc
  | 10 => v = .pointer (some ⟨b, 0, none⟩)
  | 11 => v = .pointer (some ⟨b, 0, none⟩)
  | 12 => v = .pointer (some ⟨b, 6, none⟩)
  | 13 => v = .int .i64 q
  | 14 => v = .agg #[.string n.c.id, .int .i64 n.c.inc, .int .i64 q]
  | 15 => v = .tuple #[.string (encode ⟨n.c.id, n.c.inc, q⟩).1, .int .i64 (encode ⟨n.c.id, n.c.inc, q⟩).2]
  | 16 => v = .tuple #[.string (encode ⟨n.c.id, n.c.inc, q⟩).1, .int .i64 (encode ⟨n.c.id, n.c.inc, q⟩).2]
  | 17 => v = .string (encode ⟨n.c.id, n.c.inc, q⟩).1
  | 18 => v = .int .i64 (encode ⟨n.c.id, n.c.inc, q⟩).2
  | 19 => v = .string (encode ⟨n.c.id, n.c.inc, q⟩).1
  | _ => v = .int .i64 (encode ⟨n.c.id, n.c.inc, q⟩).2
def V31S : List Nat := [74, 75, 76, 77, 78, 79, 80, 81, 82, 83, 84, 85, 86, 87, 88, 89, 73, 90, 91, 9, 10]

theorem texts_succ (n : Hw.Node) (k : Nat) : texts n (k + 1) = texts n k ++ [(encode ⟨n.c.id, n.c.inc, n.seq + 1 + k⟩).1] := by
  unfold texts
  rw [List.range_succ, List.map_append]
  rfl

def TickPost (b : Nat) (vs : Value) (n : Hw.Node) (t : Int) (w : World) (e : Ending) (w' : World) : Prop :=
  (∃ vt vn, e = .returned (.tuple #[vt, vn, .int .i64 (tick n t).2.2.2]) ∧ w'.ownsRow w.heap.size 9 1 vt (tick n t).2.1.length ((tick n t).2.1.map .string) ∧ w'.ownsRow w.heap.size 74 3 vn (tick n t).2.2.1.length (notesCells (tick n t).2.2.1)) ∧
    NodeAt w' b vs (tick n t).1 ∧ Touch (NodeS b vs) w w'

set_option maxRecDepth 100000 in
set_option maxHeartbeats 4000000 in
theorem tick_any (b : Nat) (vs : Value) (n : Hw.Node) (t : Int) (w : World) (h : NodeAt w b vs n) (hok : NodeOk n) (ht : ∀ w', NodeAt w' b vs (ticked n t) → Calls Try.prog 95 #[.pointer (some ⟨b, 0, none⟩)] w' (ToldPost b vs (ticked n t) w')) :
    Calls Try.prog 31 #[.pointer (some ⟨b, 0, none⟩), .int .i64 t] w (TickPost b vs n t w) := by
  have HN := Lib.hid h
  have HT := Lib.hid ht
  obtain ⟨A, c, c0, c1, c2, -, -, c5, c6, -, -, -, -, -, hf⟩ := h.cells
  have HF := Lib.hid hf
  have hbl := h.lt
  clear h ht hf
  obtain ⟨k1, k2, k3, k4, k5, k6⟩ := hok
  by_cases ha : t < 1 ∨ 1073741824 < t
  · have hr : tick n t = (n, [], [], 1) := by unfold tick; rw [if_pos ha]
    have Hr := Lib.hid hr
    clear hr
    go_enter Try.func31, Try.ntmps31
    go_wp2_with fail
    all_goals
      go_ret3
      unfold TickPost
      rw [Hr.out]
      exact ⟨⟨_, _, rfl, World.ownsRow_nil _ _ _ _, World.ownsRow_nil _ _ _ _⟩, HN.out, Touch.refl _ _⟩
  · have ha1 : 1 ≤ t := by omega
    have ha2 : t ≤ 1073741824 := by omega
    by_cases hb : 1073741824 < n.now + t ∨ 64 ≤ t / n.c.every
    · have hr : tick n t = (n, [], [], 2) := by unfold tick; rw [if_neg ha, if_pos hb]
      have Hr := Lib.hid hr
      have hd0 : 0 ≤ t / n.c.every := Int.ediv_nonneg (by omega) (by omega)
      have hd1 : t / n.c.every ≤ t := Int.ediv_le_self _ (by omega)
      have hq : t.tdiv n.c.every = t / n.c.every := Int.tdiv_eq_ediv_of_nonneg (by omega)
      have hz : (n.c.every == 0) = false := by simp; omega
      generalize t / n.c.every = d at hb hd0 hd1 hq
      have hdw : wrap64 d = d := IntWalk.wrap64_in _ (by omega)
      clear hr ha
      go_enter Try.func31, Try.ntmps31
      go_wp2_with fail
      all_goals
        go_ret3
        unfold TickPost
        rw [Hr.out]
        exact ⟨⟨_, _, rfl, World.ownsRow_nil _ _ _ _, World.ownsRow_nil _ _ _ _⟩, HN.out, Touch.refl _ _⟩
    · have hr : tick n t = ((told (ticked n t)).1, texts n (beats n t), (told (ticked n t)).2, 0) := by unfold tick; rw [if_neg ha, if_neg hb]
      have Hr := Lib.hid hr
      have hd0 : 0 ≤ t / n.c.every := Int.ediv_nonneg (by omega) (by omega)
      have hq : t.tdiv n.c.every = t / n.c.every := Int.tdiv_eq_ediv_of_nonneg (by omega)
      have hz : (n.c.every == 0) = false := by simp; omega
      have hq0 : n.now.tdiv n.c.every = n.now / n.c.every := Int.tdiv_eq_ediv_of_nonneg (by omega)
      have hn0 : 0 ≤ n.now / n.c.every := Int.ediv_nonneg (by omega) (by omega)
      have hn1 : n.now / n.c.every * n.c.every ≤ n.now := Int.ediv_mul_le _ (by omega)
      have hnn : n.now / n.c.every ≤ n.now := Int.ediv_le_self _ (by omega)
      have hiff : ∀ k : Nat, (n.now / n.c.every + 1 + (k : Int)) * n.c.every ≤ n.now + t ↔ k < beats n t := by
        intro k
        unfold beats
        rw [← Int.le_ediv_iff_mul_le (by omega)]
        omega
      have Hiff := Lib.hid hiff
      have Hdn : Hid (∀ k : Nat, (n.now / n.c.every + 1 + (k : Int)) * n.c.every + n.c.every = (n.now / n.c.every + 1 + ((k + 1 : Nat) : Int)) * n.c.every) := fun k => by
        rw [Int.natCast_succ, ← Int.add_assoc, Int.add_mul (n.now / n.c.every + 1 + (k : Int)) 1, Int.one_mul]
      have hmul : (n.now / n.c.every + 1) * n.c.every = n.now / n.c.every * n.c.every + n.c.every := by rw [Int.add_mul, Int.one_mul]
      obtain ⟨a0, ha0⟩ : ∃ a0, (n.now / n.c.every + 1) * n.c.every = a0 := ⟨_, rfl⟩
      have Ha0 : Hid ((n.now / n.c.every + 1 + ((0 : Nat) : Int)) * n.c.every = a0) := by
        show _ = _
        rw [← ha0]
        simp
      have hab : 1 ≤ a0 ∧ a0 ≤ 1090519040 := by
        have : 0 ≤ n.now / n.c.every * n.c.every := Int.mul_nonneg hn0 (by omega)
        omega
      have hb2 : ¬ 1073741824 < n.now + t := fun e => hb (.inl e)
      have hbt : beats n t ≤ 1073741824 := by
        have : (n.now + t) / n.c.every ≤ n.now + t := Int.ediv_le_self _ (by omega)
        unfold beats
        omega
      have hb3 : ¬ 64 ≤ t / n.c.every := fun e => hb (.inr e)
      have hdw : wrap64 (t / n.c.every) = t / n.c.every := IntWalk.wrap64_in _ (by omega)
      have hdw2 : wrap64 (n.now / n.c.every) = n.now / n.c.every := IntWalk.wrap64_in _ (by omega)
      generalize t / n.c.every = d at hb3 hd0 hq hdw
      generalize n.now / n.c.every = q0 at hq0 hn0 hn1 hnn Hiff Hdn ha0 Ha0 hdw2 hmul
      have haw : IntKind.i64.wrap ((q0 + 1) * n.c.every) = a0 := by rw [ha0]; exact IntWalk.i64_in _ (by omega)
      clear hr ha hb hiff ha0 hmul hn1
      go_enter Try.func31, Try.ntmps31
      go_wp2_with fail
      go_quiet (fail)
      go_wp2_with fail
      obtain ⟨i0, hi0, hz0, hz1, hz2⟩ := info_parts info9
      have hbd : Below w.heap.size w (w.drewN nq) := below_drewN (Below.refl _ _) nq
      go_loopw [7, 8, 9, 10] (fun v i _ _ wr => ∃ (k : Nat) (z : Int), i = .int .i64 z ∧ 0 ≤ z ∧ z ≤ 1090519040 ∧ Hid (z = (q0 + 1 + (k : Int)) * n.c.every) ∧ k ≤ beats n t ∧ Hid (NodeAt wr b vs { n with seq := n.seq + k }) ∧
        Hid (wr.ownsRow w.heap.size 9 1 v k ((texts n k).map .string)) ∧ Hid (Touch (fun k => k = b) w wr)) (fun _ i _ _ _ => (n.now + t + 1 - intOf i).toNat)
      case atStart =>
        refine ⟨0, a0, rfl, by omega, by omega, Ha0.out.symm, by omega, ?_, World.ownsRow_nil _ _ _ _, Touch.of_below hbd⟩
        have := HN.out.below hbd
        show NodeAt (w.drewN nq) b vs { n with seq := n.seq + ((0 : Nat) : Int) }
        simpa using this
      case round =>
        obtain ⟨k, z, rfl, hz0', hz1', Hz, hkb, HM, HO, HTo⟩ := hrel
        obtain ⟨A1, d1, m0, m1, m2, -, -, m5, m6, -, -, -, -, -, mf⟩ := HM.out.cells
        simp only at m0 m1 m2 m5 m6
        have MF := Lib.hid mf
        have hbw := HM.out.lt
        clear mf
        by_cases hlt : z ≤ n.now + t
        · have hkk : k < beats n t := by
            have := Hz.out
            rw [this] at hlt
            exact (Hiff.out k).1 hlt
          obtain ⟨q, hq'⟩ : ∃ q : Int, n.seq + (k : Int) = q := ⟨_, rfl⟩
          have hqb : 0 ≤ q ∧ q ≤ 2147483648 := by omega
          rw [hq'] at m6 HM
          have hqw : IntKind.i64.wrap (q + 1) = q + 1 := IntWalk.i64_in _ (by omega)
          have mf6 := MF.out 6
          have HM2 := Lib.hid (HM.out.putSeq (q + 1))
          have HTo2 := Lib.hid (HTo.out.setCell (a := ⟨b, 6, none⟩) (by rfl) (.int .i64 (q + 1)))
          have HO2 := Lib.hid (ownsRow_setCell_below (a := ⟨b, 6, none⟩) HO.out hbl (.int .i64 (q + 1)))
          have Hq := Lib.hid hq'
          clear hq' MF HM HO HTo
          go_wp2_with fail
          generalize wr.setCell ⟨b, 6, none⟩ (.int .i64 (q + 1)) = W at HM2 HTo2 HO2 ⊢
          clear m0 m1 m2 m5 m6 mf6 A1 d1 hbw wr
          obtain ⟨A1, d1, m0, m1, m2, -, -, m5, m6, -, -, -, -, -, -⟩ := HM2.out.cells
          simp only at m0 m1 m2 m5 m6
          refine wp_region_lit (V31 b n (q + 1)) (fun wx => Below W.heap.size W wx) V31S (by kernel_rfl) (by rfl) (by kernel_rfl) (fun j v wx wy _ h _ => h) (Below.refl _ _).drew ?hs ?hd
          case hs =>
            repeat (refine AllOps.cons ?_ ?_; focus (
              intro a wx hC hk hv K hK
              have h0 := hk 0 (by decide)
              have HC := Lib.hid hC
              have e0 := bsome hC m0
              have e1 := bsome hC m1
              have e6 := bsome hC m6
              clear hk hC
              simp [Region.binds, V31, V31S] at hv h0
              first
                | (go_simp; exact hK _ _ HC.out (Below.refl _ _) rfl)
                | (go_simp; refine (encode_any ⟨n.c.id, n.c.inc, q + 1⟩ _).mono ?_; rintro e w2 ⟨rfl, hb2⟩; exact hK _ _ (HC.out.trans (hb2.mono HC.out.size)) hb2 rfl)))
            exact AllOps.nil
          case hd =>
            intro us w2 hC hv
            have u19 : us 19 = .string (encode ⟨n.c.id, n.c.inc, q + 1⟩).1 := hv 19 (by decide)
            have u20 : us 20 = .int .i64 (encode ⟨n.c.id, n.c.inc, q + 1⟩).2 := hv 20 (by decide)
            simp only [setAll, V31S, List.setIfInBounds_toArray, List.set_cons_zero, List.set_cons_succ, u19, u20]
            have p2 := bsome hC m2
            have HC := Lib.hid hC
            clear hv hC u19 u20
            have HO3 := Lib.hid (own_below HO2.out HC.out)
            have HM3 := Lib.hid (HM2.out.below HC.out)
            have HTo3 := Lib.hid (HTo2.out.trans (Touch.of_below HC.out))
            have hsz3 := HTo3.out.size
            go_wp2_with (at_builtin; go_must (refine wpList_append_own_at _ rfl (.tmp 92) (.tmp 94) 48 rfl w.heap.size 9 i0 _ 1 16 Try.underlying48 hi0 hz0 hz1 hz2 rfl (by omega) _ k _ rfl (by exact HO3.out.alloc _) ⟨w2.heap.size, 0, none⟩ 1 1 [.string (encode ⟨n.c.id, n.c.inc, q + 1⟩).1] rfl rfl ?b1 ?b2 ?b3 ?b4 ?b5 ?_; (case b1 => exact news_at _ _ _ _ rfl); (case b2 => simp [Value.oneCell']); (case b3 => (simp only [maxLen]; omega)); (case b4 => omega); (case b5 => (simp; omega)); intro v9 w9 ho9 hg9 _ _); go_must (have hoA : (w2.alloc (.cells #[.string (encode ⟨n.c.id, n.c.inc, q + 1⟩).1] 9)).ownsRow w.heap.size 9 1 u7 k ((texts n k).map .string) := HO3.out.alloc _; have hm9 := (HM3.out.below ((Below.refl _ _).alloc (Nat.le_refl _) (.cells #[.string (encode ⟨n.c.id, n.c.inc, q + 1⟩).1] 9))).grown hoA hg9 (by decide); have ht9 := (HTo3.out.alloc (.cells #[.string (encode ⟨n.c.id, n.c.inc, q + 1⟩).1] 9)).grown hg9 (fun k hk => (hoA.lt k hk.symm).1); obtain ⟨_, _, _, _, r2, _⟩ := hm9.cells; simp only at r2); have Ho9 := Lib.hid ho9; have Hm9 := Lib.hid hm9; have Ht9 := Lib.hid ht9; clear ho9 hg9 hoA hm9 ht9)
            have hzw : IntKind.i64.wrap (z + n.c.every) = z + n.c.every := IntWalk.i64_in _ (by omega)
            go_roundw
            case rel =>
              refine ⟨k + 1, z + n.c.every, by go_num, by omega, by omega, ?_, by omega, ?_, ?_, Ht9.out⟩
              · show z + n.c.every = _
                have := Hz.out
                have h2 := Hdn.out k
                omega
              · have e : n.seq + ((k + 1 : Nat) : Int) = q + 1 := by have := Hq.out; omega
                show NodeAt w9 b vs { n with seq := n.seq + ((k + 1 : Nat) : Int) }
                rw [e]
                exact Hm9.out
              · show w9.ownsRow w.heap.size 9 1 v9 (k + 1) _
                rw [texts_succ, List.map_append, show n.seq + 1 + (k : Int) = q + 1 by have := Hq.out; omega]
                exact Ho9.out
            case measure => simp [intOf]; omega
        · have hkk : k = beats n t := by
            have := Hz.out
            rw [this] at hlt
            have hnk : ¬ k < beats n t := fun h => hlt ((Hiff.out k).2 h)
            omega
          subst hkk
          have hnt : IntKind.i64.wrap (n.now + t) = n.now + t := IntWalk.i64_in _ (by omega)
          have mf5 := MF.out 5
          have HM4 := Lib.hid (HM.out.putNow (n.now + t))
          have hs4 : w.heap.size ≤ (wr.setCell ⟨b, 5, none⟩ (.int .i64 (n.now + t))).heap.size := by simpa using HTo.out.size
          go_wp2_with (go_at_call 95; refine (HT.out _ ?b1).mono ?_; (case b1 => exact HM4.out); rintro e w5 ⟨⟨vn, rfl, hvn⟩, hn5, ht5⟩; have Hvn := Lib.hid hvn; have Hn5 := Lib.hid hn5; have Ht5 := Lib.hid ht5; clear hvn hn5 ht5)
          go_ret3
          unfold TickPost
          rw [Hr.out]
          refine ⟨⟨_, _, rfl, ?_, ?_⟩, Hn5.out, ?_⟩
          · show w5.ownsRow w.heap.size 9 1 u7 (texts n (beats n t)).length ((texts n (beats n t)).map .string)
            rw [show (texts n (beats n t)).length = beats n t by simp [texts]]
            exact own_typed (ownsRow_setCell_below (a := ⟨b, 5, none⟩) HO.out hbl _) fun k c _ hc => Ht5.out.block k (Array.getElem?_eq_some_iff.1 hc).1 (HM4.out.other hc (by decide) (by decide))
          · exact own_base Hvn.out hs4
          · exact ((HTo.out.setCell (a := ⟨b, 5, none⟩) (by rfl) (.int .i64 (n.now + t))).mono (fun k _ hk => .inl hk)).trans Ht5.out

end Go.Proofs.Ytmclalhjnjghnaa

namespace Go.Proofs.Ytmclalhjnjghnaa
open Go.RowKit Hw

def V61 (b : Nat) (n : Hw.Node) (A : Option Addr) (c : Nat) (id : ByteArray) (every : Int) (R : Value → World → Prop) (e : Int) (j : Nat) (v : Value) (w : World) : Prop :=
  match j with
  | 0 => v = .pointer (some ⟨b, 0, none⟩)
  | 1 => v = .pointer (some ⟨b, 0, none⟩)
  | 2 => v = .pointer (some ⟨b, 8, none⟩)
  | 3 => v = .slice A n.peers.length c
  | 4 => v = .string id
  | 5 => v = .pointer (some ⟨b, 0, none⟩)
  | 6 => v = .pointer (some ⟨b, 0, none⟩)
  | 7 => v = .pointer (some ⟨b, 0, none⟩)
  | 8 => v = .pointer (some ⟨b, 3, none⟩)
  | 9 => v = .int .i64 n.c.cap
  | 10 => v = .int .i64 every
  | 11 => v = .pointer (some ⟨b, 0, none⟩)
  | 12 => v = .pointer (some ⟨b, 0, none⟩)
  | 13 => v = .pointer (some ⟨b, 5, none⟩)
  | 14 => v = .int .i64 n.now
  | 15 => ∃ u, v = .tuple #[u, .int .i64 e] ∧ R u w
  | 16 => ∃ u, v = .tuple #[u, .int .i64 e] ∧ R u w
  | 17 => R v w
  | 18 => v = .int .i64 e
  | 19 => R v w
  | _ => v = .int .i64 e
def V61S : List Nat := [17, 18, 19, 20, 21, 22, 23, 24, 25, 26, 27, 28, 29, 30, 31, 32, 16, 33, 34, 7, 8]

theorem V61.below {b : Nat} {n : Hw.Node} {A : Option Addr} {c : Nat} {id : ByteArray} {every : Int} {R : Value → World → Prop} {e : Int} {j : Nat} {v : Value} {w w' : World} (hR : ∀ v, R v w → R v w') (h : V61 b n A c id every R e j v w) : V61 b n A c id every R e j v w' := by
  unfold V61 at *
  split at h
  all_goals first
    | exact h
    | exact hR _ h
    | (obtain ⟨u, e1, e2⟩ := h; exact ⟨u, e1, hR _ e2⟩)

/-- '(*Node).Watch'. -/
def watch (n : Hw.Node) (id : ByteArray) (every : Int) : Hw.Node × Int :=
  if sq id n.c.id then (n, 5) else if (add n.peers id n.c.cap every n.now).2 = 0 then ({ n with peers := (add n.peers id n.c.cap every n.now).1 }, 0) else (n, (add n.peers id n.c.cap every n.now).2)

set_option maxRecDepth 100000 in
set_option maxHeartbeats 2000000 in
theorem watch_any (b : Nat) (vs : Value) (n : Hw.Node) (id : ByteArray) (every : Int) (w : World) (h : NodeAt w b vs n) :
    Calls Try.prog 61 #[.pointer (some ⟨b, 0, none⟩), .string id, .int .i64 every] w fun e w' => e = .returned (.int .i64 (watch n id every).2) ∧ NodeAt w' b vs (watch n id every).1 ∧ Touch (fun k => k = b) w w' := by
  have HN := Lib.hid h
  obtain ⟨A, c, c0, -, -, c3, -, c5, -, -, c8, -, hp, -, hf⟩ := h.cells
  have Hp := Lib.hid hp
  have HF := Lib.hid hf
  have hbl := h.lt
  clear h hp hf
  by_cases hs : sq id n.c.id = true
  · have hs2 : (id.toList == n.c.id.toList) = true := hs
    have hr : watch n id every = (n, 5) := by unfold watch; rw [if_pos hs]
    have Hr := Lib.hid hr
    clear hs hr
    go_enter Try.func61, Try.ntmps61
    go_wp2
    go_ret
    rw [Hr.out]
    exact ⟨rfl, HN.out, Touch.refl _ _⟩
  · have hs2 : (id.toList == n.c.id.toList) = false := by simpa [sq] using hs
    have hr : watch n id every = if (add n.peers id n.c.cap every n.now).2 = 0 then ({ n with peers := (add n.peers id n.c.cap every n.now).1 }, 0) else (n, (add n.peers id n.c.cap every n.now).2) := by unfold watch; rw [if_neg hs]
    have Hr := Lib.hid hr
    clear hs hr
    go_enter Try.func61, Try.ntmps61
    go_wp2_with fail
    refine wp_region_lit (V61 b n A c id every (fun v wx => OwnP wx w.heap.size v (add n.peers id n.c.cap every n.now).1) (add n.peers id n.c.cap every n.now).2) (fun wx => Below w.heap.size w wx) V61S (by kernel_rfl) (by rfl) (by kernel_rfl)
      (fun j v wx wy _ h hb => h.below fun _ ho => ho.below hb) (Below.refl _ _).drew ?hs ?hd
    case hs =>
      repeat (refine AllOps.cons ?_ ?_; focus (
        intro a wx hC hk hv K hK
        have h0 := hk 0 (by decide)
        have h1 := hk 1 (by decide)
        have h2 := hk 2 (by decide)
        have HC := Lib.hid hC
        have d0 := bsome hC c0
        have d3 := bsome hC c3
        have d5 := bsome hC c5
        have d8 := bsome hC c8
        clear hk hC
        simp [Region.binds, V61, V61S] at hv h0 h1 h2
        first
          | (go_simp; exact hK _ _ HC.out (Below.refl _ _) rfl)
          | (obtain ⟨u, hv, ho⟩ := hv; go_simp; first | exact hK _ _ HC.out (Below.refl _ _) ⟨u, rfl, ho⟩ | exact hK _ _ HC.out (Below.refl _ _) ho | exact hK _ _ HC.out (Below.refl _ _) rfl)
          | (go_simp; exact hK _ _ HC.out (Below.refl _ _) hv)
          | (obtain ⟨hv, -⟩ := hv; go_simp; exact hK _ _ HC.out (Below.refl _ _) hv)
          | (obtain ⟨hv1, hv2, hv3, hv4, hv5⟩ := hv; go_simp; refine (add_any A c n.peers id n.c.cap every n.now _ (Hp.out.below HC.out)).mono ?_; rintro e w2 ⟨⟨vx, rfl, hox⟩, hb2⟩; exact hK _ _ (HC.out.trans (hb2.mono HC.out.size)) hb2 ⟨vx, rfl, hox.base HC.out.size⟩)))
      exact AllOps.nil
    case hd =>
      intro us w2 hC hv
      have e19 : OwnP w2 w.heap.size (us 19) (add n.peers id n.c.cap every n.now).1 := hv 19 (by decide)
      have e20 : us 20 = .int .i64 (add n.peers id n.c.cap every n.now).2 := hv 20 (by decide)
      obtain ⟨Ax, cx, eu, -⟩ := e19.form
      rw [eu] at e19
      have d8 := bsome hC c8
      have f8 := (hC.frozen (p := ⟨b, 8, none⟩) hbl).trans (HF.out 8)
      simp only [setAll, V61S, List.setIfInBounds_toArray, List.set_cons_zero, List.set_cons_succ, e20, eu]
      have Hox := Lib.hid e19
      have HC := Lib.hid hC
      clear hv e19 hC eu e20
      go_wp2_with fail
      · have hq : ((add n.peers id n.c.cap every n.now).2 == 0) = true := by assumption
        go_ret
        rw [Hr.out, if_pos (by simpa using hq)]
        have h0 : (add n.peers id n.c.cap every n.now).2 = 0 := by simpa using hq
        exact ⟨ret_int h0, (HN.out.below HC.out).putPeers (Hox.out.base (Nat.succ_le_of_lt hbl)), (Touch.of_below HC.out).setCell (by rfl) _⟩
      · have hq : ((add n.peers id n.c.cap every n.now).2 == 0) = false := by assumption
        go_ret
        rw [Hr.out, if_neg (by simpa using hq)]
        exact ⟨rfl, HN.out.below HC.out, Touch.of_below HC.out⟩

end Go.Proofs.Ytmclalhjnjghnaa

namespace Go.Proofs.Ytmclalhjnjghnaa
open Go.RowKit Hw

theorem subCells_len (s : Sub) : (subCells s).length = 3 := rfl

theorem subsCells_cons (s : Sub) (t : List Sub) : subsCells (s :: t) = subCells s ++ subsCells t := rfl

theorem subsCells_len (l : List Sub) : (subsCells l).length = l.length * 3 := by
  induction l with
  | nil => rfl
  | cons s t ih =>
    rw [subsCells_cons, List.length_append, ih, subCells_len, List.length_cons]
    omega

theorem subsCells_get : ∀ (l : List Sub) (k j : Nat) (hk : k < l.length) (_ : j < 3), (subsCells l)[k * 3 + j]? = (subCells l[k])[j]? := by
  intro l
  induction l with
  | nil => intro k j hk; simp at hk
  | cons s t ih =>
    intro k j hk hj
    rw [subsCells_cons]
    cases k with
    | zero =>
      rw [List.getElem?_append_left (by rw [subCells_len]; omega)]
      simp
    | succ k =>
      rw [List.getElem?_append_right (by rw [subCells_len]; omega), subCells_len, show (k + 1) * 3 + j - 3 = k * 3 + j by omega, ih k j (by simpa using hk) hj]
      simp

theorem subsCells_set : ∀ (l : List Sub) (k j : Nat) (s' : Sub) (u : Value) (hk : k < l.length) (_ : j < 3), subCells s' = (subCells l[k]).set j u → subsCells (l.set k s') = (subsCells l).set (k * 3 + j) u := by
  intro l
  induction l with
  | nil => intro k j s' u hk; simp at hk
  | cons s t ih =>
    intro k j s' u hk hj h
    rw [subsCells_cons]
    cases k with
    | zero =>
      simp only [List.set_cons_zero, List.getElem_cons_zero] at h ⊢
      rw [subsCells_cons, h, List.set_append_left _ _ (by rw [subCells_len]; omega)]
      simp
    | succ k =>
      simp only [List.set_cons_succ, List.getElem_cons_succ] at h ⊢
      rw [subsCells_cons, List.set_append_right _ _ (by rw [subCells_len]; omega), subCells_len, show (k + 1) * 3 + j - 3 = k * 3 + j by omega, ih k j s' u (by simpa using hk) hj h]

/-- A slice of subs. -/
def SubsR (w : World) (A : Option Addr) (l : List Sub) : Prop :=
  0 < l.length → ∃ g off, A = some ⟨g, off, none⟩ ∧ ∀ k (h : k < l.length), w.cell? ⟨g, off + k * 3, none⟩ = some (.string (l[k]).id) ∧ w.cell? ⟨g, off + k * 3 + 1, none⟩ = some (.int .i64 (l[k]).theta) ∧ w.cell? ⟨g, off + k * 3 + 2, none⟩ = some (.bool (l[k]).on)

theorem SubsR.below {w w' : World} {A : Option Addr} {l : List Sub} (h : SubsR w A l) (hb : Below w.heap.size w w') : SubsR w' A l := fun h0 => by
  obtain ⟨g, off, e, hc⟩ := h h0
  exact ⟨g, off, e, fun k hk => ⟨bsome hb (hc k hk).1, bsome hb (hc k hk).2.1, bsome hb (hc k hk).2.2⟩⟩

theorem own_subs {w : World} {B : Nat} {A : Option Addr} {n c : Nat} {l : List Sub} (h : w.ownsRow B 85 3 (.slice A n c) l.length (subsCells l)) : SubsR w A l := by
  intro h0
  rcases h.2 with ⟨e, e2⟩ | ⟨g, cap, cur, e, _⟩
  · omega
  · injection e with e1 e2 e3
    subst e1 e2 e3
    refine ⟨g, 0, rfl, fun k hk => ?_⟩
    have hcell : ∀ j u, j < 3 → (subCells l[k])[j]? = some u → w.cell? ⟨g, 0 + k * 3 + j, none⟩ = some u := by
      intro j u hj hu
      have hc := h.cells (g := g) rfl (k * 3 + j) u (by rw [subsCells_get l k j hk hj]; exact hu)
      rw [add_lit] at hc
      rw [← hc]
      congr 2
      omega
    exact ⟨hcell 0 _ (by omega) rfl, hcell 1 _ (by omega) rfl, hcell 2 _ (by omega) rfl⟩

/-- The subs of a node: where they lie. -/
theorem NodeAt.sub {w : World} {b : Nat} {vs : Value} {n : Hw.Node} (h : NodeAt w b vs n) : ∃ A c, vs = .slice A n.subs.length c ∧ SubsR w A n.subs := by
  obtain ⟨vp, -, -, e3⟩ := h
  obtain ⟨A, c, rfl, _⟩ := own_form e3
  exact ⟨A, c, rfl, own_subs e3⟩

theorem NodeAt.subAt {w : World} {b : Nat} {vs : Value} {n : Hw.Node} (h : NodeAt w b vs n) {k : Nat} (hk : k < n.subs.length) : ∃ g c, vs = .slice (some ⟨g, 0, none⟩) n.subs.length c ∧ g ≠ b ∧
    w.cell? ⟨g, k * 3, none⟩ = some (.string (n.subs[k]).id) ∧ w.cell? ⟨g, k * 3 + 1, none⟩ = some (.int .i64 (n.subs[k]).theta) ∧ w.cell? ⟨g, k * 3 + 2, none⟩ = some (.bool (n.subs[k]).on) ∧ ∀ j, w.frozen? ⟨g, j, none⟩ = false := by
  obtain ⟨vp, e1, -, e3⟩ := h
  have hr := e3.2
  rcases hr with ⟨e, e2⟩ | ⟨g, cap, cur, rfl, _, h3, _⟩
  · omega
  · obtain ⟨g', off, e, hc⟩ := own_subs e3 (by omega)
    injection e with e
    injection e with e5 e6
    subst e5 e6
    obtain ⟨c1, c2, c3⟩ := hc k hk
    refine ⟨_, _, rfl, ?_, by simpa using c1, by simpa using c2, by simpa using c3, fun j => frozen_of_row _ _ _ _ _ h3⟩
    intro e
    subst e
    rw [h3] at e1
    injection e1 with e1
    injection e1 with _ e1 _
    cases e1

theorem NodeAt.putSub {w : World} {b g m c : Nat} {n : Hw.Node} (h : NodeAt w b (.slice (some ⟨g, 0, none⟩) m c) n) (hm : m = n.subs.length) {k j : Nat} {u : Value} {s' : Sub} (hk : k < n.subs.length) (hj : j < 3) (hs : subCells s' = (subCells n.subs[k]).set j u) :
    NodeAt (w.setCell ⟨g, k * 3 + j, none⟩ u) b (.slice (some ⟨g, 0, none⟩) m c) { n with subs := n.subs.set k s' } := by
  obtain ⟨vp, e1, e2, e3⟩ := h
  have hg : ∃ cur, w.heap[g]? = some (.cells cur 85 (0, 0)) := by
    rcases e3.2 with ⟨e, _⟩ | ⟨g', cap, cur, e, _, h3, _⟩
    · cases e
    · injection e with e _ _
      injection e with e
      injection e with e _
      subst e
      exact ⟨cur, h3⟩
  obtain ⟨cur, hg⟩ := hg
  have hne : ∀ (q : Nat) (d : Array Value) (t : TypeId), t ≠ 85 → w.heap[q]? = some (.cells d t (0, 0)) → (w.setCell ⟨g, k * 3 + j, none⟩ u).heap[q]? = w.heap[q]? := by
    intro q d t ht hq
    refine heap_setCell_other _ _ _ _ fun e => ?_
    have e' : q = g := e
    subst e'
    rw [hq] at hg
    injection hg with hg
    injection hg with _ hg _
    exact ht hg
  subst hm
  refine ⟨vp, (hne _ _ _ (by decide) e1).trans e1, e2.typed fun q d t hq hc => hne q d t (by rcases hq with e | e <;> rw [e] <;> decide) hc, ?_⟩
  have := (e3.stored (k * 3 + j) u).1
  show World.ownsRow _ _ _ _ _ (n.subs.set k s').length (subsCells (n.subs.set k s'))
  rw [subsCells_set n.subs k j s' u hk hj hs, List.length_set]
  exact this

end Go.Proofs.Ytmclalhjnjghnaa

namespace Go.Proofs.Ytmclalhjnjghnaa
open Go.RowKit Hw

/-- That sub. -/
def subIs (id : ByteArray) (theta : Int) (s : Sub) : Bool := sq s.id id && s.theta == theta

set_option maxRecDepth 100000 in
theorem sub106_any (s : Sub) (id : ByteArray) (theta : Int) (g h : Nat) (w : World) (hc : w.cell? ⟨g, 0, none⟩ = some (.string id)) (hd : w.cell? ⟨h, 0, none⟩ = some (.int .i64 theta)) :
    Calls Try.prog 106 #[.agg (subCells s).toArray, .pointer (some ⟨g, 0, none⟩), .pointer (some ⟨h, 0, none⟩)] w fun e w' => e = .returned (.bool (subIs id theta s)) ∧ Below w.heap.size w w' := by
  have hb : ∀ c, Below w.heap.size w (w.alloc (.cells c 85)) := fun c => (Below.refl _ _).alloc (Nat.le_refl _) _
  have hg := blt hc
  have hh := blt hd
  cases hq : sq s.id id with
  | true =>
    have hq2 : (s.id.toList == id.toList) = true := hq
    have hr : subIs id theta s = (s.theta == theta) := by unfold subIs; rw [hq]; rfl
    have Hr := Lib.hid hr
    clear hq hr
    unfold subCells
    go_enter Try.func106, Try.ntmps106
    go_wp2_with fail
    go_ret
    rw [Hr.out]
    exact ⟨rfl, hb _⟩
  | false =>
    have hq2 : (s.id.toList == id.toList) = false := hq
    have hr : subIs id theta s = false := by unfold subIs; rw [hq]; rfl
    have Hr := Lib.hid hr
    clear hq hr
    unfold subCells
    go_enter Try.func106, Try.ntmps106
    go_wp2_with fail
    go_ret
    rw [Hr.out]
    exact ⟨rfl, hb _⟩

set_option maxRecDepth 100000 in
theorem sub108_any (s : Sub) (id : ByteArray) (theta : Int) (g h : Nat) (w : World) (hc : w.cell? ⟨g, 0, none⟩ = some (.string id)) (hd : w.cell? ⟨h, 0, none⟩ = some (.int .i64 theta)) :
    Calls Try.prog 108 #[.agg (subCells s).toArray, .pointer (some ⟨g, 0, none⟩), .pointer (some ⟨h, 0, none⟩)] w fun e w' => e = .returned (.bool (subIs id theta s)) ∧ Below w.heap.size w w' := by
  have hb : ∀ c, Below w.heap.size w (w.alloc (.cells c 85)) := fun c => (Below.refl _ _).alloc (Nat.le_refl _) _
  have hg := blt hc
  have hh := blt hd
  cases hq : sq s.id id with
  | true =>
    have hq2 : (s.id.toList == id.toList) = true := hq
    have hr : subIs id theta s = (s.theta == theta) := by unfold subIs; rw [hq]; rfl
    have Hr := Lib.hid hr
    clear hq hr
    unfold subCells
    go_enter Try.func108, Try.ntmps108
    go_wp2_with fail
    go_ret
    rw [Hr.out]
    exact ⟨rfl, hb _⟩
  | false =>
    have hq2 : (s.id.toList == id.toList) = false := hq
    have hr : subIs id theta s = false := by unfold subIs; rw [hq]; rfl
    have Hr := Lib.hid hr
    clear hq hr
    unfold subCells
    go_enter Try.func108, Try.ntmps108
    go_wp2_with fail
    go_ret
    rw [Hr.out]
    exact ⟨rfl, hb _⟩

set_option maxRecDepth 100000 in
theorem sub113_any (s : Sub) (id : ByteArray) (g : Nat) (w : World) (hc : w.cell? ⟨g, 0, none⟩ = some (.string id)) :
    Calls Try.prog 113 #[.agg (subCells s).toArray, .pointer (some ⟨g, 0, none⟩)] w fun e w' => e = .returned (.bool (sq s.id id)) ∧ Below w.heap.size w w' := by
  have hb : ∀ c, Below w.heap.size w (w.alloc (.cells c 85)) := fun c => (Below.refl _ _).alloc (Nat.le_refl _) _
  have hg := blt hc
  unfold subCells
  go_enter Try.func113, Try.ntmps113
  go_wp2_with fail
  go_ret
  exact ⟨rfl, hb _⟩

set_option maxRecDepth 100000 in
set_option maxHeartbeats 1000000 in
theorem index106_any (A : Option Addr) (c : Nat) (l : List Sub) (id : ByteArray) (theta : Int) (g h : Nat) (w : World) (hs : SubsR w A l) (hl : l.length ≤ 8) (hc : w.cell? ⟨g, 0, none⟩ = some (.string id)) (hd : w.cell? ⟨h, 0, none⟩ = some (.int .i64 theta)) :
    Calls Try.prog 107 #[.slice A l.length c, .func (.func 106) #[] #[.pointer (some ⟨g, 0, none⟩), .pointer (some ⟨h, 0, none⟩)]] w fun e w' => e = .returned (.int .i64 (at? (subIs id theta) l)) ∧ Below w.heap.size w w' := by
  have H := Lib.hid hs
  have HC := Lib.hid hc
  have HD := Lib.hid hd
  clear hs hc hd
  go_enter Try.func107, Try.ntmps107
  go_wp2_with fail
  go_loopw [5, 8] (fun _ i wr => ∃ k : Nat, k ≤ l.length ∧ i = .int .i64 k ∧ Hid (Below w.heap.size w wr) ∧ Hid (∀ j (hj : j < l.length), j < k → (subIs id theta) (l[j]) = false)) (fun _ i _ => l.length - (intOf i).toNat)
  case atStart => exact ⟨0, by omega, rfl, Below.refl _ _, fun j hj h => by omega⟩
  case round =>
    obtain ⟨k, hk, rfl, HB, HJ⟩ := hrel
    by_cases hlt : k < l.length
    · obtain ⟨g', off, rfl, hp⟩ := (H.out.below HB.out) (by omega)
      obtain ⟨h0, h1, h2⟩ := hp k hlt
      have hx := bsome HB.out HC.out
      have hy := bsome HB.out HD.out
      have hkl : (k : Int) < (l.length : Int) := by omega
      have hk0 : (0 : Int) ≤ (k : Int) := by omega
      have hkw : IntKind.i64.wrap ((k : Int) + 1) = (k : Int) + 1 := IntWalk.i64_in _ (by omega)
      clear hp
      go_wp2_with (go_at_call 106; refine (sub106_any _ id theta g h _ hx hy).mono ?_; rintro e w1 ⟨rfl, hb1⟩; have Hb1 := Lib.hid hb1; clear hb1)
      · have hs : subIs id theta l[k] = true := by assumption
        go_ret
        exact ⟨ret_int (at_found (f := subIs id theta) hlt hs HJ.out).symm, HB.out.trans (Hb1.out.mono HB.out.size)⟩
      · have hs : subIs id theta l[k] = false := by assumption
        go_roundw
        case rel => exact ⟨k + 1, by omega, by go_num, HB.out.trans (Hb1.out.mono HB.out.size), fun j hj hjk => by
          by_cases e : j = k
          · subst e; exact hs
          · exact HJ.out j hj (by omega)⟩
        case measure => simp [intOf]; omega
    · have hkl : ¬ (k : Int) < (l.length : Int) := by omega
      go_wp2_with fail
      go_ret
      exact ⟨ret_int (at_none fun j hj => HJ.out j hj (by omega)).symm, HB.out⟩

set_option maxRecDepth 100000 in
set_option maxHeartbeats 1000000 in
theorem index108_any (A : Option Addr) (c : Nat) (l : List Sub) (id : ByteArray) (theta : Int) (g h : Nat) (w : World) (hs : SubsR w A l) (hl : l.length ≤ 8) (hc : w.cell? ⟨g, 0, none⟩ = some (.string id)) (hd : w.cell? ⟨h, 0, none⟩ = some (.int .i64 theta)) :
    Calls Try.prog 107 #[.slice A l.length c, .func (.func 108) #[] #[.pointer (some ⟨g, 0, none⟩), .pointer (some ⟨h, 0, none⟩)]] w fun e w' => e = .returned (.int .i64 (at? (subIs id theta) l)) ∧ Below w.heap.size w w' := by
  have H := Lib.hid hs
  have HC := Lib.hid hc
  have HD := Lib.hid hd
  clear hs hc hd
  go_enter Try.func107, Try.ntmps107
  go_wp2_with fail
  go_loopw [5, 8] (fun _ i wr => ∃ k : Nat, k ≤ l.length ∧ i = .int .i64 k ∧ Hid (Below w.heap.size w wr) ∧ Hid (∀ j (hj : j < l.length), j < k → (subIs id theta) (l[j]) = false)) (fun _ i _ => l.length - (intOf i).toNat)
  case atStart => exact ⟨0, by omega, rfl, Below.refl _ _, fun j hj h => by omega⟩
  case round =>
    obtain ⟨k, hk, rfl, HB, HJ⟩ := hrel
    by_cases hlt : k < l.length
    · obtain ⟨g', off, rfl, hp⟩ := (H.out.below HB.out) (by omega)
      obtain ⟨h0, h1, h2⟩ := hp k hlt
      have hx := bsome HB.out HC.out
      have hy := bsome HB.out HD.out
      have hkl : (k : Int) < (l.length : Int) := by omega
      have hk0 : (0 : Int) ≤ (k : Int) := by omega
      have hkw : IntKind.i64.wrap ((k : Int) + 1) = (k : Int) + 1 := IntWalk.i64_in _ (by omega)
      clear hp
      go_wp2_with (go_at_call 108; refine (sub108_any _ id theta g h _ hx hy).mono ?_; rintro e w1 ⟨rfl, hb1⟩; have Hb1 := Lib.hid hb1; clear hb1)
      · have hs : subIs id theta l[k] = true := by assumption
        go_ret
        exact ⟨ret_int (at_found (f := subIs id theta) hlt hs HJ.out).symm, HB.out.trans (Hb1.out.mono HB.out.size)⟩
      · have hs : subIs id theta l[k] = false := by assumption
        go_roundw
        case rel => exact ⟨k + 1, by omega, by go_num, HB.out.trans (Hb1.out.mono HB.out.size), fun j hj hjk => by
          by_cases e : j = k
          · subst e; exact hs
          · exact HJ.out j hj (by omega)⟩
        case measure => simp [intOf]; omega
    · have hkl : ¬ (k : Int) < (l.length : Int) := by omega
      go_wp2_with fail
      go_ret
      exact ⟨ret_int (at_none fun j hj => HJ.out j hj (by omega)).symm, HB.out⟩

set_option maxRecDepth 100000 in
set_option maxHeartbeats 1000000 in
theorem index113_any (A : Option Addr) (c : Nat) (l : List Sub) (id : ByteArray) (g : Nat) (w : World) (hs : SubsR w A l) (hl : l.length ≤ 8) (hc : w.cell? ⟨g, 0, none⟩ = some (.string id)) :
    Calls Try.prog 107 #[.slice A l.length c, .func (.func 113) #[] #[.pointer (some ⟨g, 0, none⟩)]] w fun e w' => e = .returned (.int .i64 (at? (fun s => sq s.id id) l)) ∧ Below w.heap.size w w' := by
  have H := Lib.hid hs
  have HC := Lib.hid hc
  clear hs hc
  go_enter Try.func107, Try.ntmps107
  go_wp2_with fail
  go_loopw [5, 8] (fun _ i wr => ∃ k : Nat, k ≤ l.length ∧ i = .int .i64 k ∧ Hid (Below w.heap.size w wr) ∧ Hid (∀ j (hj : j < l.length), j < k → (fun s => sq s.id id) (l[j]) = false)) (fun _ i _ => l.length - (intOf i).toNat)
  case atStart => exact ⟨0, by omega, rfl, Below.refl _ _, fun j hj h => by omega⟩
  case round =>
    obtain ⟨k, hk, rfl, HB, HJ⟩ := hrel
    by_cases hlt : k < l.length
    · obtain ⟨g', off, rfl, hp⟩ := (H.out.below HB.out) (by omega)
      obtain ⟨h0, h1, h2⟩ := hp k hlt
      have hx := bsome HB.out HC.out
      have hkl : (k : Int) < (l.length : Int) := by omega
      have hk0 : (0 : Int) ≤ (k : Int) := by omega
      have hkw : IntKind.i64.wrap ((k : Int) + 1) = (k : Int) + 1 := IntWalk.i64_in _ (by omega)
      clear hp
      go_wp2_with (go_at_call 113; refine (sub113_any _ id g _ hx).mono ?_; rintro e w1 ⟨rfl, hb1⟩; have Hb1 := Lib.hid hb1; clear hb1)
      · have hs : sq (l[k]).id id = true := by assumption
        go_ret
        exact ⟨ret_int (at_found (f := fun s => sq s.id id) hlt hs HJ.out).symm, HB.out.trans (Hb1.out.mono HB.out.size)⟩
      · have hs : sq (l[k]).id id = false := by assumption
        go_roundw
        case rel => exact ⟨k + 1, by omega, by go_num, HB.out.trans (Hb1.out.mono HB.out.size), fun j hj hjk => by
          by_cases e : j = k
          · subst e; exact hs
          · exact HJ.out j hj (by omega)⟩
        case measure => simp [intOf]; omega
    · have hkl : ¬ (k : Int) < (l.length : Int) := by omega
      go_wp2_with fail
      go_ret
      exact ⟨ret_int (at_none fun j hj => HJ.out j hj (by omega)).symm, HB.out⟩

set_option maxRecDepth 100000 in
theorem contains106_any (A : Option Addr) (c : Nat) (l : List Sub) (id : ByteArray) (theta : Int) (g h : Nat) (w : World) (hs : SubsR w A l) (hl : l.length ≤ 8) (hc : w.cell? ⟨g, 0, none⟩ = some (.string id)) (hd : w.cell? ⟨h, 0, none⟩ = some (.int .i64 theta)) :
    Calls Try.prog 59 #[.slice A l.length c, .func (.func 106) #[] #[.pointer (some ⟨g, 0, none⟩), .pointer (some ⟨h, 0, none⟩)]] w fun e w' => e = .returned (.bool (decide (0 ≤ at? (subIs id theta) l))) ∧ Below w.heap.size w w' := by
  have H := Lib.hid hs
  have HC := Lib.hid hc
  have HD := Lib.hid hd
  clear hs hc hd
  go_enter Try.func59, Try.ntmps59
  go_wp2_with (go_at_call 107; refine (index106_any A c l id theta g h _ H.out hl HC.out HD.out).mono ?_; rintro e w1 ⟨rfl, hb1⟩; have Hb1 := Lib.hid hb1; clear hb1)
  go_ret
  exact ⟨rfl, Hb1.out⟩

end Go.Proofs.Ytmclalhjnjghnaa

namespace Go.Proofs.Ytmclalhjnjghnaa
open Go.RowKit Hw

def toldSub (n : Hw.Node) (s : Sub) : Sub := { s with on := onNow n s }
def noteOf (n : Hw.Node) (s : Sub) : Option Note := if onNow n s == s.on then none else some ⟨s.id, s.theta, onNow n s⟩
def subsTo (n : Hw.Node) (k : Nat) : List Sub := (n.subs.take k).map (toldSub n) ++ n.subs.drop k
def notesTo (n : Hw.Node) (k : Nat) : List Note := (n.subs.take k).filterMap (noteOf n)

theorem subsTo_len (n : Hw.Node) (k : Nat) : (subsTo n k).length = n.subs.length := by
  unfold subsTo
  simp
  omega

theorem subsTo_get {n : Hw.Node} {k : Nat} (hk : k < n.subs.length) : (subsTo n k)[k]'(by rw [subsTo_len]; exact hk) = n.subs[k] := by
  unfold subsTo
  rw [List.getElem_append_right (by simp; omega)]
  simp
  congr 1
  omega

theorem subsTo_succ {n : Hw.Node} {k : Nat} (hk : k < n.subs.length) : subsTo n (k + 1) = (subsTo n k).set k (toldSub n n.subs[k]) := by
  unfold subsTo
  rw [List.set_append_right _ _ (by simp; omega), List.take_succ_eq_append_getElem hk, List.map_append, List.append_assoc]
  congr 1
  have : k - (List.map (toldSub n) (List.take k n.subs)).length = 0 := by simp; omega
  rw [this, List.drop_eq_getElem_cons hk]
  rfl

theorem subsTo_same {n : Hw.Node} {k : Nat} (hk : k < n.subs.length) (h : onNow n n.subs[k] = (n.subs[k]).on) : subsTo n (k + 1) = subsTo n k := by
  rw [subsTo_succ hk]
  have e : toldSub n n.subs[k] = (subsTo n k)[k]'(by rw [subsTo_len]; exact hk) := by
    rw [subsTo_get hk]
    unfold toldSub
    rw [h]
  rw [e]
  exact List.set_getElem_self _

theorem notesTo_succ {n : Hw.Node} {k : Nat} (hk : k < n.subs.length) : notesTo n (k + 1) = notesTo n k ++ (noteOf n n.subs[k]).toList := by
  unfold notesTo
  rw [List.take_succ_eq_append_getElem hk, List.filterMap_append]
  cases h : noteOf n n.subs[k] <;> simp [h]

theorem subsTo_all (n : Hw.Node) : subsTo n n.subs.length = toldSubs n := by
  unfold subsTo toldSubs
  rw [List.take_length, List.drop_length, List.append_nil]
  rfl
theorem notesTo_all (n : Hw.Node) : notesTo n n.subs.length = toldNotes n := by
  unfold notesTo toldNotes
  rw [List.take_length]
  rfl
theorem subsTo_zero (n : Hw.Node) : subsTo n 0 = n.subs := by simp [subsTo]

theorem notesCells_snoc (l : List Note) (x : Note) : notesCells (l ++ [x]) = notesCells l ++ noteCells x := by simp [notesCells]

/-- The block of a node's subs is none of notes. -/
theorem NodeAt.own_ne74 {w : World} {b : Nat} {vs v : Value} {n : Hw.Node} {B m : Nat} {xs : List Value} (h : NodeAt w b vs n) (ho : w.ownsRow B 74 3 v m xs) (g : Nat) (hg : some g = vs.ownBlock) : ¬ v.ownBlock = some g := by
  intro e
  rcases ho.2 with ⟨e1, _⟩ | ⟨g', cap, cur, e1, _, e3, _⟩
  · rw [e1] at e
    simp [Value.ownBlock] at e
  · rw [e1] at e
    simp [Value.ownBlock] at e
    subst e
    exact h.other e3 (by decide) (by decide) (.inr hg)

def V95 (B g k : Nat) (s : Sub) (on : Bool) (u3 : Value) (m : Nat) (xs : List Value) (j : Nat) (v : Value) (w : World) : Prop :=
  match j with
  | 0 => v = u3
  | 1 => v = .pointer (some ⟨g, k * 3, none⟩)
  | 2 => v = .pointer (some ⟨g, k * 3, none⟩)
  | 3 => v = .pointer (some ⟨g, k * 3, none⟩)
  | 4 => v = .string s.id
  | 5 => v = .pointer (some ⟨g, k * 3, none⟩)
  | 6 => v = .pointer (some ⟨g, k * 3, none⟩)
  | 7 => v = .pointer (some ⟨g, k * 3 + 1, none⟩)
  | 8 => v = .int .i64 s.theta
  | 9 => v = .bool on
  | 10 => v = .agg #[.string s.id, .int .i64 s.theta, .bool on]
  | 11 => ∃ x, v = .slice (some ⟨x, 0, none⟩) 1 1 ∧ w.heap[x]? = some (.cells #[.string s.id, .int .i64 s.theta, .bool on] 74 (0, 0)) ∧ u3.ownBlock ≠ some x
  | _ => w.ownsRow B 74 3 v (m + 1) (xs ++ [.string s.id, .int .i64 s.theta, .bool on])
def V95S : List Nat := [48, 49, 50, 51, 52, 53, 54, 55, 56, 57, 58, 59, 60, 3]

theorem V95.below {B g k : Nat} {s : Sub} {on : Bool} {u3 : Value} {m : Nat} {xs : List Value} {j : Nat} {v : Value} {w w' : World} (h : V95 B g k s on u3 m xs j v w) (hb : Below w.heap.size w w') : V95 B g k s on u3 m xs j v w' := by
  unfold V95 at *
  split at h
  all_goals first
    | exact h
    | (obtain ⟨x, e1, e2, e3⟩ := h; exact ⟨x, e1, (hb.block x (Array.getElem?_eq_some_iff.1 e2).1).trans e2, e3⟩)
    | exact own_below h hb

theorem V95.grown {B g k : Nat} {s : Sub} {on : Bool} {u3 : Value} {m : Nat} {xs : List Value} {j : Nat} {v : Value} {w w' : World} (h : V95 B g k s on u3 m xs j v w) (hj : j < 12) (hg : w.grownBy w' u3.ownBlock) : V95 B g k s on u3 m xs j v w' := by
  have hjj : j = 0 ∨ j = 1 ∨ j = 2 ∨ j = 3 ∨ j = 4 ∨ j = 5 ∨ j = 6 ∨ j = 7 ∨ j = 8 ∨ j = 9 ∨ j = 10 ∨ j = 11 := by omega
  rcases hjj with rfl | rfl | rfl | rfl | rfl | rfl | rfl | rfl | rfl | rfl | rfl | rfl
  all_goals first
    | exact h
    | (obtain ⟨x, e1, e2, e3⟩ := h; exact ⟨x, e1, (hg.block x (Array.getElem?_eq_some_iff.1 e2).1 (Ne.symm e3)).trans e2, e3⟩)

theorem V95S_3 : ∀ j, j < 14 → V95S.getD j 0 = 3 → j = 13 := by decide
theorem V95S_5 : ∀ j, j < 14 → V95S.getD j 0 ≠ 5 := by decide
theorem V95S_8 : ∀ j, j < 14 → V95S.getD j 0 ≠ 8 := by decide

def C95 (b : Nat) (vs : Value) (n : Hw.Node) (w0 : World) (g k : Nat) (s : Sub) (u3 : Value) (m : Nat) (xs : List Value) (L : Nat → Bool) (w : World) : Prop :=
  (NodeAt w b vs n ∧ Touch (NodeS b vs) w0 w ∧ w.cell? ⟨g, k * 3, none⟩ = some (.string s.id) ∧ w.cell? ⟨g, k * 3 + 1, none⟩ = some (.int .i64 s.theta)) ∧
    (L 12 = false → w.ownsRow w0.heap.size 74 3 u3 m xs) ∧ (L 12 = false → L 13 = false) ∧ (L 0 = false → L 13 = false) ∧ (L 11 = false → L 12 = false)

theorem C95.up {b : Nat} {vs : Value} {n : Hw.Node} {w0 : World} {g k : Nat} {s : Sub} {u3 : Value} {m : Nat} {xs : List Value} {L : Nat → Bool} {w : World} (h : C95 b vs n w0 g k s u3 m xs L w) {i : Nat} (hi : i < 12) : C95 b vs n w0 g k s u3 m xs (upd L i) w := by
  obtain ⟨h1, h2, h3, h4, h5⟩ := h
  have e : upd L i 12 = L 12 := by unfold upd; rw [show ((12 : Nat) == i) = false by simp; omega]; rfl
  have e2 : upd L i 13 = L 13 := by unfold upd; rw [show ((13 : Nat) == i) = false by simp; omega]; rfl
  refine ⟨h1, by rw [e]; exact h2, by rw [e, e2]; exact h3, fun h0 => ?_, fun h0 => ?_⟩
  · rw [e2]
    exact h4 (Bool.or_eq_false_iff.1 h0).2
  · rw [e]
    exact h5 (Bool.or_eq_false_iff.1 h0).2

theorem C95.below {b : Nat} {vs : Value} {n : Hw.Node} {w0 : World} {g k : Nat} {s : Sub} {u3 : Value} {m : Nat} {xs : List Value} {L : Nat → Bool} {w w' : World} (h : C95 b vs n w0 g k s u3 m xs L w) (hb : Below w.heap.size w w') : C95 b vs n w0 g k s u3 m xs L w' := by
  obtain ⟨⟨h1, h2, h3, h4⟩, h5, h6⟩ := h
  exact ⟨⟨h1.below hb, h2.trans (Touch.of_below hb), bsome hb h3, bsome hb h4⟩, fun e => own_below (h5 e) hb, h6⟩

theorem C95.grown {b : Nat} {vs : Value} {n : Hw.Node} {w0 : World} {g k : Nat} {s : Sub} {u3 : Value} {m : Nat} {xs : List Value} {L : Nat → Bool} {w w' : World} (h : C95 b vs n w0 g k s u3 m xs L w) (hL : L 12 = false) (hL1 : L 11 = true) (hv : vs.ownBlock = some g) (hg : w.grownBy w' u3.ownBlock) : C95 b vs n w0 g k s u3 m xs (upd L 12) w' := by
  obtain ⟨⟨h1, h2, h3, h4⟩, h5, h6⟩ := h
  have ho := h5 hL
  have hgl := blt h3
  have hgn : some g ≠ u3.ownBlock := fun e => h1.own_ne74 ho g hv.symm e.symm
  have hc := fun j => World.cell?_of_block (a := ⟨g, j, none⟩) (hg.block g hgl hgn)
  refine ⟨⟨h1.grown ho hg (by decide), h2.grown hg fun q hq => (ho.lt q hq.symm).1, (hc _).trans h3, (hc _).trans h4⟩, fun e => ?_, ?_⟩
  · simp [upd] at e
  · refine ⟨fun e => by simp [upd] at e, fun e => ?_, fun e => ?_⟩
    · have e := (Bool.or_eq_false_iff.1 e).2
      have := h6.2.1 e
      unfold upd
      rw [this]
      rfl
    · have e := (Bool.or_eq_false_iff.1 e).2
      rw [hL1] at e
      cases e

set_option maxRecDepth 100000 in
set_option maxHeartbeats 2000000 in
theorem told_any (b : Nat) (vs : Value) (n : Hw.Node) (w : World) (h : NodeAt w b vs n) (hlv : NodeLv n) (h8 : n.subs.length ≤ 8) : Calls Try.prog 95 #[.pointer (some ⟨b, 0, none⟩)] w (ToldPost b vs n w) := by
  obtain ⟨i0, hi0, hz0, hz1, hz2⟩ := info_parts (show (Try.prog.info? 74).map (fun i => (i.zero, i.size, i.bytes)) = some (some (.agg #[.string ByteArray.empty, .int .i64 0, .bool false]), 3, 32) by kernel_rfl)
  have HN := Lib.hid h
  have HL := Lib.hid hlv
  obtain ⟨A, c, -, -, -, -, -, -, -, -, -, c9, -, -, -⟩ := h.cells
  obtain ⟨A9, d9, evs, -⟩ := h.sub
  have hbl := h.lt
  rw [evs] at c9
  have Hevs := Lib.hid evs
  clear h hlv evs
  go_enter Try.func95, Try.ntmps95
  go_wp2_with fail
  go_loopw [3, 14] (fun v i wr => ∃ k : Nat, k ≤ n.subs.length ∧ i = .int .i64 k ∧ Hid (NodeAt wr b vs { n with subs := subsTo n k }) ∧ Hid (wr.ownsRow w.heap.size 74 3 v (notesTo n k).length (notesCells (notesTo n k))) ∧ Hid (Touch (NodeS b vs) w wr)) (fun _ i _ => n.subs.length - (intOf i).toNat)
  case atStart => exact ⟨0, by omega, rfl, by rw [subsTo_zero]; exact HN.out, World.ownsRow_nil _ _ _ _, Touch.refl _ _⟩
  case round =>
    obtain ⟨k, hk, rfl, HM, HO, HTo⟩ := hrel
    have hkw : IntKind.i64.wrap ((k : Int) + 1) = (k : Int) + 1 := IntWalk.i64_in _ (by omega)
    by_cases hlt : k < n.subs.length
    · obtain ⟨A1, d1, -, -, -, -, -, -, -, -, -, m9, -, -, -⟩ := HM.out.cells
      obtain ⟨g, d, e, hgb, s0, s1, s2, sf⟩ := HM.out.subAt (k := k) (by simp only [subsTo_len]; exact hlt)
      simp only [subsTo_get hlt, subsTo_len] at s0 s1 s2 e
      rw [e] at m9
      have Hsf := Lib.hid sf
      have He := Lib.hid e
      have hki : (k : Int) < (n.subs.length : Int) := by omega
      have hk0 : (0 : Int) ≤ (k : Int) := by omega
      have hlvl : level { n with subs := subsTo n k } (n.subs[k]).id = level n (n.subs[k]).id := rfl
      have hon : onNow n n.subs[k] = decide ((n.subs[k]).theta ≤ (level n (n.subs[k]).id).1) := rfl
      obtain ⟨s, hs⟩ : ∃ s, n.subs[k] = s := ⟨_, rfl⟩
      rw [hs] at s0 s1 s2 hlvl hon
      obtain ⟨q, hq⟩ : ∃ q, (level n s.id).1 = q := ⟨_, rfl⟩
      have HQ := Lib.hid hq
      have HS := Lib.hid hs
      have Hon := Lib.hid hon
      have Hlvl := Lib.hid hlvl
      have hbw := HM.out.lt
      clear sf e hs hq hon hlvl
      go_wp2_with (first | (go_at_call 44; refine (nlevel_any b vs { n with subs := subsTo n k } s.id _ HM.out HL.out).mono ?_; rintro e w1 ⟨rfl, hb1⟩; rw [Hlvl.out, HQ.out]; have sf := (hb1.frozen (p := ⟨g, k * 3 + 2, none⟩) (blt s0)).trans (Hsf.out _); have m9 := bsome hb1 m9; have s0 := bsome hb1 s0; have s1 := bsome hb1 s1; have s2 := bsome hb1 s2; have Hb1 := Lib.hid hb1; clear hb1) | fail)
      · have hne : (!decide (s.theta ≤ q) == s.on) = true := by assumption
        have hon2 : onNow n s = decide (s.theta ≤ q) := by rw [Hon.out, HQ.out]
        have hno : noteOf n s = some ⟨s.id, s.theta, decide (s.theta ≤ q)⟩ := by
          unfold noteOf
          rw [hon2, if_neg]
          intro e
          have e := eq_of_beq e
          rw [e] at hne
          cases hb : s.on <;> rw [hb] at hne <;> cases hne
        have hm1 := HM.out.below Hb1.out
        rw [He.out] at hm1
        have hm2 := hm1.putSub (k := k) (j := 2) (u := .bool (decide (s.theta ≤ q))) (s' := toldSub n s) (by simp only [subsTo_len]) (by simp only [subsTo_len]; exact hlt) (by omega) (by
          simp only [subsTo_get hlt, HS.out]
          unfold toldSub subCells
          rw [hon2]
          rfl)
        simp only at hm2
        rw [← HS.out, ← subsTo_succ hlt, HS.out] at hm2
        have ht2 := (HTo.out.trans (Touch.of_below Hb1.out)).setCell (a := ⟨g, k * 3 + 2, none⟩) (by right; rw [He.out]; rfl) (.bool (decide (s.theta ≤ q)))
        have ho2 : (w1.setCell ⟨g, k * 3 + 2, none⟩ (.bool (decide (s.theta ≤ q)))).ownsRow w.heap.size 74 3 u3 (notesTo n k).length (notesCells (notesTo n k)) := by
          refine ownsRow_setCell_other (own_below HO.out Hb1.out) (a := ⟨g, k * 3 + 2, none⟩) ?_ _
          intro e
          exact HM.out.own_ne74 HO.out g (by rw [He.out]; rfl) e
        have r0 : (w1.setCell ⟨g, k * 3 + 2, none⟩ (.bool (decide (s.theta ≤ q)))).cell? ⟨g, k * 3, none⟩ = some (.string s.id) := (World.cell?_setCell_other _ _ _ _ (by simp)).trans s0
        have r1 : (w1.setCell ⟨g, k * 3 + 2, none⟩ (.bool (decide (s.theta ≤ q)))).cell? ⟨g, k * 3 + 1, none⟩ = some (.int .i64 s.theta) := (World.cell?_setCell_other _ _ _ _ (by simp)).trans s1
        generalize w1.setCell ⟨g, k * 3 + 2, none⟩ (.bool (decide (s.theta ≤ q))) = W at hm2 ht2 ho2 r0 r1 ⊢
        clear sf s0 s1 s2 m9
        rw [← He.out] at hm2
        have HM2 := Lib.hid hm2
        have HT2 := Lib.hid ht2
        have HO2 := Lib.hid ho2
        have Hno := Lib.hid hno
        have hsz := ht2.size
        clear hm1 hm2 ht2 ho2 hno hne
        refine wp_region_inv (V95 w.heap.size g k s (decide (s.theta ≤ q)) u3 (notesTo n k).length (notesCells (notesTo n k))) (C95 b vs { n with subs := subsTo n (k + 1) } w g k s u3 (notesTo n k).length (notesCells (notesTo n k))) V95S (by kernel_rfl) (by rfl) (by kernel_rfl)
          (fun i hi hn => absurd hn (by have hi' : i < 14 := hi; show ¬ (63 ≤ V95S.getD i 0); clear hi hn; revert i; decide)) ?hc ?hs ?hd
        case hc => exact ⟨⟨HM2.out.below (below_drewN (Below.refl _ _) 1), HT2.out.drew, r0, r1⟩, fun _ => HO2.out, fun _ => rfl, fun _ => rfl, fun _ => rfl⟩
        case hs =>
          refine AllOps.cons ?_ ?_
          focus
            intro L a wx hLi hC hk hv K hK
            have h3 := hk 3 (fun j hj hl => by
              intro e
              have hj13 : j = 13 := V95S_3 j hj e
              rw [hj13, hC.2.2.2.1 hLi] at hl
              cases hl)
            simp at h3
            go_simp
            exact hK _ _ (hC.up (by decide)) (fun _ _ _ _ h => h) rfl
          iterate 10 (refine AllOps.cons ?_ ?_; focus (
            intro L a wx hLi hC hk hv K hK
            have h5 := hk 5 (fun j hj _ => V95S_5 j hj)
            have h8 := hk 8 (fun j hj _ => V95S_8 j hj)
            have e0 := hC.1.2.2.1
            have e1 := hC.1.2.2.2
            have HC := Lib.hid hC
            clear hk hC
            simp [Region.binds, V95, V95S] at hv h5 h8
            go_simp
            exact hK _ _ (HC.out.up (by decide)) (fun _ _ _ _ h => h) rfl))
          refine AllOps.cons ?_ ?_
          focus
            intro L a wx hLi hC hk hv K hK
            have hs11 := (hC.2.1 (hC.2.2.2.2 hLi))
            have hb : Below wx.heap.size wx (wx.alloc (.cells #[.string s.id, .int .i64 s.theta, .bool (decide (s.theta ≤ q))] 74)) := (Below.refl _ _).alloc (Nat.le_refl _) _
            have HC := Lib.hid hC
            have H11 := Lib.hid hs11
            have HB := Lib.hid hb
            clear hk hC hs11 hb
            simp [Region.binds, V95, V95S] at hv
            go_simp
            refine hK _ _ ((HC.out.below HB.out).up (by decide)) (fun _ _ _ _ h => h.below HB.out) ⟨_, rfl, heap_alloc_new _ _, fun e => ?_⟩
            have := (H11.out.lt _ e).2
            omega
          refine AllOps.cons ?_ ?_
          focus
            intro L a wx hLi hC hk hv K hK
            have ho := hC.2.1 hLi
            have HC := Lib.hid hC
            have HOo := Lib.hid ho
            clear hk hC ho
            simp [Region.binds, V95, V95S] at hv
            obtain ⟨hv0, hL11, x, hx1, hx2, hx3⟩ := hv
            have HK := Lib.hid hK
            clear hK
            have hlen : (notesTo n k).length ≤ 8 := by
              have := List.length_filterMap_le (noteOf n) (n.subs.take k)
              unfold notesTo
              simp at this ⊢
              omega
            refine oper_append_own (.tmp 48) (.tmp 59) 49 (by rfl) w.heap.size 74 i0 _ 3 32 Try.underlying49 hi0 hz0 hz1 hz2 rfl (by omega) u3 (notesTo n k).length _ (by simpa [Act.eval] using hv0.2) (by exact HOo.out) ⟨x, 0, none⟩ 1 1 [.string s.id, .int .i64 s.theta, .bool (decide (s.theta ≤ q))] (by simpa [Act.eval] using hx1) rfl ?b1 ?b2 ?b3 ?b4 ?b5 ?_
            case b1 =>
              intro j u hu
              rw [add_lit, Nat.zero_add, cell_of_row _ _ _ _ _ _ hx2]
              simpa using hu
            case b2 => simp [Value.oneCell']
            case b3 => simp only [maxLen]; omega
            case b4 => omega
            case b5 => have := HC.out.1.2.1.size; omega
            intro v9 w9 ho9 hg9 _ _
            refine HK.out v9 w9 (HC.out.grown hLi hL11 (by rw [He.out]; rfl) hg9) (fun j u hjl hj hu => ?_) ho9
            have hjl : j < 14 := hjl
            by_cases h12 : j < 12
            · exact hu.grown h12 hg9
            · exfalso
              by_cases e : j = 12
              · rw [e, hLi] at hj
                cases hj
              · have e : j = 13 := by omega
                rw [e, HC.out.2.2.1 hLi] at hj
                cases hj
          refine AllOps.cons ?_ ?_
          focus
            intro L a wx hLi hC hk hv K hK
            clear hk
            simp [Region.binds, V95, V95S] at hv
            obtain ⟨⟨l12, hv12⟩, ⟨l0, -⟩, -, -, -, -, -, -, -, -, -, -, ⟨l11, -⟩, -⟩ := hv
            go_simp
            have l12' : upd L 13 12 = true := by unfold upd; rw [l12]; rfl
            have l0' : upd L 13 0 = true := by unfold upd; rw [l0]; rfl
            have l11' : upd L 13 11 = true := by unfold upd; rw [l11]; rfl
            refine hK _ _ ⟨hC.1, fun e => ?_, fun e => ?_, fun e => ?_, fun e => ?_⟩ (fun _ _ _ _ h => h) hv12
            · exact absurd (l12'.symm.trans e) (by decide)
            · exact absurd (l12'.symm.trans e) (by decide)
            · exact absurd (l0'.symm.trans e) (by decide)
            · exact absurd (l11'.symm.trans e) (by decide)
          exact AllOps.nil
        case hd =>
          intro us L w2 hL hC hv
          have e13 : w2.ownsRow w.heap.size 74 3 (us 13) ((notesTo n k).length + 1) (notesCells (notesTo n k) ++ [.string s.id, .int .i64 s.theta, .bool (decide (s.theta ≤ q))]) := hv 13 (by decide)
          have HC := Lib.hid hC
          have H13 := Lib.hid e13
          have Hus := Lib.hid (show us 13 = us 13 from rfl)
          clear hv hC e13 hL
          simp only [setAll, V95S, List.setIfInBounds_toArray, List.set_cons_zero, List.set_cons_succ]
          generalize us 13 = u13 at H13 ⊢
          go_wp2_with fail
          go_roundw
          case rel =>
            refine ⟨k + 1, by omega, by go_num, HC.out.1.1, ?_, HC.out.1.2.1⟩
            show w2.ownsRow w.heap.size 74 3 _ _ _
            rw [notesTo_succ hlt, HS.out, Hno.out]
            simp only [Option.toList, List.length_append, List.length_singleton, notesCells_snoc]
            exact H13.out
          case measure => simp [intOf]; omega
      · have hne : (!decide (s.theta ≤ q) == s.on) = false := by assumption
        have hon2 : onNow n s = s.on := by
          rw [Hon.out, HQ.out]
          cases ha : decide (s.theta ≤ q) <;> cases hb : s.on <;> rw [ha, hb] at hne <;> first | rfl | cases hne
        have hno : noteOf n s = none := by
          unfold noteOf
          rw [hon2, if_pos (by simp)]
        have Hon2 := Lib.hid hon2
        have Hno := Lib.hid hno
        clear hon2 hno hne
        go_roundw
        case rel =>
          refine ⟨k + 1, by omega, by go_num, ?_, ?_, HTo.out.trans (Touch.of_below Hb1.out)⟩
          · rw [subsTo_same hlt (by rw [HS.out]; exact Hon2.out)]
            exact HM.out.below Hb1.out
          · rw [notesTo_succ hlt, HS.out, Hno.out]
            simp only [Option.toList, List.append_nil]
            exact own_below HO.out Hb1.out
        case measure => simp [intOf]; omega
    · have hkl : ¬ (k : Int) < (n.subs.length : Int) := by omega
      obtain rfl : k = n.subs.length := by omega
      go_wp2_with fail
      go_ret
      rw [subsTo_all] at HM
      rw [notesTo_all] at HO
      exact ⟨⟨_, rfl, HO.out⟩, HM.out, HTo.out⟩

end Go.Proofs.Ytmclalhjnjghnaa

namespace Go.Proofs.Ytmclalhjnjghnaa
open Go.RowKit Hw

def V53 (b _ : Nat) (n : Hw.Node) (A : Option Addr) (c : Nat) (d : Beat) (R : Value → World → Prop) (t : Bool) (e : Int) (j : Nat) (v : Value) (w : World) : Prop :=
  match j with
  | 0 => v = .pointer (some ⟨b, 0, none⟩)
  | 1 => v = .pointer (some ⟨b, 0, none⟩)
  | 2 => v = .pointer (some ⟨b, 8, none⟩)
  | 3 => v = .slice A n.peers.length c
  | 4 => v = .agg #[.string d.id, .int .i64 d.inc, .int .i64 d.seq]
  | 5 => v = .pointer (some ⟨b, 0, none⟩)
  | 6 => v = .pointer (some ⟨b, 0, none⟩)
  | 7 => v = .pointer (some ⟨b, 5, none⟩)
  | 8 => v = .int .i64 n.now
  | 9 => ∃ u, v = .tuple #[u, .bool t, .int .i64 e] ∧ R u w
  | 10 => ∃ u, v = .tuple #[u, .bool t, .int .i64 e] ∧ R u w
  | 11 => R v w
  | 12 => v = .bool t
  | 13 => v = .int .i64 e
  | 14 => R v w
  | 15 => v = .bool t
  | _ => v = .int .i64 e
def V53S : List Nat := [18, 19, 20, 21, 22, 23, 24, 25, 26, 27, 17, 28, 29, 30, 8, 9, 7]

theorem V53.below {b P : Nat} {n : Hw.Node} {A : Option Addr} {c : Nat} {d : Beat} {R : Value → World → Prop} {t : Bool} {e : Int} {j : Nat} {v : Value} {w w' : World} (hR : ∀ v, R v w → R v w') (h : V53 b P n A c d R t e j v w) : V53 b P n A c d R t e j v w' := by
  unfold V53 at *
  split at h
  all_goals first
    | exact h
    | exact hR _ h
    | (obtain ⟨u, e1, e2⟩ := h; exact ⟨u, e1, hR _ e2⟩)

def dropped (n : Hw.Node) : Hw.Node := { n with drops := min (n.drops + 1) 1073741824 }

/-- '(*Node).Hear'. -/
def nhear (n : Hw.Node) (s : ByteArray) : Hw.Node × List Note × Int :=
  if (decode s).2 ≠ 0 then (dropped n, [], (decode s).2)
  else if (hear n.peers (decode s).1 n.now).2.2 ≠ 0 then (dropped n, [], (hear n.peers (decode s).1 n.now).2.2)
  else if (hear n.peers (decode s).1 n.now).2.1 = false then (dropped { n with peers := (hear n.peers (decode s).1 n.now).1 }, [], 5)
  else ((told { n with peers := (hear n.peers (decode s).1 n.now).1 }).1, (told { n with peers := (hear n.peers (decode s).1 n.now).1 }).2, 0)

def NotesPost (b : Nat) (vs : Value) (w : World) (r : Hw.Node × List Note × Int) (e : Ending) (w' : World) : Prop :=
  (∃ vn, e = .returned (.tuple #[vn, .int .i64 r.2.2]) ∧ w'.ownsRow w.heap.size 74 3 vn r.2.1.length (notesCells r.2.1)) ∧ NodeAt w' b vs r.1 ∧ Touch (NodeS b vs) w w'

set_option maxRecDepth 100000 in
set_option maxHeartbeats 2000000 in
theorem nhear_any (b : Nat) (vs : Value) (n : Hw.Node) (s : ByteArray) (w : World) (h : NodeAt w b vs n) (hd1 : 0 ≤ n.drops) (hd2 : n.drops ≤ 1073741824) (hlv : NodeLv { n with peers := (hear n.peers (decode s).1 n.now).1 }) (h8 : n.subs.length ≤ 8) :
    Calls Try.prog 53 #[.pointer (some ⟨b, 0, none⟩), .string s] w (NotesPost b vs w (nhear n s)) := by
  have HN := Lib.hid h
  have HL := Lib.hid hlv
  obtain ⟨A, c, -, -, -, -, -, c5, -, c7, c8, -, hp, -, hf⟩ := h.cells
  have Hp := Lib.hid hp
  have HF := Lib.hid hf
  have hbl := h.lt
  have hdw : IntKind.i64.wrap (n.drops + 1) = n.drops + 1 := IntWalk.i64_in _ (by omega)
  clear h hp hf hlv
  obtain ⟨D, hD⟩ : ∃ D, decode s = D := ⟨_, rfl⟩
  obtain ⟨d, e⟩ := D
  by_cases h0 : e = 0
  · subst h0
    obtain ⟨r, hrr⟩ : ∃ r, hear n.peers d n.now = r := ⟨_, rfl⟩
    obtain ⟨l2, t, e⟩ := r
    have hr : nhear n s = if e ≠ 0 then (dropped n, [], e) else if t = false then (dropped { n with peers := l2 }, [], 5) else ((told { n with peers := l2 }).1, (told { n with peers := l2 }).2, 0) := by
      unfold nhear
      simp only [hD, hrr]
      rw [if_neg (by simp)]
    have Hr := Lib.hid hr
    have HD := Lib.hid hD
    have Hrr := Lib.hid hrr
    rw [hD] at HL
    simp only [hrr] at HL
    clear hr hD hrr
    go_enter Try.func53, Try.ntmps53
    go_wp2_with (first | (go_at_call 36; refine (decode_any s _).mono ?_; rintro e1 w1 ⟨rfl, hb1⟩; rw [HD.out]; unfold decV; have hb1l := Nat.lt_of_lt_of_le hbl hb1.size; have Hb1 := Lib.hid hb1; clear hb1) | fail)
    have hbW := (Below.refl w1.heap.size w1).alloc (Nat.le_refl _) (.cells #[.string d.id, .int .i64 d.inc, .int .i64 d.seq] 24)
    have x0 := heap_alloc_new w1 (.cells #[.string d.id, .int .i64 d.inc, .int .i64 d.seq] 24)
    generalize w1.alloc (.cells #[.string d.id, .int .i64 d.inc, .int .i64 d.seq] 24) = W at hbW x0 ⊢
    have q0 := cell_of_row W w1.heap.size 0 _ 24 (0, 0) x0
    have q1 := cell_of_row W w1.heap.size 1 _ 24 (0, 0) x0
    have q2 := cell_of_row W w1.heap.size 2 _ 24 (0, 0) x0
    simp at q0 q1 q2
    have HBW := Lib.hid (Hb1.out.trans (hbW.mono Hb1.out.size))
    have r5 := bsome HBW.out c5
    have r8 := bsome HBW.out c8
    clear hbW x0
    refine wp_region_lit (V53 b w1.heap.size n A c d (fun v wx => OwnP wx w.heap.size v l2) t e) (fun wx => Below W.heap.size W wx) V53S (by kernel_rfl) (by rfl) (by kernel_rfl) (fun j v wx wy _ h hb => h.below fun _ ho => ho.below hb) (Below.refl _ _).drew ?hs ?hd
    case hs =>
      repeat (refine AllOps.cons ?_ ?_; focus (
        intro a wx hC hk hv K hK
        have h0 := hk 0 (by decide)
        have h6 := hk 6 (by decide)
        have HC := Lib.hid hC
        have d5 := bsome hC r5
        have d8 := bsome hC r8
        have e0 := bsome hC q0
        have e1 := bsome hC q1
        have e2 := bsome hC q2
        clear hk hC
        simp [Region.binds, V53, V53S] at hv h0 h6
        first
          | (go_simp; exact hK _ _ HC.out (Below.refl _ _) rfl)
          | (obtain ⟨u, hv, ho⟩ := hv; go_simp; first | exact hK _ _ HC.out (Below.refl _ _) ⟨u, rfl, ho⟩ | exact hK _ _ HC.out (Below.refl _ _) ho | exact hK _ _ HC.out (Below.refl _ _) rfl)
          | (go_simp; exact hK _ _ HC.out (Below.refl _ _) hv)
          | (obtain ⟨hv, -⟩ := hv; go_simp; exact hK _ _ HC.out (Below.refl _ _) hv)
          | (obtain ⟨hv1, hv2, hv3⟩ := hv; go_simp; refine (hear_any A c n.peers d n.now _ (Hp.out.below (HBW.out.trans (HC.out.mono HBW.out.size)))).mono ?_; rintro e w2 ⟨⟨vx, rfl, hox⟩, hb2⟩; rw [Hrr.out] at hox ⊢; exact hK _ _ (HC.out.trans (hb2.mono HC.out.size)) hb2 ⟨vx, rfl, hox.base (Nat.le_trans HBW.out.size HC.out.size)⟩)))
      exact AllOps.nil
    case hd =>
      intro us w2 hC hv
      have e14 : OwnP w2 w.heap.size (us 14) l2 := hv 14 (by decide)
      have e15 : us 15 = .bool t := hv 15 (by decide)
      have e16 : us 16 = .int .i64 e := hv 16 (by decide)
      obtain ⟨Ax, cx, eu, -⟩ := e14.form
      rw [eu] at e14
      have hbA := HBW.out.trans (hC.mono HBW.out.size)
      have d7 := bsome hbA c7
      have f7 := (hbA.frozen (p := ⟨b, 7, none⟩) hbl).trans (HF.out 7)
      have f8 := (hbA.frozen (p := ⟨b, 8, none⟩) hbl).trans (HF.out 8)
      have d8 := bsome hbA c8
      simp only [setAll, V53S, List.setIfInBounds_toArray, List.set_cons_zero, List.set_cons_succ, e15, e16, eu]
      have Hox := Lib.hid e14
      have HA := Lib.hid hbA
      have hbl2 := blt d7
      clear hv e14 hC eu e15 e16 hbA
      by_cases he : e = 0
      · subst he
        have Hr := Lib.hid (Hr.out.trans (if_neg (by simp)))
        cases t with
        | true =>
          have Hr := Lib.hid (Hr.out.trans (if_neg (by simp)))
          have hm := (HN.out.below HA.out).putPeers (Hox.out.base (Nat.succ_le_of_lt hbl))
          have Hm := Lib.hid hm
          have ht8 := (Touch.of_below HA.out : Touch (NodeS b vs) w w2).setCell (a := ⟨b, 8, none⟩) (.inl rfl) (.slice Ax l2.length cx)
          have Ht8 := Lib.hid ht8
          clear hm ht8
          go_wp2_with (first | (go_at_call 95; refine (told_any b vs { n with peers := l2 } _ Hm.out HL.out h8).mono ?_; rintro e3 w3 ⟨⟨vn, rfl, ho3⟩, hn3, ht3⟩; have Ho3 := Lib.hid (own_base ho3 Ht8.out.size); have Hn3 := Lib.hid hn3; have Ht3 := Lib.hid (Ht8.out.trans ht3); obtain ⟨A3, d3, rfl, -⟩ := own_form ho3; clear ho3 hn3 ht3) | fail)
          go_ret2
          unfold NotesPost
          rw [Hr.out]
          exact ⟨⟨_, rfl, Ho3.out⟩, Hn3.out, Ht3.out⟩
        | false =>
          have Hr := Lib.hid (Hr.out.trans (if_pos rfl))
          go_wp2_with fail
          go_ret2
          unfold NotesPost
          rw [Hr.out]
          exact ⟨⟨_, rfl, World.ownsRow_nil _ _ _ _⟩, ((HN.out.below HA.out).putPeers (Hox.out.base (Nat.succ_le_of_lt hbl))).putDrops (min (n.drops + 1) 1073741824), ((Touch.of_below HA.out).setCell (a := ⟨b, 8, none⟩) (.inl rfl) _).setCell (a := ⟨b, 7, none⟩) (.inl rfl) _⟩
      · have heb2 : (e != 0) = true := by simpa using he
        have Hr := Lib.hid (Hr.out.trans (if_pos he))
        clear he
        go_wp2_with fail
        go_ret2
        unfold NotesPost
        rw [Hr.out]
        exact ⟨⟨_, rfl, World.ownsRow_nil _ _ _ _⟩, (HN.out.below HA.out).putDrops _, (Touch.of_below HA.out).setCell (a := ⟨b, 7, none⟩) (.inl rfl) _⟩
  · have hr : nhear n s = (dropped n, [], e) := by unfold nhear; rw [hD, if_pos h0]
    have Hr := Lib.hid hr
    have heb : (e == 0) = false := by simpa using h0
    have heb2 : (e != 0) = true := by simp [heb, bne]
    have HD := Lib.hid hD
    clear hr h0 hD
    go_enter Try.func53, Try.ntmps53
    go_wp2_with (first | (go_at_call 36; refine (decode_any s _).mono ?_; rintro e1 w1 ⟨rfl, hb1⟩; rw [HD.out]; unfold decV; have c7 := bsome hb1 c7; have f7 := (hb1.frozen (p := ⟨b, 7, none⟩) hbl).trans (HF.out 7); have hb1l := blt c7; have Hb1 := Lib.hid hb1; clear hb1) | fail)
    go_ret2
    unfold NotesPost
    rw [Hr.out]
    refine ⟨⟨_, rfl, World.ownsRow_nil _ _ _ _⟩, ?_, ?_⟩
    · exact ((HN.out.below Hb1.out).putDrops (min (n.drops + 1) 1073741824)).below ((Below.refl _ _).alloc (Nat.le_refl _) _)
    · exact (((Touch.of_below Hb1.out).setCell (a := ⟨b, 7, none⟩) (.inl rfl) _).alloc _)

end Go.Proofs.Ytmclalhjnjghnaa

namespace Go.Proofs.Ytmclalhjnjghnaa
open Go.RowKit Hw

/-- A row that stands where an older one stood, or in new memory. -/
def VsTo (vs vs' : Value) (w : World) : Prop := ∀ k, some k = vs'.ownBlock → some k = vs.ownBlock ∨ w.heap.size ≤ k

theorem VsTo.refl (vs : Value) (w : World) : VsTo vs vs w := fun _ h => .inl h
theorem VsTo.trans {S : Nat → Prop} {vs vs' vs'' : Value} {w w' : World} (h : VsTo vs vs' w) (h' : VsTo vs' vs'' w') (ht : Touch S w w') : VsTo vs vs'' w := fun k hk => by
  rcases h' k hk with e | e
  · exact h k e
  · exact .inr (Nat.le_trans ht.size e)

theorem Touch.vs {b : Nat} {vs vs' : Value} {w w' w'' : World} (h : Touch (NodeS b vs) w w') (hv : VsTo vs vs' w) (h' : Touch (NodeS b vs') w' w'') : Touch (NodeS b vs) w w'' :=
  ⟨h'.os.trans h.os, h'.tape.trans h.tape, h'.output.trans h.output, Nat.le_trans h.size h'.size, fun k hk hn => (h'.block k (Nat.lt_of_lt_of_le hk h.size) (by
    rintro (e | e)
    · exact hn (.inl e)
    · rcases hv k e with e | e
      · exact hn (.inr e)
      · omega)).trans (h.block k hk hn)⟩

def NodeB (w : World) (b : Nat) (vs : Value) (n : Hw.Node) : Prop := ∃ vp, w.heap[b]? = some (.cells (nodeCells n vp vs).toArray 145 (0, 0)) ∧ OwnP w (b + 1) vp n.peers

theorem NodeAt.toB {w : World} {b : Nat} {vs : Value} {n : Hw.Node} (h : NodeAt w b vs n) : NodeB w b vs n := by
  obtain ⟨vp, e1, e2, _⟩ := h
  exact ⟨vp, e1, e2⟩

theorem NodeB.below {w w' : World} {b : Nat} {vs : Value} {n : Hw.Node} (h : NodeB w b vs n) (hb : Below w.heap.size w w') : NodeB w' b vs n := by
  obtain ⟨vp, h1, h2⟩ := h
  exact ⟨vp, (hb.block b (Array.getElem?_eq_some_iff.1 h1).1).trans h1, h2.below hb⟩

theorem NodeB.cell {w : World} {b : Nat} {vs : Value} {n : Hw.Node} (h : NodeB w b vs n) : w.cell? ⟨b, 9, none⟩ = some vs ∧ w.frozen? ⟨b, 9, none⟩ = false := by
  obtain ⟨vp, h1, h2⟩ := h
  exact ⟨cell_of_row w b 9 _ 145 (0, 0) h1, frozen_of_row _ _ _ _ _ h1⟩

/-- Other subs. -/
theorem NodeB.put {w : World} {b : Nat} {vs v : Value} {n : Hw.Node} {l : List Sub} (h : NodeB w b vs n) (ho : w.ownsRow (b + 1) 85 3 v l.length (subsCells l)) : NodeAt (w.setCell ⟨b, 9, none⟩ v) b v { n with subs := l } := by
  obtain ⟨vp, e1, e2⟩ := h
  have ht := set_typed (j := 9) v e1
  exact ⟨vp, by rw [heap_set v e1]; rfl, e2.typed fun k c t hk hc => ht k c t (by rcases hk with e | e <;> rw [e] <;> decide) hc, own_typed ho fun k c _ hc => ht k c 85 (by decide) hc⟩

theorem NodeAt.toBgrown {w w' : World} {b : Nat} {vs : Value} {n : Hw.Node} (h : NodeAt w b vs n) (hg : w.grownBy w' vs.ownBlock) : NodeB w' b vs n := by
  have hne : ∀ (q : Nat) (c : Array Value) (u : TypeId), w.heap[q]? = some (.cells c u (0, 0)) → u ≠ 85 → w'.heap[q]? = w.heap[q]? := by
    intro q c u hq hu
    refine hg.block q (Array.getElem?_eq_some_iff.1 hq).1 fun he => ?_
    by_cases h145 : u = 145
    · obtain ⟨vp, e1, _, e3⟩ := h
      rcases e3.2 with ⟨q', _⟩ | ⟨g, cap, cur, q', _, q3, _⟩
      · rw [q'] at he
        simp [Value.ownBlock] at he
      · rw [q'] at he
        simp [Value.ownBlock] at he
        subst he
        rw [hq] at q3
        injection q3 with q3
        injection q3 with _ q3 _
        exact hu q3
    · exact h.other hq h145 hu (.inr he)
  obtain ⟨vp, e1, e2, _⟩ := h
  exact ⟨vp, (hne _ _ _ e1 (by decide)).trans e1, e2.typed fun k c t' hk hc => hne k c t' hc (by rcases hk with e | e <;> rw [e] <;> decide)⟩

theorem subsCells_snoc (l : List Sub) (s : Sub) : subsCells (l ++ [s]) = subsCells l ++ subCells s := by simp [subsCells]

/-- '(*Node).Join'. -/
def njoin (n : Hw.Node) (id : ByteArray) (theta : Int) : Hw.Node × List Note × Int :=
  if theta < 1 ∨ 60 < theta then (n, [], 1)
  else if (level n id).2 ≠ 0 then (n, [], (level n id).2)
  else if 0 ≤ at? (subIs id theta) n.subs then (n, [], 5)
  else if n.subs.length = 8 then (n, [], 10)
  else ((told { n with subs := n.subs ++ [⟨id, theta, false⟩] }).1, (told { n with subs := n.subs ++ [⟨id, theta, false⟩] }).2, 0)

def JoinPost (b : Nat) (vs : Value) (w : World) (r : Hw.Node × List Note × Int) (e : Ending) (w' : World) : Prop :=
  (∃ vn, e = .returned (.tuple #[vn, .int .i64 r.2.2]) ∧ w'.ownsRow w.heap.size 74 3 vn r.2.1.length (notesCells r.2.1)) ∧ ∃ vs', NodeAt w' b vs' r.1 ∧ VsTo vs vs' w ∧ Touch (NodeS b vs) w w'

def V49 (b : Nat) (vs : Value) (n : Hw.Node) (id : ByteArray) (theta : Int) (w0 : World) (j : Nat) (v : Value) (w : World) : Prop :=
  match j with
  | 0 => v = .pointer (some ⟨b, 0, none⟩)
  | 1 => v = .pointer (some ⟨b, 0, none⟩)
  | 2 => v = .pointer (some ⟨b, 0, none⟩)
  | 3 => v = .pointer (some ⟨b, 9, none⟩)
  | 4 => v = vs
  | 5 => v = .string id
  | 6 => v = .int .i64 theta
  | 7 => v = .agg #[.string id, .int .i64 theta, .bool false]
  | 8 => ∃ x, v = .slice (some ⟨x, 0, none⟩) 1 1 ∧ w.heap[x]? = some (.cells #[.string id, .int .i64 theta, .bool false] 85 (0, 0)) ∧ vs.ownBlock ≠ some x ∧ x ≠ b
  | 9 => w.ownsRow (b + 1) 85 3 v (n.subs.length + 1) (subsCells (n.subs ++ [⟨id, theta, false⟩])) ∧ VsTo vs v w0
  | 10 => v = .pointer (some ⟨b, 0, none⟩)
  | 11 => v = .pointer (some ⟨b, 9, none⟩)
  | _ => True
def V49S : List Nat := [37, 38, 39, 40, 41, 42, 43, 44, 45, 46, 47, 48, 100]
theorem V49S_0 : ∀ j, j < 13 → V49S.getD j 0 ≠ 0 := by decide
theorem V49S_4 : ∀ j, j < 13 → V49S.getD j 0 ≠ 4 := by decide
theorem V49S_5 : ∀ j, j < 13 → V49S.getD j 0 ≠ 5 := by decide
theorem V49S_big : ∀ j, j < 13 → 51 ≤ V49S.getD j 0 → j = 12 := by decide

theorem V49.below {b : Nat} {vs : Value} {n : Hw.Node} {id : ByteArray} {theta : Int} {w0 : World} {j : Nat} {v : Value} {w w' : World} (h : V49 b vs n id theta w0 j v w) (hb : Below w.heap.size w w') : V49 b vs n id theta w0 j v w' := by
  unfold V49 at *
  split at h
  all_goals first
    | exact h
    | (obtain ⟨x, e1, e2, e3⟩ := h; exact ⟨x, e1, (hb.block x (Array.getElem?_eq_some_iff.1 e2).1).trans e2, e3⟩)
    | exact ⟨own_below h.1 hb, h.2⟩

theorem V49.kept {b : Nat} {vs : Value} {n : Hw.Node} {id : ByteArray} {theta : Int} {w0 : World} {j : Nat} {v : Value} {w w' : World} (h : V49 b vs n id theta w0 j v w) (hj : j < 9) (hb : ∀ x, x < w.heap.size → x ≠ b → vs.ownBlock ≠ some x → w'.heap[x]? = w.heap[x]?) : V49 b vs n id theta w0 j v w' := by
  have hjj : j = 0 ∨ j = 1 ∨ j = 2 ∨ j = 3 ∨ j = 4 ∨ j = 5 ∨ j = 6 ∨ j = 7 ∨ j = 8 := by omega
  rcases hjj with rfl | rfl | rfl | rfl | rfl | rfl | rfl | rfl | rfl
  all_goals first
    | exact h
    | (obtain ⟨x, e1, e2, e3, e4⟩ := h; exact ⟨x, e1, (hb x (Array.getElem?_eq_some_iff.1 e2).1 e4 e3).trans e2, e3, e4⟩)

def C49 (b : Nat) (vs : Value) (n : Hw.Node) (id : ByteArray) (theta : Int) (w0 : World) (g h : Nat) (L : Nat → Bool) (w : World) : Prop :=
  (Touch (NodeS b vs) w0 w ∧ w.heap[g]? = some (.cells #[.string id] 9 (0, 0)) ∧ w.heap[h]? = some (.cells #[.int .i64 theta] 3 (0, 0))) ∧
    (L 9 = false → NodeAt w b vs n) ∧ (L 12 = false → NodeB w b vs n) ∧ (L 12 = true → ∃ vs', NodeAt w b vs' { n with subs := n.subs ++ [⟨id, theta, false⟩] } ∧ VsTo vs vs' w0) ∧
    (L 9 = false → L 12 = false) ∧ (L 4 = false → L 12 = false) ∧ (L 8 = false → L 9 = false)

theorem upd_ne {L : Nat → Bool} {i j : Nat} (h : j ≠ i) : upd L i j = L j := by
  unfold upd
  rw [show (j == i) = false by simpa using h]
  rfl
theorem upd_false {L : Nat → Bool} {i j : Nat} (h : upd L i j = false) : L j = false := (Bool.or_eq_false_iff.1 h).2
theorem upd_of {L : Nat → Bool} {i j : Nat} (h : L j = true) : upd L i j = true := by unfold upd; rw [h]; simp

theorem C49.up {b : Nat} {vs : Value} {n : Hw.Node} {id : ByteArray} {theta : Int} {w0 : World} {g h : Nat} {L : Nat → Bool} {w : World} (hC : C49 b vs n id theta w0 g h L w) {i : Nat} (h9 : 9 ≠ i) (h12 : 12 ≠ i) : C49 b vs n id theta w0 g h (upd L i) w := by
  obtain ⟨c1, c2, c3, c4, c5, c6, c7⟩ := hC
  refine ⟨c1, ?_, ?_, ?_, ?_, ?_, ?_⟩
  · rw [upd_ne h9]; exact c2
  · rw [upd_ne h12]; exact c3
  · rw [upd_ne h12]; exact c4
  · rw [upd_ne h9, upd_ne h12]; exact c5
  · rw [upd_ne h12]; exact fun e => c6 (upd_false e)
  · rw [upd_ne h9]; exact fun e => c7 (upd_false e)

theorem C49.below {b : Nat} {vs : Value} {n : Hw.Node} {id : ByteArray} {theta : Int} {w0 : World} {g h : Nat} {L : Nat → Bool} {w w' : World} (hC : C49 b vs n id theta w0 g h L w) (hb : Below w.heap.size w w') : C49 b vs n id theta w0 g h L w' := by
  obtain ⟨⟨c1, c1', c1''⟩, c2, c3, c4, c5⟩ := hC
  refine ⟨⟨c1.trans (Touch.of_below hb), (hb.block g (Array.getElem?_eq_some_iff.1 c1').1).trans c1', (hb.block h (Array.getElem?_eq_some_iff.1 c1'').1).trans c1''⟩, fun e => (c2 e).below hb, fun e => (c3 e).below hb, fun e => ?_, c5⟩
  obtain ⟨v, q1, q2⟩ := c4 e
  exact ⟨v, q1.below hb, q2⟩

/-- Behind the append. -/
theorem C49.grown {b : Nat} {vs : Value} {n : Hw.Node} {id : ByteArray} {theta : Int} {w0 : World} {g h : Nat} {L : Nat → Bool} {w w' : World} (hC : C49 b vs n id theta w0 g h L w) (h9 : L 9 = false) (h8 : L 8 = true) (hg : w.grownBy w' vs.ownBlock) : C49 b vs n id theta w0 g h (upd L 9) w' := by
  obtain ⟨⟨c1, c1', c1''⟩, c2, c3, c4, c5, c6, c7⟩ := hC
  have hn := c2 h9
  have h12 := c5 h9
  have hne : ∀ (q : Nat) (c : Array Value) (u : TypeId), w.heap[q]? = some (.cells c u (0, 0)) → u ≠ 145 → u ≠ 85 → w'.heap[q]? = some (.cells c u (0, 0)) := fun q c u hq h1 h2 => (hg.block q (Array.getElem?_eq_some_iff.1 hq).1 fun e => hn.other hq h1 h2 (.inr e)).trans hq
  have ht : Touch (NodeS b vs) w0 w' := ⟨hg.os.trans c1.os, hg.tape.trans c1.tape, hg.output.trans c1.output, Nat.le_trans c1.size hg.size, fun k hk hs => (hg.block k (Nat.lt_of_lt_of_le hk c1.size) fun e => hs (.inr e)).trans (c1.block k hk hs)⟩
  refine ⟨⟨ht, hne g _ 9 c1' (by decide) (by decide), hne h _ 3 c1'' (by decide) (by decide)⟩, fun e => ?_, fun _ => hn.toBgrown hg, fun e => ?_, fun e => ?_, fun e => ?_, fun e => ?_⟩
  · simp [upd] at e
  · rw [upd_ne (by decide), h12] at e
    cases e
  · simp [upd] at e
  · rw [upd_ne (by decide)]
    exact h12
  · have := upd_false e
    rw [h8] at this
    cases this

/-- Behind the store. -/
theorem C49.stored {b : Nat} {vs v : Value} {n : Hw.Node} {id : ByteArray} {theta : Int} {w0 : World} {g h : Nat} {L : Nat → Bool} {w : World} (hC : C49 b vs n id theta w0 g h L w) (h12 : L 12 = false) (h9 : L 9 = true) (h4 : L 4 = true)
    (ho : w.ownsRow (b + 1) 85 3 v (n.subs.length + 1) (subsCells (n.subs ++ [⟨id, theta, false⟩]))) (hv : VsTo vs v w0) : C49 b vs n id theta w0 g h (upd L 12) (w.setCell ⟨b, 9, none⟩ v) := by
  obtain ⟨⟨c1, c1', c1''⟩, c2, c3, c4, c5, c6, c7⟩ := hC
  have hB := c3 h12
  obtain ⟨vp, q1, q2⟩ := hB
  have ht := set_typed (j := 9) v q1
  refine ⟨⟨c1.setCell (a := ⟨b, 9, none⟩) (.inl rfl) _, (ht g _ 9 (by decide) c1').trans c1', (ht h _ 3 (by decide) c1'').trans c1''⟩, fun e => ?_, fun e => ?_, fun _ => ⟨v, ?_, hv⟩, fun e => ?_, fun e => ?_, fun e => ?_⟩
  · have := upd_false e
    rw [h9] at this
    cases this
  · simp [upd] at e
  · refine NodeB.put ⟨vp, q1, q2⟩ ?_
    rw [List.length_append, List.length_singleton]
    exact ho
  · have := upd_false e
    rw [h9] at this
    cases this
  · have := upd_false e
    rw [h4] at this
    cases this
  · rw [upd_ne (by decide)]
    exact c7 (upd_false e)

end Go.Proofs.Ytmclalhjnjghnaa

namespace Go.Proofs.Ytmclalhjnjghnaa
open Go.RowKit Hw

set_option maxRecDepth 100000 in
set_option maxHeartbeats 2000000 in
theorem njoin_any (b : Nat) (vs : Value) (n : Hw.Node) (id : ByteArray) (theta : Int) (w : World) (h : NodeAt w b vs n) (hlv : NodeLv n) (h8 : n.subs.length ≤ 8) :
    Calls Try.prog 49 #[.pointer (some ⟨b, 0, none⟩), .string id, .int .i64 theta] w (JoinPost b vs w (njoin n id theta)) := by
  obtain ⟨i0, hi0, hz0, hz1, hz2⟩ := info_parts info85
  have HN := Lib.hid h
  have HL := Lib.hid hlv
  obtain ⟨A, c, evs, hsr⟩ := h.sub
  obtain ⟨A1, d1, -, -, -, -, -, -, -, -, -, c9, -, -, hf⟩ := h.cells
  have f9 := hf 9
  rw [evs] at c9
  have Hsr := Lib.hid hsr
  have Hevs := Lib.hid evs
  have hbl := h.lt
  clear h hlv hsr evs hf
  have hb2 := ((Below.refl w.heap.size w).alloc (Nat.le_refl _) (.cells #[.string id] 9)).alloc (by simp) (.cells #[.int .i64 theta] 3)
  have g0 := heap_alloc2_old w (.cells #[.string id] 9) (.cells #[.int .i64 theta] 3)
  have g1 := heap_alloc2_new w (.cells #[.string id] 9) (.cells #[.int .i64 theta] 3)
  have HB2 := Lib.hid hb2
  have G0 := Lib.hid g0
  have G1 := Lib.hid g1
  clear hb2 g0 g1
  by_cases ht : theta < 1 ∨ 60 < theta
  · have hr : njoin n id theta = (n, [], 1) := by unfold njoin; rw [if_pos ht]
    have Hr := Lib.hid hr
    clear hr
    rcases ht with ht | ht
    all_goals
      go_enter Try.func49, Try.ntmps49
      go_wp2_with fail
      go_ret2
      unfold JoinPost
      rw [Hr.out]
      exact ⟨⟨_, rfl, World.ownsRow_nil _ _ _ _⟩, vs, HN.out.below HB2.out, VsTo.refl _ _, Touch.of_below HB2.out⟩
  · have ht1 : ¬ theta < 1 := fun e => ht (.inl e)
    have ht2 : ¬ 60 < theta := fun e => ht (.inr e)
    obtain ⟨lv, hlv⟩ : ∃ lv, level n id = lv := ⟨_, rfl⟩
    obtain ⟨k, e⟩ := lv
    have Hlv := Lib.hid hlv
    by_cases he : e ≠ 0
    · have hr : njoin n id theta = (n, [], e) := by unfold njoin; rw [if_neg ht, hlv, if_pos he]
      have Hr := Lib.hid hr
      have heb : (e != 0) = true := by simpa using he
      clear hr hlv he ht
      go_enter Try.func49, Try.ntmps49
      go_wp2_with (first | (go_at_call 44; refine (nlevel_any b vs n id _ (HN.out.below HB2.out) HL.out).mono ?_; rintro e1 w1 ⟨rfl, hb1⟩; rw [Hlv.out]; have Hb1 := Lib.hid (HB2.out.trans (hb1.mono HB2.out.size)); clear hb1) | fail)
      go_ret2
      unfold JoinPost
      rw [Hr.out]
      exact ⟨⟨_, rfl, World.ownsRow_nil _ _ _ _⟩, vs, HN.out.below Hb1.out, VsTo.refl _ _, Touch.of_below Hb1.out⟩
    · have he0 : e = 0 := by simpa using he
      subst he0
      obtain ⟨z, hz⟩ : ∃ z, at? (subIs id theta) n.subs = z := ⟨_, rfl⟩
      have Hz := Lib.hid hz
      by_cases hc : 0 ≤ z
      · have hr : njoin n id theta = (n, [], 5) := by unfold njoin; rw [if_neg ht, hlv, if_neg (by simp), hz, if_pos hc]
        have Hr := Lib.hid hr
        clear hr hlv hz ht he
        go_enter Try.func49, Try.ntmps49
        go_wp2_with (first
          | (go_at_call 44; refine (nlevel_any b vs n id _ (HN.out.below HB2.out) HL.out).mono ?_; rintro e1 w1 ⟨rfl, hb1⟩; rw [Hlv.out]; have Hb1 := Lib.hid (HB2.out.trans (hb1.mono HB2.out.size)); have c9 := bsome Hb1.out c9; have p0 := bsome hb1 (cell_of_row _ _ 0 _ 9 (0, 0) G0.out); have p1 := bsome hb1 (cell_of_row _ _ 0 _ 3 (0, 0) G1.out); clear hb1)
          | (go_at_call 59; refine (contains106_any A c n.subs id theta _ _ _ (Hsr.out.below Hb1.out) h8 p0 p1).mono ?_; rintro e2 w2 ⟨rfl, hb2⟩; rw [Hz.out]; have Hb2 := Lib.hid (Hb1.out.trans (hb2.mono Hb1.out.size)); clear hb2)
          | fail)
        go_ret2
        unfold JoinPost
        rw [Hr.out]
        exact ⟨⟨_, rfl, World.ownsRow_nil _ _ _ _⟩, vs, HN.out.below Hb2.out, VsTo.refl _ _, Touch.of_below Hb2.out⟩
      · by_cases hfull : n.subs.length = 8
        · have hr : njoin n id theta = (n, [], 10) := by unfold njoin; rw [if_neg ht, hlv, if_neg (by simp), hz, if_neg hc, if_pos hfull]
          have Hr := Lib.hid hr
          have hfi : ((n.subs.length : Int) == 8) = true := by simp; omega
          clear hr hlv hz ht he hfull
          go_enter Try.func49, Try.ntmps49
          go_wp2_with (first
            | (go_at_call 44; refine (nlevel_any b vs n id _ (HN.out.below HB2.out) HL.out).mono ?_; rintro e1 w1 ⟨rfl, hb1⟩; rw [Hlv.out]; have Hb1 := Lib.hid (HB2.out.trans (hb1.mono HB2.out.size)); have c9 := bsome Hb1.out c9; have p0 := bsome hb1 (cell_of_row _ _ 0 _ 9 (0, 0) G0.out); have p1 := bsome hb1 (cell_of_row _ _ 0 _ 3 (0, 0) G1.out); clear hb1)
            | (go_at_call 59; refine (contains106_any A c n.subs id theta _ _ _ (Hsr.out.below Hb1.out) h8 p0 p1).mono ?_; rintro e2 w2 ⟨rfl, hb2⟩; rw [Hz.out]; have c9 := bsome hb2 c9; have Hb2 := Lib.hid (Hb1.out.trans (hb2.mono Hb1.out.size)); clear hb2)
            | fail)
          go_ret2
          unfold JoinPost
          rw [Hr.out]
          exact ⟨⟨_, rfl, World.ownsRow_nil _ _ _ _⟩, vs, HN.out.below Hb2.out, VsTo.refl _ _, Touch.of_below Hb2.out⟩
        · have hr : njoin n id theta = ((told { n with subs := n.subs ++ [⟨id, theta, false⟩] }).1, (told { n with subs := n.subs ++ [⟨id, theta, false⟩] }).2, 0) := by unfold njoin; rw [if_neg ht, hlv, if_neg (by simp), hz, if_neg hc, if_neg hfull]
          have Hr := Lib.hid hr
          have hfi : ¬ (n.subs.length : Int) = 8 := by omega
          clear hr hlv hz ht he
          go_enter Try.func49, Try.ntmps49
          go_wp2_with (first
            | (go_at_call 44; refine (nlevel_any b vs n id _ (HN.out.below HB2.out) HL.out).mono ?_; rintro e1 w1 ⟨rfl, hb1⟩; rw [Hlv.out]; have Hb1 := Lib.hid (HB2.out.trans (hb1.mono HB2.out.size)); have c9 := bsome Hb1.out c9; have p0 := bsome hb1 (cell_of_row _ _ 0 _ 9 (0, 0) G0.out); have p1 := bsome hb1 (cell_of_row _ _ 0 _ 3 (0, 0) G1.out); have G0 := Lib.hid ((hb1.block _ (Array.getElem?_eq_some_iff.1 G0.out).1).trans G0.out); have G1 := Lib.hid ((hb1.block _ (Array.getElem?_eq_some_iff.1 G1.out).1).trans G1.out); clear hb1)
            | (go_at_call 59; refine (contains106_any A c n.subs id theta _ _ _ (Hsr.out.below Hb1.out) h8 p0 p1).mono ?_; rintro e2 w2 ⟨rfl, hb2⟩; rw [Hz.out]; have c9 := bsome hb2 c9; have G0 := Lib.hid ((hb2.block _ (Array.getElem?_eq_some_iff.1 G0.out).1).trans G0.out); have G1 := Lib.hid ((hb2.block _ (Array.getElem?_eq_some_iff.1 G1.out).1).trans G1.out); have Hb2 := Lib.hid (Hb1.out.trans (hb2.mono Hb1.out.size)); clear hb2)
            | fail)
          clear c9 p0 p1 f9
          refine wp_region_inv (V49 b vs n id theta w) (C49 b vs n id theta w w.heap.size (w.heap.size + 1)) V49S (by kernel_rfl) (by rfl) (by kernel_rfl)
            (fun i hi hn v w => by rw [V49S_big i hi hn]; trivial) ?hc ?hs ?hd
          case hc => exact ⟨⟨Touch.of_below (below_drewN Hb2.out 1), G0.out, G1.out⟩, fun _ => HN.out.below (below_drewN Hb2.out 1), fun _ => (HN.out.below (below_drewN Hb2.out 1)).toB, fun e => (by cases (show false = true from e)), fun _ => rfl, fun _ => rfl, fun _ => rfl⟩
          case hs =>
            iterate 8 (refine AllOps.cons ?_ ?_; focus (
              intro L a wx hLi hC hk hv K hK
              have h0 := hk 0 (fun j hj _ => V49S_0 j hj)
              have h4 := hk 4 (fun j hj _ => V49S_4 j hj)
              have h5 := hk 5 (fun j hj _ => V49S_5 j hj)
              have p0 := cell_of_row wx w.heap.size 0 _ 9 (0, 0) hC.1.2.1
              have p1 := cell_of_row wx (w.heap.size + 1) 0 _ 3 (0, 0) hC.1.2.2
              simp at p0 p1
              have HC := Lib.hid hC
              have HLi := Lib.hid hLi
              clear hk hC
              simp [Region.binds, V49, V49S] at hv h0 h4 h5
              first
                | (go_simp; exact hK _ _ (HC.out.up (by decide) (by decide)) (fun _ _ _ _ h => h) rfl)
                | (have p9 := (HC.out.2.2.1 (HC.out.2.2.2.2.2.1 HLi.out)).cell.1; go_simp; exact hK _ _ (HC.out.up (by decide) (by decide)) (fun _ _ _ _ h => h) rfl)))
            refine AllOps.cons ?_ ?_
            focus
              intro L a wx hLi hC hk hv K hK
              have hn := hC.2.1 (hC.2.2.2.2.2.2 hLi)
              have hbx : Below wx.heap.size wx (wx.alloc (.cells #[.string id, .int .i64 theta, .bool false] 85)) := (Below.refl _ _).alloc (Nat.le_refl _) _
              have HC := Lib.hid hC
              have Hn := Lib.hid hn
              have HB := Lib.hid hbx
              clear hk hC hn hbx
              simp [Region.binds, V49, V49S] at hv
              go_simp
              refine hK _ _ ((HC.out.below HB.out).up (by decide) (by decide)) (fun _ _ _ _ h => h.below HB.out) ⟨_, rfl, heap_alloc_new _ _, fun e => ?_, fun e => ?_⟩
              · obtain ⟨vp, -, -, e3⟩ := Hn.out
                have := (e3.lt _ e).2
                omega
              · have := Hn.out.lt
                omega
            refine AllOps.cons ?_ ?_
            focus
              intro L a wx hLi hC hk hv K hK
              have hn := hC.2.1 hLi
              have HC := Lib.hid hC
              obtain ⟨vp, -, -, ho⟩ := hn
              have HO := Lib.hid ho
              clear hk hC ho
              simp [Region.binds, V49, V49S] at hv
              obtain ⟨⟨hL4, hv4⟩, hL8, x, hx1, hx2, hx3, hx4⟩ := hv
              have HK := Lib.hid hK
              clear hK
              refine oper_append_own (.tmp 41) (.tmp 45) 82 (by rfl) (b + 1) 85 i0 _ 3 32 Try.underlying82 hi0 hz0 hz1 hz2 rfl (by omega) vs n.subs.length _ (by simpa [Act.eval] using hv4) (by exact HO.out) ⟨x, 0, none⟩ 1 1 [.string id, .int .i64 theta, .bool false] (by simpa [Act.eval] using hx1) rfl ?b1 ?b2 ?b3 ?b4 ?b5 ?_
              case b1 =>
                intro j u hu
                rw [add_lit, Nat.zero_add, cell_of_row _ _ _ _ _ _ hx2]
                simpa using hu
              case b2 => simp [Value.oneCell']
              case b3 => simp only [maxLen]; omega
              case b4 => omega
              case b5 => have := HC.out.1.1.size; omega
              intro v9 w9 ho9 hg9 _ hb9
              refine HK.out v9 w9 (HC.out.grown hLi hL8 hg9) (fun j u hjl hj hu => ?_) ⟨by rw [subsCells_snoc]; exact ho9, fun q hq => ?_⟩
              · have hjl : j < 13 := hjl
                by_cases h9 : j < 9
                · exact hu.kept h9 fun y hy _ hyv => hg9.block y hy (Ne.symm hyv)
                · by_cases e9 : j = 9
                  · rw [e9, hLi] at hj
                    cases hj
                  · have hjj : j = 10 ∨ j = 11 ∨ j = 12 := by omega
                    rcases hjj with rfl | rfl | rfl <;> exact hu
              · rcases hb9 with e | e
                · exact .inl (by rw [← e]; exact hq)
                · rw [e] at hq
                  injection hq with hq
                  subst hq
                  exact .inr HC.out.1.1.size
            iterate 2 (refine AllOps.cons ?_ ?_; focus (
              intro L a wx hLi hC hk hv K hK
              have h0 := hk 0 (fun j hj _ => V49S_0 j hj)
              have HC := Lib.hid hC
              clear hk hC
              simp [Region.binds, V49, V49S] at hv h0
              go_simp
              exact hK _ _ (HC.out.up (by decide) (by decide)) (fun _ _ _ _ h => h) rfl))
            refine AllOps.cons ?_ ?_
            focus
              intro L a wx hLi hC hk hv K hK
              have hB := hC.2.2.1 hLi
              have HC := Lib.hid hC
              obtain ⟨q9, qf⟩ := hB.cell
              have HB := Lib.hid hB
              clear hk hC hB
              simp [Region.binds, V49, V49S] at hv
              obtain ⟨⟨-, h48⟩, ⟨l9, ho, hvt⟩, -, -, -, -, ⟨l4, -⟩, -⟩ := hv
              obtain ⟨Ax, cx, ex, -⟩ := own_form ho
              rw [ex] at ho hvt
              have HO := Lib.hid ho
              have HV := Lib.hid hvt
              have HK := Lib.hid hK
              clear ho hvt hK
              go_simp
              refine HK.out undef _ (HC.out.stored hLi l9 l4 HO.out HV.out) (fun j u hjl hj hu => ?_) trivial
              have hjl : j < 13 := hjl
              by_cases h9 : j < 9
              · exact hu.kept h9 fun y _ hyb _ => heap_setCell_other _ _ _ _ (fun e => hyb e)
              · by_cases e9 : j = 9
                · subst e9
                  exact ⟨ownsRow_setCell_below (a := ⟨b, 9, none⟩) hu.1 (Nat.lt_succ_self b) _, hu.2⟩
                · have hjj : j = 10 ∨ j = 11 ∨ j = 12 := by omega
                  rcases hjj with rfl | rfl | rfl <;> exact hu
            exact AllOps.nil
          case hd =>
            intro us L w2 hL hC hv
            have hcc := hC.2.2.2.1 (hL 12 (by decide))
            have HT := Lib.hid hC.1.1
            obtain ⟨vs', hn', hv'⟩ := hcc
            have Hn' := Lib.hid hn'
            have Hv' := Lib.hid hv'
            have e0 : us 0 = .pointer (some ⟨b, 0, none⟩) := hv 0 (by decide)
            simp only [setAll, V49S, List.setIfInBounds_toArray, List.set_cons_zero, List.set_cons_succ]
            clear hv hC hL hn' hv'
            go_wp2_with (first | (go_at_call 95; refine (told_any b vs' { n with subs := n.subs ++ [⟨id, theta, false⟩] } _ Hn'.out HL.out (by simp; omega)).mono ?_; rintro e3 w3 ⟨⟨vn, rfl, ho3⟩, hn3, ht3⟩; have Ho3 := Lib.hid (own_base ho3 HT.out.size); have Hn3 := Lib.hid hn3; have Ht3 := Lib.hid (HT.out.vs Hv'.out ht3); obtain ⟨A3, d3, rfl, -⟩ := own_form ho3; clear ho3 hn3 ht3) | fail)
            go_ret2
            unfold JoinPost
            rw [Hr.out]
            exact ⟨⟨_, rfl, Ho3.out⟩, vs', Hn3.out, Hv'.out, Ht3.out⟩

end Go.Proofs.Ytmclalhjnjghnaa

namespace Go.Proofs.Ytmclalhjnjghnaa
open Go.RowKit Hw

theorem subsCells_one (l : List Sub) : ∀ u ∈ subsCells l, u.oneCell' = true := by
  intro u hu
  obtain ⟨s, -, hs⟩ := List.mem_flatMap.1 hu
  simp only [subCells, List.mem_cons, List.not_mem_nil, or_false] at hs
  rcases hs with rfl | rfl | rfl <;> rfl

theorem subsCells_app (l t : List Sub) : subsCells (l ++ t) = subsCells l ++ subsCells t := by simp [subsCells]

theorem subsCells_split (l : List Sub) (i : Nat) : subsCells l = subsCells (l.take i) ++ subsCells (l.drop i) := by
  rw [← subsCells_app, List.take_append_drop]

theorem subsCells_take (l : List Sub) (i : Nat) (hi : i ≤ l.length) : subsCells (l.take i) = (subsCells l).take (i * 3) := by
  rw [subsCells_split l i, List.take_append_of_le_length (by rw [subsCells_len, List.length_take]; omega), List.take_of_length_le (l := subsCells (l.take i)) (by rw [subsCells_len, List.length_take]; omega)]

theorem subsCells_drop (l : List Sub) (i : Nat) (hi : i ≤ l.length) : subsCells (l.drop i) = (subsCells l).drop (i * 3) := by
  rw [subsCells_split l i, List.drop_append_of_le_length (by rw [subsCells_len, List.length_take]; omega), List.drop_of_length_le (l := subsCells (l.take i)) (by rw [subsCells_len, List.length_take]; omega), List.nil_append]

theorem delSub_any (A : Option Addr) (c : Nat) (l : List Sub) (i B : Nat) (w : World) (h : w.ownsRow B 85 3 (.slice A l.length c) l.length (subsCells l)) (hi : i < l.length) :
    Calls Try.prog 109 #[.slice A l.length c, .int .i64 i, .int .i64 (i + 1)] w
      fun e w' => (∃ v, e = .returned v ∧ w'.ownsRow B 85 3 v (l.eraseIdx i).length (subsCells (l.eraseIdx i)) ∧ v.ownBlock = A.map (·.block)) ∧ w.grownBy w' (A.map (·.block)) := by
  have h0 := h
  rcases h.2 with ⟨_, e2⟩ | ⟨g, cap, cur, e, hBg, hg, hnc, hcm, hcs, htake⟩
  · omega
  · injection e with e1 _ e3
    subst e1 e3
    have hxs : (cur.toList.drop ((i + 1) * 3)).take ((l.length - (i + 1)) * 3) = (subsCells l).drop ((i + 1) * 3) := by
      rw [← htake, List.drop_take]
      congr 1
      omega
    have hx1 : ∀ u ∈ (cur.toList.drop ((i + 1) * 3)).take ((l.length - (i + 1)) * 3), u.oneCell' = true := by
      rw [hxs]
      intro u hu
      exact subsCells_one l u (List.mem_of_mem_drop hu)
    have ht1 : cur.toList.take (i * 3) = (subsCells l).take (i * 3) := by
      rw [← htake, List.take_take]
      congr 1
      omega
    have hlen : (l.eraseIdx i).length = l.length - 1 := by rw [List.length_eraseIdx, if_pos hi]
    refine (delSub_cells g c l.length i cur w hg hcs hnc hcm hi hx1).mono ?_
    rintro e w' ⟨⟨cur', rfl, q1, q2, q3⟩, q4⟩
    refine ⟨⟨_, rfl, ⟨?_, .inr ⟨g, c, cur', by rw [hlen], hBg, q1, by omega, hcm, q2, ?_⟩⟩, rfl⟩, q4⟩
    · rw [subsCells_len]
    · rw [hlen, q3, ht1, hxs, eraseIdx_td, subsCells_app, subsCells_take _ _ (by omega), subsCells_drop _ _ (by omega)]

set_option maxRecDepth 100000 in
theorem clonesubs_any (A : Option Addr) (c B : Nat) (l : List Sub) (w : World) (h : w.ownsRow B 85 3 (.slice A l.length c) l.length (subsCells l)) (hl : l.length ≤ 8) :
    Calls Try.prog 103 #[.slice A l.length c] w fun e w' => (∃ v, e = .returned v ∧ w'.ownsRow w.heap.size 85 3 v l.length (subsCells l)) ∧ Below w.heap.size w w' := by
  obtain ⟨i0, hi0, hz0, hz1, hz2⟩ := info_parts info85
  have hnil := fun (W : World) (a : Option Addr) (n c : Nat) => Lib.run_eql_slice_nil (P := Try.prog) W 82 85 a n c 0 0 Try.underlying82
  rcases A with _ | ad
  · have hl0 : l = [] := by
      rcases h.2 with ⟨_, e2⟩ | ⟨g, cap, cur, e, _⟩
      · exact List.length_eq_zero_iff.1 e2
      · cases e
    subst hl0
    go_enter Try.func103, Try.ntmps103
    go_wp2_with fail
    go_ret
    exact ⟨⟨_, rfl, World.ownsRow_nil _ _ _ _⟩, Below.refl _ _⟩
  · have hn : ∀ j u, (subsCells l)[j]? = some u → w.cell? (ad.add j) = some u := by
      rcases h.2 with ⟨e1, e2⟩ | ⟨g, cap, cur, e, _⟩
      · cases e1
      · injection e with e1 _ _
        injection e1 with e1
        subst e1
        exact fun j u hu => h.cells (g := g) rfl j u hu
    have Hn := Lib.hid hn
    clear h hn
    go_enter Try.func103, Try.ntmps103
    go_wp2_with ((at_builtin; refine wpList_append_own _ rfl (.tmp 5) (.tmp 6) 82 rfl w.heap.size 85 i0 _ 3 32 Try.underlying82 hi0 hz0 hz1 hz2 rfl (by omega) (.slice (some ⟨w.heap.size, 0, none⟩) 0 0) 0 [] rfl (World.ownsRow_made w #[] 0 (Nat.le_refl _) (by simp) rfl) ad l.length c (subsCells l) rfl (subsCells_len l) (news_below ((Below.refl _ _).alloc (Nat.le_refl _) _) Hn.out) (subsCells_one l) (by simp only [maxLen]; omega) (by omega) (by simp) ?_; intro v' w1 hown hgrow _))
    go_ret
    exact ⟨⟨_, rfl, by simpa using hown⟩, ((Below.refl _ _).alloc (Nat.le_refl _) _).grown hgrow (by simp) (by simp [Value.ownBlock])⟩

set_option maxRecDepth 100000 in
theorem nsubs_any (b : Nat) (vs : Value) (n : Hw.Node) (w : World) (h : NodeAt w b vs n) (h8 : n.subs.length ≤ 8) : Calls Try.prog 45 #[.pointer (some ⟨b, 0, none⟩)] w fun e w' => (∃ v, e = .returned v ∧ w'.ownsRow w.heap.size 85 3 v n.subs.length (subsCells n.subs)) ∧ Below w.heap.size w w' := by
  obtain ⟨A1, d1, -, -, -, -, -, -, -, -, -, c9, -, -, -⟩ := h.cells
  obtain ⟨vp, -, -, e3⟩ := h
  obtain ⟨A, c, rfl, -⟩ := own_form e3
  have H3 := Lib.hid e3
  clear e3
  go_enter Try.func45, Try.ntmps45
  go_wp2_with (go_at_call 103; refine (clonesubs_any A c _ n.subs _ H3.out h8).mono ?_; rintro e w1 ⟨⟨v, rfl, ho⟩, hb1⟩; have HO := Lib.hid ho; have HB := Lib.hid hb1; clear ho hb1)
  go_ret
  exact ⟨⟨_, rfl, HO.out⟩, HB.out⟩

set_option maxRecDepth 100000 in
theorem npeers_any (b : Nat) (vs : Value) (n : Hw.Node) (w : World) (h : NodeAt w b vs n) (hl : n.peers.length ≤ 6) (hv : ∀ (k : Nat) (p : Peer), n.peers[k]? = some p → p.vals.length ≤ 64) :
    Calls Try.prog 46 #[.pointer (some ⟨b, 0, none⟩)] w fun e w' => (∃ v, e = .returned v ∧ OwnP w' w.heap.size v n.peers) ∧ Below w.heap.size w w' := by
  obtain ⟨A, c, -, -, -, -, -, -, -, -, c8, -, hp, -, -⟩ := h.cells
  have Hp := Lib.hid hp
  have Hv := Lib.hid hv
  clear h hp hv
  go_enter Try.func46, Try.ntmps46
  go_wp2_with (go_at_call 87; refine (copied_any A c n.peers _ Hp.out hl Hv.out).mono ?_; rintro e w1 ⟨⟨v, rfl, ho⟩, hb1⟩; have HO := Lib.hid ho; have HB := Lib.hid hb1; clear ho hb1)
  go_ret
  exact ⟨⟨_, rfl, HO.out⟩, HB.out⟩

/-- '(*Node).Part'. -/
def npart (n : Hw.Node) (id : ByteArray) (theta : Int) : Hw.Node × Int :=
  if at? (subIs id theta) n.subs < 0 then (n, 4) else ({ n with subs := n.subs.eraseIdx (at? (subIs id theta) n.subs).toNat }, 0)

set_option maxRecDepth 100000 in
set_option maxHeartbeats 1000000 in
theorem npart_any (b : Nat) (vs : Value) (n : Hw.Node) (id : ByteArray) (theta : Int) (w : World) (h : NodeAt w b vs n) (h8 : n.subs.length ≤ 8) :
    Calls Try.prog 51 #[.pointer (some ⟨b, 0, none⟩), .string id, .int .i64 theta] w fun e w' => e = .returned (.int .i64 (npart n id theta).2) ∧ ∃ vs', NodeAt w' b vs' (npart n id theta).1 ∧ VsTo vs vs' w ∧ Touch (NodeS b vs) w w' := by
  have HN := Lib.hid h
  obtain ⟨A, c, evs, hsr⟩ := h.sub
  obtain ⟨A1, d1, -, -, -, -, -, -, -, -, -, c9, -, -, hf⟩ := h.cells
  rw [evs] at c9
  have Hsr := Lib.hid hsr
  have Hevs := Lib.hid evs
  have HF := Lib.hid hf
  have hbl := h.lt
  have hvsb : vs.ownBlock = A.map (·.block) := by
    rw [evs]
    cases A <;> rfl
  have Hvsb := Lib.hid hvsb
  clear h hsr evs hf hvsb
  have hb2 := ((Below.refl w.heap.size w).alloc (Nat.le_refl _) (.cells #[.string id] 9)).alloc (by simp) (.cells #[.int .i64 theta] 3)
  have g0 := heap_alloc2_old w (.cells #[.string id] 9) (.cells #[.int .i64 theta] 3)
  have g1 := heap_alloc2_new w (.cells #[.string id] 9) (.cells #[.int .i64 theta] 3)
  have HB2 := Lib.hid hb2
  have HP0 := Lib.hid (cell_of_row _ _ 0 _ 9 (0, 0) g0)
  have HP1 := Lib.hid (cell_of_row _ _ 0 _ 3 (0, 0) g1)
  clear hb2 g0 g1
  rcases at_cases (subIs id theta) n.subs with ⟨ha, -⟩ | ⟨k, hk, ha, -, -⟩
  · have hr : npart n id theta = (n, 4) := by unfold npart; rw [ha, if_pos (by decide)]
    have Hr := Lib.hid hr
    have Ha := Lib.hid ha
    clear hr ha
    go_enter Try.func51, Try.ntmps51
    go_wp2_with (go_at_call 107; refine (index108_any A c n.subs id theta _ _ _ (Hsr.out.below HB2.out) h8 HP0.out HP1.out).mono ?_; rintro e w1 ⟨rfl, hb1⟩; rw [Ha.out]; have Hb1 := Lib.hid (HB2.out.trans (hb1.mono HB2.out.size)); clear hb1)
    go_ret
    rw [Hr.out]
    exact ⟨rfl, vs, HN.out.below Hb1.out, VsTo.refl _ _, Touch.of_below Hb1.out⟩
  · have hr : npart n id theta = ({ n with subs := n.subs.eraseIdx k }, 0) := by unfold npart; rw [ha, if_neg (by omega)]; rfl
    have Hr := Lib.hid hr
    have Ha := Lib.hid ha
    have hk0 : ¬ (k : Int) < 0 := by omega
    have hkw : IntKind.i64.wrap ((k : Int) + 1) = (k : Int) + 1 := IntWalk.i64_in _ (by omega)
    clear hr ha
    go_enter Try.func51, Try.ntmps51
    go_wp2_with (first
      | (go_at_call 107; refine (index108_any A c n.subs id theta _ _ _ (Hsr.out.below HB2.out) h8 HP0.out HP1.out).mono ?_; rintro e w1 ⟨rfl, hb1⟩; rw [Ha.out]; have Hb1 := Lib.hid (HB2.out.trans (hb1.mono HB2.out.size)); have c9 := bsome Hb1.out c9; clear hb1)
      | (go_at_call 109; refine (delSub_any A c n.subs k (b + 1) _ (by have := HN.out.below Hb1.out; rw [Hevs.out] at this; obtain ⟨_, _, _, e3⟩ := this; exact e3) hk).mono ?_; rintro e w2 ⟨⟨v2, rfl, ho2, hv2⟩, hg2⟩; obtain ⟨A2, c2, rfl, -⟩ := own_form ho2; rw [← Hvsb.out] at hg2; have hB := (HN.out.below Hb1.out).toBgrown hg2; have f9 := hB.cell.2; have q9 := hB.cell.1; have hbl2 := blt hB.cell.1; have HBB := Lib.hid hB; have HO2 := Lib.hid ho2; have HV2 := Lib.hid hv2; have HG2 := Lib.hid hg2; clear hB ho2 hv2 hg2)
      | fail)
    go_ret
    rw [Hr.out]
    have hts : Touch (NodeS b vs) w w2 := by
      have h1 : Touch (NodeS b vs) w w1 := Touch.of_below Hb1.out
      have hg := HG2.out
      exact ⟨hg.os.trans h1.os, hg.tape.trans h1.tape, hg.output.trans h1.output, Nat.le_trans h1.size hg.size, fun q hq hn => (hg.block q (Nat.lt_of_lt_of_le hq h1.size) fun e => hn (.inr e)).trans (h1.block q hq hn)⟩
    refine ⟨rfl, _, HBB.out.put HO2.out, fun q hq => .inl ?_, hts.setCell (a := ⟨b, 9, none⟩) (.inl rfl) _⟩
    rw [hq, HV2.out, Hvsb.out]

end Go.Proofs.Ytmclalhjnjghnaa

namespace Go.Proofs.Ytmclalhjnjghnaa
open Go.RowKit Hw

theorem told_none {n : Hw.Node} (h : n.subs = []) : told n = (n, []) := by
  obtain ⟨c, now, seq, drops, peers, subs⟩ := n
  simp only at h
  subst h
  rfl

set_option maxRecDepth 100000 in
theorem told0_any (b : Nat) (vs : Value) (n : Hw.Node) (w : World) (h : NodeAt w b vs n) (hs : n.subs = []) : Calls Try.prog 95 #[.pointer (some ⟨b, 0, none⟩)] w (ToldPost b vs n w) := by
  have HN := Lib.hid h
  have hb := h
  obtain ⟨vp, -, -, ho⟩ := hb
  obtain ⟨A, c, -, -, -, -, -, -, -, -, -, c9, -, -, -⟩ := h.cells
  rw [hs] at ho
  obtain ⟨A9, d9, rfl, -⟩ := own_form ho
  have Hs := Lib.hid hs
  clear h ho hs
  go_enter Try.func95, Try.ntmps95
  go_wp2_with fail
  go_loopw [3, 4, 14] (fun v _ i wr => i = .int .i64 0 ∧ v = .slice none 0 0 ∧ Hid (wr = w)) (fun _ _ _ _ => 0)
  case atStart => exact ⟨rfl, rfl, rfl⟩
  case round =>
    obtain ⟨rfl, rfl, hw⟩ := hrel
    obtain rfl := hw.out
    go_wp2_with fail
    go_ret
    unfold ToldPost
    rw [told_none Hs.out]
    exact ⟨⟨_, rfl, World.ownsRow_nil _ _ _ _⟩, HN.out, Touch.refl _ _⟩

theorem watch_subs (n : Hw.Node) (id : ByteArray) (e : Int) : (watch n id e).1.subs = n.subs ∧ (watch n id e).1.c = n.c ∧ (watch n id e).1.now = n.now ∧ (watch n id e).1.seq = n.seq ∧ (watch n id e).1.drops = n.drops := by
  unfold watch
  split
  · exact ⟨rfl, rfl, rfl, rfl, rfl⟩
  · split <;> exact ⟨rfl, rfl, rfl, rfl, rfl⟩

theorem ticked_subs (n : Hw.Node) (t : Int) : (ticked n t).subs = n.subs := rfl

theorem tick0_any (b : Nat) (vs : Value) (n : Hw.Node) (t : Int) (w : World) (h : NodeAt w b vs n) (hok : NodeOk n) (hs : n.subs = []) : Calls Try.prog 31 #[.pointer (some ⟨b, 0, none⟩), .int .i64 t] w (TickPost b vs n t w) :=
  tick_any b vs n t w h hok fun w' h' => told0_any b vs _ w' h' hs

theorem tick_err0 {n : Hw.Node} {t : Int} (h1 : 1 ≤ t) (h2 : t ≤ 1073741824) (h3 : n.now + t ≤ 1073741824) (h4 : t / n.c.every < 64) (hs : n.subs = []) : tick n t = (ticked n t, texts n (beats n t), [], 0) := by
  unfold tick
  rw [if_neg (by omega), if_neg (by omega), told_none (n := ticked n t) hs]

def begunConf : Config := ⟨ByteArray.mk #[97], 0, 5, 3, 1⟩

set_option maxRecDepth 100000 in
set_option maxHeartbeats 1000000 in
theorem nodebegun_any (w : World) : Calls Try.prog 28 #[] w fun e w' => e = .returned (.bool true) ∧ Below w.heap.size w w' := by
  have hc : configCheck begunConf = 0 := by decide +kernel
  have hok : NodeOk (newNode begunConf) := by unfold NodeOk newNode begunConf; decide
  have hb : beats (newNode begunConf) 12 = 2 := by decide +kernel
  have ht : tick (newNode begunConf) 12 = (ticked (newNode begunConf) 12, texts (newNode begunConf) 2, [], 0) := by
    rw [tick_err0 (by decide) (by decide) (by decide) (by decide) rfl, hb]
  have Hok := Lib.hid hok
  have Ht := Lib.hid ht
  clear hok hb ht
  go_enter Try.func28, Try.ntmps28
  go_wp2_with (first
    | (go_at_call 93; refine (new_any begunConf _ hc).mono ?_; rintro e w1 ⟨⟨b, rfl, hb, hn⟩, hb1⟩; have Hn := Lib.hid hn; have Hb := Lib.hid hb; have Hb1 := Lib.hid hb1; clear hn hb hb1)
    | (go_at_call 31; refine (tick0_any b _ _ 12 _ Hn.out Hok.out rfl).mono ?_; rintro e w2 ⟨⟨vt, vn, rfl, ho1, ho2⟩, hn2, ht2⟩; rw [Ht.out] at ho1 hn2 ⊢; have Hn2 := Lib.hid hn2; have Ht2 := Lib.hid ht2; obtain ⟨A1, d1, rfl, -⟩ := own_form ho1; clear ho1 ho2 hn2 ht2)
    | (go_at_call 35; refine (now_any b _ _ _ Hn2.out).mono ?_; rintro e w3 ⟨rfl, rfl⟩)
    | (go_at_call 34; refine (seq_any b _ _ _ Hn2.out).mono ?_; rintro e w3 ⟨rfl, rfl⟩))
  go_ret
  refine ⟨ret_bool (by decide +kernel), Touch.below Hb1.out Ht2.out Hb1.out.size fun k hk => ?_⟩
  rintro (e | e)
  · have := Hb.out
    omega
  · simp [Value.ownBlock] at e

def nm (k : Nat) : ByteArray := match k with | 0 => ByteArray.mk #[98] | 1 => ByteArray.mk #[99] | _ => ByteArray.mk #[100]

/-- The node of 'one', that watches so many. -/
def ones (every least : Int) : Nat → Hw.Node
  | 0 => newNode ⟨ByteArray.mk #[97], 0, 1 + within every 50, 4, 1 + within least 20⟩
  | k + 1 => (watch (ones every least k) (nm k) (1 + within every 50)).1

theorem ones_same (every least : Int) : ∀ k, (ones every least k).subs = [] ∧ (ones every least k).c = ⟨ByteArray.mk #[97], 0, 1 + within every 50, 4, 1 + within least 20⟩ ∧ (ones every least k).now = 0 ∧ (ones every least k).seq = 0 ∧ (ones every least k).drops = 0
  | 0 => ⟨rfl, rfl, rfl, rfl, rfl⟩
  | k + 1 => by
    obtain ⟨h1, h2, h3, h4, h5⟩ := ones_same every least k
    obtain ⟨g1, g2, g3, g4, g5⟩ := watch_subs (ones every least k) (nm k) (1 + within every 50)
    exact ⟨g1.trans h1, g2.trans h2, g3.trans h3, g4.trans h4, g5.trans h5⟩

theorem ones_conf (every least : Int) : configCheck ⟨ByteArray.mk #[97], 0, 1 + within every 50, 4, 1 + within least 20⟩ = 0 := by
  have h1 := within_in (n := every) (k := 50) (by omega)
  have h2 := within_in (n := least) (k := 20) (by omega)
  unfold configCheck
  rw [if_neg (show ¬ idOk (ByteArray.mk #[97]) = false by decide +kernel), if_neg]
  simp only [valOk, Bool.and_eq_false_iff, decide_eq_false_iff_not]
  omega

set_option maxRecDepth 100000 in
set_option maxHeartbeats 1000000 in
theorem one_any (every least : Int) (w : World) : Calls Try.prog 29 #[.int .i64 every, .int .i64 least] w fun e w' => (∃ b, e = .returned (.pointer (some ⟨b, 0, none⟩)) ∧ w.heap.size ≤ b ∧ NodeAt w' b (.slice none 0 0) (ones every least 3)) ∧ Below w.heap.size w w' := by
  have h1 := within_in (n := every) (k := 50) (by omega)
  have h2 := within_in (n := least) (k := 20) (by omega)
  have hc := ones_conf every least
  have hw1 : IntKind.i64.wrap (1 + within every 50) = 1 + within every 50 := IntWalk.i64_in _ (by omega)
  have hw2 : IntKind.i64.wrap (1 + within least 20) = 1 + within least 20 := IntWalk.i64_in _ (by omega)
  have HC := Lib.hid hc
  clear hc
  go_enter Try.func29, Try.ntmps29
  go_wp2_with (first
    | (go_at_call 30; refine (within_any _ _ _ (by decide) (by decide)).mono ?_; rintro e w0 ⟨rfl, rfl⟩)
    | (go_at_call 93; refine (new_any ⟨ByteArray.mk #[97], 0, 1 + within every 50, 4, 1 + within least 20⟩ _ HC.out).mono ?_; rintro e w1 ⟨⟨b, rfl, hb, hn⟩, hb1⟩; have Hn := Lib.hid hn; have Hb := Lib.hid hb; have Hb1 := Lib.hid hb1; clear hn hb hb1)
    | fail)
  have hblt := Hn.out.lt
  go_loopw [8, 22] (fun _ i wr => ∃ k : Nat, k ≤ 3 ∧ i = .int .i64 k ∧ Hid (NodeAt wr b (.slice none 0 0) (ones every least k)) ∧ Hid (wr.heap[w1.heap.size]? = some (.cells #[.string (ByteArray.mk #[98]), .string (ByteArray.mk #[99]), .string (ByteArray.mk #[100])] 9 (0, 0))) ∧ Hid (Below w.heap.size w wr))
    (fun _ i _ => 3 - (intOf i).toNat)
  case atStart => exact ⟨0, by omega, rfl, Hn.out.below ((Below.refl _ _).alloc (Nat.le_refl _) _), heap_alloc_new w1 _, Hb1.out.alloc Hb1.out.size _⟩
  case round =>
    obtain ⟨k, hk, rfl, HN, HS, HB⟩ := hrel
    by_cases hlt : k < 3
    · have q : wr.cell? ⟨w1.heap.size, k, none⟩ = some (.string (nm k)) := by
        rw [cell_of_row _ _ _ _ _ _ HS.out]
        obtain rfl | rfl | rfl : k = 0 ∨ k = 1 ∨ k = 2 := by omega
        all_goals rfl
      have hk3 : (k : Int) < 3 := by omega
      have hk0 : (0 : Int) ≤ k := by omega
      have hkw : IntKind.i64.wrap ((k : Int) + 1) = (k : Int) + 1 := IntWalk.i64_in _ (by omega)
      go_wp2_with (first
        | (go_at_call 30; refine (within_any _ _ _ (by decide) (by decide)).mono ?_; rintro e w0 ⟨rfl, rfl⟩)
        | (go_at_call 61; refine (watch_any b _ (ones every least k) (nm k) (1 + within every 50) _ HN.out).mono ?_; rintro e w2 ⟨rfl, hn2, ht2⟩; have Hn2 := Lib.hid hn2; have Ht2 := Lib.hid ht2; clear hn2 ht2)
        | fail)
      go_roundw
      case rel =>
        refine ⟨k + 1, by omega, by go_num, Hn2.out, (Ht2.out.block _ (Array.getElem?_eq_some_iff.1 HS.out).1 ?_).trans HS.out, Touch.below HB.out Ht2.out HB.out.size fun q hq e => ?_⟩
        · intro e
          omega
        · have := Hb.out
          omega
      case measure => simp [intOf]; omega
    · have hk3 : k = 3 := by omega
      subst hk3
      go_wp2_with fail
      go_ret
      exact ⟨⟨b, rfl, Hb.out, HN.out⟩, HB.out⟩

end Go.Proofs.Ytmclalhjnjghnaa

namespace Go.Proofs.Ytmclalhjnjghnaa
open Go.RowKit Hw

theorem sq_iff {a b : ByteArray} : sq a b = true ↔ a = b := by
  unfold sq
  rw [beq_iff_eq]
  constructor
  · intro h
    refine bytes_ext ?_
    rwa [← Lib.toList_data, ← Lib.toList_data]
  · rintro rfl
    rfl
theorem sq_false {a b : ByteArray} : sq a b = false ↔ a ≠ b := by
  constructor
  · intro h e
    rw [sq_iff.2 e] at h
    cases h
  · intro h
    cases hq : sq a b with
    | false => rfl
    | true => exact absurd (sq_iff.1 hq) h

theorem listCheck_of {l : List Int} (h1 : l.length ≤ 64) (h2 : ∀ x ∈ l, valOk x = true) : listCheck l = 0 := by
  unfold listCheck
  rw [if_neg (by omega), if_neg]
  intro h
  rw [List.any_eq_true] at h
  obtain ⟨x, hx, he⟩ := h
  rw [h2 x hx] at he
  cases he

theorem win_parts {cap : Int} {l : List Int} (h : winCheck cap l = 0) : 1 ≤ cap ∧ cap ≤ 64 ∧ (l.length : Int) ≤ cap ∧ listCheck l = 0 := by
  unfold winCheck at h
  split at h
  · cases h
  · split at h
    · cases h
    · exact ⟨by omega, by omega, by omega, h⟩

theorem win_of {cap : Int} {l : List Int} (h1 : 1 ≤ cap) (h2 : cap ≤ 64) (h3 : (l.length : Int) ≤ cap) (h4 : listCheck l = 0) : winCheck cap l = 0 := by
  unfold winCheck
  rw [if_neg (by omega), if_neg (by omega)]
  exact h4

theorem pushed_len {cap : Int} {l : List Int} {n : Int} (h0 : 1 ≤ cap) (h : (l.length : Int) ≤ cap) : ((pushed cap l n).length : Int) ≤ cap ∧ 1 ≤ (pushed cap l n).length := by
  unfold pushed
  split
  · simp
    omega
  · simp
    omega

theorem pushed_ok {cap n : Int} {l : List Int} (h : winCheck cap l = 0) (hn : valOk n = true) : winCheck cap (pushed cap l n) = 0 := by
  obtain ⟨h1, h2, h3, h4⟩ := win_parts h
  obtain ⟨h5, -⟩ := pushed_len (n := n) h1 h3
  refine win_of h1 h2 h5 (listCheck_of (by omega) fun x hx => ?_)
  obtain ⟨-, h6⟩ := list_ok h4
  have hv : ∀ y ∈ l, valOk y = true := fun y hy => by
    have := h6 y hy
    unfold valOk
    simp
    exact this
  unfold pushed at hx
  rcases List.mem_append.1 hx with hx | hx
  · split at hx
    · exact hv x (List.mem_of_mem_tail hx)
    · exact hv x hx
  · simp at hx
    rw [hx]
    exact hn

theorem gate_parts {g : Gate} (h : gateCheck g = 0) : 0 ≤ g.inc ∧ g.inc < 2147483648 ∧ 0 ≤ g.seq ∧ g.seq < 2147483648 ∧ 0 ≤ g.drops ∧ g.drops ≤ 1073741824 ∧ (g.seq = 0 → g.inc = 0) := by
  unfold gateCheck at h
  split at h
  · cases h
  · omega

theorem gate_of {g : Gate} (h1 : 0 ≤ g.inc) (h2 : g.inc < 2147483648) (h3 : 0 ≤ g.seq) (h4 : g.seq < 2147483648) (h5 : 0 ≤ g.drops) (h6 : g.drops ≤ 1073741824) (h7 : g.seq = 0 → g.inc = 0) : gateCheck g = 0 := by
  unfold gateCheck
  rw [if_neg (by omega)]

theorem take_of {g : Gate} {inc seq : Int} (h : gateCheck g = 0) (h1 : 0 ≤ inc) (h2 : inc < 2147483648) (h3 : 1 ≤ seq) (h4 : seq < 2147483648) :
    take g inc seq = if g.inc < inc ∨ (inc = g.inc ∧ g.seq < seq) then (⟨inc, seq, g.drops⟩, true, 0) else (⟨g.inc, g.seq, min (g.drops + 1) 1073741824⟩, false, 0) := by
  unfold take
  rw [if_neg (by simp [h]), if_neg (by omega)]

theorem take_ok {g : Gate} {inc seq : Int} (h : gateCheck g = 0) (h1 : 0 ≤ inc) (h2 : inc < 2147483648) (h3 : 1 ≤ seq) (h4 : seq < 2147483648) : gateCheck (take g inc seq).1 = 0 := by
  obtain ⟨g1, g2, g3, g4, g5, g6, g7⟩ := gate_parts h
  rw [take_of h h1 h2 h3 h4]
  split
  · exact gate_of h1 h2 (by show 0 ≤ seq; omega) h4 g5 g6 (fun e => by have : seq = 0 := e; omega)
  · refine gate_of g1 g2 g3 g4 ?_ ?_ g7
    · show 0 ≤ min (g.drops + 1) 1073741824
      omega
    · show min (g.drops + 1) 1073741824 ≤ 1073741824
      omega

theorem heard_eq (p : Peer) (b : Beat) (now : Int) : heard p b now = if (take p.gate b.inc b.seq).2.1 then { p with gate := (take p.gate b.inc b.seq).1, vals := pushed p.cap p.vals (min (now - p.last) 16777216), last := now } else { p with gate := (take p.gate b.inc b.seq).1 } := rfl

theorem heard_ok {p : Peer} {b : Beat} {now : Int} (h : PeerOk p) (hb : beatCheck b = 0) (h1 : p.last ≤ now) (h2 : now ≤ 1073741824) : PeerOk (heard p b now) ∧ (heard p b now).id = p.id ∧ (heard p b now).cap = p.cap ∧ (1 ≤ p.vals.length → 1 ≤ (heard p b now).vals.length) ∧ (heard p b now).last ≤ now := by
  obtain ⟨b1, b2, b3, b4, b5⟩ := beat_parts hb
  have ht := take_ok h.gate b2 b3 b4 b5
  obtain ⟨w1, w2, w3, w4⟩ := win_parts h.win
  have hlo := h.lo
  rw [heard_eq]
  split
  · refine ⟨⟨h.id, ht, ?_, ?_, h2⟩, rfl, rfl, fun _ => (pushed_len w1 w3).2, Int.le_refl _⟩
    · refine pushed_ok h.win ?_
      unfold valOk
      simp
      omega
    · show 0 ≤ now
      omega
  · exact ⟨⟨h.id, ht, h.win, h.lo, h.hi⟩, rfl, rfl, fun h => h, h1⟩

theorem ordered_set : ∀ {l : List Peer} {prev : Option ByteArray} {k : Nat} {p' : Peer} (_ : Ordered prev l) (hk : k < l.length), p'.id = (l[k]).id → PeerOk p' → Ordered prev (l.set k p')
  | [], _, _, _, _, hk, _, _ => by simp at hk
  | p :: t, prev, 0, p', h, _, hid, hok => by
    obtain ⟨a, b, c⟩ := h
    simp only [List.getElem_cons_zero] at hid
    exact ⟨hok, fun q hq => by rw [hid]; exact b q hq, by rw [hid]; exact c⟩
  | p :: t, prev, k + 1, p', h, hk, hid, hok => by
    obtain ⟨a, b, c⟩ := h
    exact ⟨a, b, ordered_set c (by simpa using hk) (by simpa using hid) hok⟩

theorem find_set_ne {id : ByteArray} : ∀ {l : List Peer} {k : Nat} {p' : Peer} (hk : k < l.length), p'.id = (l[k]).id → sq (l[k]).id id = false → (l.set k p').find? (fun p => sq p.id id) = l.find? (fun p => sq p.id id)
  | [], _, _, hk, _, _ => by simp at hk
  | p :: t, 0, p', _, hid, hs => by
    simp only [List.getElem_cons_zero] at hid hs
    rw [List.set_cons_zero, List.find?_cons, List.find?_cons, hid, hs]
  | p :: t, k + 1, p', hk, hid, hs => by
    simp only [List.getElem_cons_succ] at hid hs
    rw [List.set_cons_succ, List.find?_cons, List.find?_cons, find_set_ne (by simpa using hk) hid hs]

theorem find_set_eq {id : ByteArray} : ∀ {l : List Peer} {k : Nat} {p' : Peer} (_ : k < l.length), sq p'.id id = true → (∀ j (hj : j < l.length), j < k → sq (l[j]).id id = false) → (l.set k p').find? (fun p => sq p.id id) = some p'
  | [], _, _, hk, _, _ => by simp at hk
  | p :: t, 0, p', _, hs, _ => by
    rw [List.set_cons_zero, List.find?_cons, hs]
  | p :: t, k + 1, p', hk, hs, hj => by
    have h0 := hj 0 (by simp) (by omega)
    simp only [List.getElem_cons_zero] at h0
    rw [List.set_cons_succ, List.find?_cons, h0]
    exact find_set_eq (by simpa using hk) hs fun j hj' hjk => by
      have := hj (j + 1) (by simpa using hj') (by omega)
      simpa using this

/-- What hearing does where it goes well. -/
theorem hear_parts {l : List Peer} {b : Beat} {now : Int} (h : (hear l b now).2.2 = 0) : peersCheck l = 0 ∧ beatCheck b = 0 ∧ 0 ≤ now ∧ now ≤ 1073741824 ∧ ∃ k, ∃ hk : k < l.length, place l b.id = k ∧ (l[k]).id = b.id ∧ (l[k]).last ≤ now ∧
    hear l b now = (l.set k (heard l[k] b now), (take (l[k]).gate b.inc b.seq).2.1, 0) := by
  unfold hear at h ⊢
  split at h
  · exact absurd h (by assumption)
  · rename_i h1
    split at h
    · exact absurd h (by assumption)
    · rename_i h2
      split at h
      · cases h
      · rename_i h3
        rw [if_neg h1, if_neg h2, if_neg h3]
        refine ⟨by simpa using h1, by simpa using h2, by omega, by omega, ?_⟩
        split at h
        · cases h
        · rename_i p hp
          obtain ⟨hk, hp'⟩ := List.getElem?_eq_some_iff.1 hp
          split at h
          · cases h
          · rename_i h4
            split at h
            · cases h
            · rename_i h5
              refine ⟨place l b.id, hk, rfl, ?_, ?_, ?_⟩
              · rw [hp']
                exact sq_iff.1 (by simpa using h4)
              · rw [hp']
                omega
              · rw [if_neg h4, if_neg h5, hp']

end Go.Proofs.Ytmclalhjnjghnaa

namespace Go.Proofs.Ytmclalhjnjghnaa
open Go.RowKit Hw

/-- What is so of a node that watches just I, but for its subs. -/
structure Inv (I : List ByteArray) (n : Hw.Node) : Prop where
  e1 : 1 ≤ n.c.every
  e2 : n.c.every ≤ 16777216
  n1 : 0 ≤ n.now
  n2 : n.now ≤ 1073741824
  seq : n.seq = n.now / n.c.every
  d1 : 0 ≤ n.drops
  d2 : n.drops ≤ 1073741824
  pc : peersCheck n.peers = 0
  last : ∀ p ∈ n.peers, p.last ≤ n.now
  win : ∀ p ∈ n.peers, p.cap = n.c.cap ∧ 1 ≤ p.vals.length
  l1 : 1 ≤ n.c.least
  l2 : n.c.least ≤ 16777216
  ids : n.peers.map (·.id) = I

/-- What is so of its subs, but for what was told. -/
structure InvS (I : List ByteArray) (n : Hw.Node) : Prop where
  s8 : n.subs.length ≤ 8
  known : ∀ s ∈ n.subs, s.id ∈ I
  theta : ∀ s ∈ n.subs, 1 ≤ s.theta ∧ s.theta ≤ 60
  dup : n.subs.Pairwise fun a b => ¬ (a.id = b.id ∧ a.theta = b.theta)

def On (n : Hw.Node) : Prop := ∀ s ∈ n.subs, s.on = onNow n s

structure Good (I : List ByteArray) (n : Hw.Node) : Prop where
  inv : Inv I n
  subs : InvS I n
  on : On n

theorem levelOf_ok {cap least since : Int} {l : List Int} (hw : winCheck cap l = 0) (l1 : 1 ≤ least) (l2 : least ≤ 16777216) (h1 : 1 ≤ l.length) (s1 : 0 ≤ since) (s2 : since ≤ 1073741824) :
    levelOf cap l least since = if (l.length : Int) * since - sumOf l ≤ 0 then ((0 : Int), (0 : Int)) else (((((spread l least + ((l.length : Int) * since - sumOf l) * ((l.length : Int) * since - sumOf l)) / spread l least).toNat.log2 : Nat) : Int), (0 : Int)) := by
  unfold levelOf
  rw [if_neg (by simp [hw]), if_neg (by omega), if_neg (by omega), if_neg (by omega)]

theorem log2_mono {a b : Nat} (h : a ≤ b) : a.log2 ≤ b.log2 := by
  by_cases h0 : a = 0
  · subst h0
    exact Nat.zero_le _
  · have hb : b ≠ 0 := by omega
    exact (Nat.le_log2 hb).2 (Nat.le_trans (Nat.log2_self_le h0) h)

theorem levelOf_err {cap least since : Int} {l : List Int} (hw : winCheck cap l = 0) (l1 : 1 ≤ least) (l2 : least ≤ 16777216) (h1 : 1 ≤ l.length) (s1 : 0 ≤ since) (s2 : since ≤ 1073741824) :
    (levelOf cap l least since).2 = 0 ∧ 0 ≤ (levelOf cap l least since).1 := by
  rw [levelOf_ok hw l1 l2 h1 s1 s2]
  split
  · exact ⟨rfl, Int.le_refl _⟩
  · exact ⟨rfl, Int.natCast_nonneg _⟩

theorem levelOf_mono {cap least since since' : Int} {l : List Int} (hw : winCheck cap l = 0) (l1 : 1 ≤ least) (l2 : least ≤ 16777216) (h1 : 1 ≤ l.length) (s1 : 0 ≤ since) (s : since ≤ since') (s2 : since' ≤ 1073741824) :
    (levelOf cap l least since).1 ≤ (levelOf cap l least since').1 := by
  have h0 := (levelOf_err hw l1 l2 h1 (Int.le_trans s1 s) s2).2
  rw [levelOf_ok hw l1 l2 h1 (Int.le_trans s1 s) s2] at h0 ⊢
  rw [levelOf_ok hw l1 l2 h1 s1 (Int.le_trans s s2)]
  have hm : (l.length : Int) * since ≤ (l.length : Int) * since' := Int.mul_le_mul_of_nonneg_left s (by omega)
  split
  · exact h0
  · rw [if_neg (by omega)]
    obtain ⟨p1, -⟩ := spread_in (win_list hw) (by omega) l1 l2
    show ((_ : Nat) : Int) ≤ ((_ : Nat) : Int)
    refine Int.ofNat_le.2 (log2_mono ?_)
    have hd : ((l.length : Int) * since - sumOf l) * ((l.length : Int) * since - sumOf l) ≤ ((l.length : Int) * since' - sumOf l) * ((l.length : Int) * since' - sumOf l) := Int.mul_le_mul (by omega) (by omega) (by omega) (by omega)
    have hq : (spread l least + ((l.length : Int) * since - sumOf l) * ((l.length : Int) * since - sumOf l)) / spread l least ≤ (spread l least + ((l.length : Int) * since' - sumOf l) * ((l.length : Int) * since' - sumOf l)) / spread l least := Int.ediv_le_ediv (by omega) (by omega)
    omega

theorem levelOf_zero {cap least : Int} {l : List Int} (hw : winCheck cap l = 0) (l1 : 1 ≤ least) (l2 : least ≤ 16777216) (h1 : 1 ≤ l.length) : levelOf cap l least 0 = (0, 0) := by
  rw [levelOf_ok hw l1 l2 h1 (by omega) (by omega), if_pos]
  obtain ⟨-, hv⟩ := list_ok (win_list hw)
  have := (sums_in l hv).1
  omega

theorem Inv.ordered {I : List ByteArray} {n : Hw.Node} (h : Inv I n) : n.peers.length ≤ 6 ∧ Ordered none n.peers := (check_iff _).1 h.pc

theorem Inv.peer {I : List ByteArray} {n : Hw.Node} (h : Inv I n) {p : Peer} (hp : p ∈ n.peers) : PeerOk p := h.ordered.2.ok p hp

theorem Inv.lv {I : List ByteArray} {n : Hw.Node} (h : Inv I n) : NodeLv n := by
  refine ⟨h.ordered.1, fun p hp => IntWalk.i64_in _ ?_⟩
  have := (h.peer hp).lo
  have := h.last p hp
  have := h.n2
  omega

theorem Inv.find {I : List ByteArray} {n : Hw.Node} (h : Inv I n) {id : ByteArray} (hid : id ∈ I) : ∃ p ∈ n.peers, p.id = id ∧ n.peers.find? (fun p => sq p.id id) = some p ∧ level n id = levelOf p.cap p.vals n.c.least (n.now - p.last) := by
  rw [← h.ids] at hid
  obtain ⟨p, hp, rfl⟩ := List.mem_map.1 hid
  cases hf : n.peers.find? (fun q => sq q.id p.id) with
  | none =>
    have := List.find?_eq_none.1 hf p hp
    rw [sq_iff.2 rfl] at this
    exact absurd rfl this
  | some q =>
    refine ⟨q, List.mem_of_find?_eq_some hf, sq_iff.1 (by have := List.find?_some hf; exact this), rfl, ?_⟩
    unfold level
    rw [hf]

theorem Inv.find_none {I : List ByteArray} {n : Hw.Node} (h : Inv I n) {id : ByteArray} (hid : id ∉ I) : n.peers.find? (fun p => sq p.id id) = none ∧ level n id = (0, 4) := by
  have hf : n.peers.find? (fun p => sq p.id id) = none := by
    refine List.find?_eq_none.2 fun p hp e => hid ?_
    rw [← h.ids]
    exact List.mem_map.2 ⟨p, hp, sq_iff.1 e⟩
  refine ⟨hf, ?_⟩
  unfold level
  rw [hf]

theorem Inv.level_ok {I : List ByteArray} {n : Hw.Node} (h : Inv I n) {id : ByteArray} (hid : id ∈ I) : (level n id).2 = 0 ∧ 0 ≤ (level n id).1 := by
  obtain ⟨p, hp, -, -, hl⟩ := h.find hid
  rw [hl]
  have := (h.peer hp).lo
  have := h.last p hp
  have := h.n2
  exact levelOf_err (h.peer hp).win h.l1 h.l2 (h.win p hp).2 (by omega) (by omega)

/-- As time goes on no level falls. -/
theorem Inv.later {I : List ByteArray} {n n' : Hw.Node} (h : Inv I n) (hc : n'.c = n.c) (hp : n'.peers = n.peers) (h1 : n.now ≤ n'.now) (h2 : n'.now ≤ 1073741824) {id : ByteArray} (hid : id ∈ I) : (level n id).1 ≤ (level n' id).1 := by
  obtain ⟨p, hpm, -, hf, hl⟩ := h.find hid
  have hl' : level n' id = levelOf p.cap p.vals n'.c.least (n'.now - p.last) := by
    unfold level
    rw [hp, hf]
  rw [hl, hl', hc]
  have := (h.peer hpm).lo
  have := h.last p hpm
  exact levelOf_mono (h.peer hpm).win h.l1 h.l2 (h.win p hpm).2 (by omega) (by omega) (by omega)

theorem map_set_id : ∀ (l : List Peer) (k : Nat) (p' : Peer) (hk : k < l.length), p'.id = (l[k]).id → (l.set k p').map (·.id) = l.map (·.id)
  | [], _, _, hk, _ => by simp at hk
  | p :: t, 0, p', _, h => by
    simp only [List.getElem_cons_zero] at h
    simp [h]
  | p :: t, k + 1, p', hk, h => by
    simp only [List.set_cons_succ, List.map_cons]
    rw [map_set_id t k p' (by simpa using hk) (by simpa using h)]

/-- A node that has heard. -/
def heardNode (n : Hw.Node) (d : Beat) : Hw.Node := { n with peers := (hear n.peers d n.now).1 }

theorem Inv.hear {I : List ByteArray} {n : Hw.Node} (h : Inv I n) {d : Beat} (he : (hear n.peers d n.now).2.2 = 0) : Inv I (heardNode n d) ∧ d.id ∈ I ∧ (∀ id, id ≠ d.id → level (heardNode n d) id = level n id) ∧
    ((hear n.peers d n.now).2.1 = true → level (heardNode n d) d.id = (0, 0)) ∧ ((hear n.peers d n.now).2.1 = false → ∀ id, level (heardNode n d) id = level n id) := by
  obtain ⟨-, hb, -, -, k, hk, hpl, hid, hla, hr⟩ := hear_parts he
  have hm : n.peers[k] ∈ n.peers := List.getElem_mem hk
  obtain ⟨q1, q2, q3, q4, q5⟩ := heard_ok (h.peer hm) hb hla h.n2
  have hn : heardNode n d = { n with peers := n.peers.set k (heard n.peers[k] d n.now) } := by unfold heardNode; rw [hr]
  have hmem : ∀ p ∈ n.peers.set k (heard n.peers[k] d n.now), p ∈ n.peers ∨ p = heard n.peers[k] d n.now := fun p hp => List.mem_or_eq_of_mem_set hp
  have hI : Inv I { n with peers := n.peers.set k (heard n.peers[k] d n.now) } := by
    refine ⟨h.e1, h.e2, h.n1, h.n2, h.seq, h.d1, h.d2, ?_, ?_, ?_, h.l1, h.l2, ?_⟩
    · refine (check_iff _).2 ⟨?_, ordered_set h.ordered.2 hk q2 q1⟩
      rw [List.length_set]
      exact h.ordered.1
    · intro p hp
      rcases hmem p hp with hp | rfl
      · exact h.last p hp
      · exact q5
    · intro p hp
      rcases hmem p hp with hp | rfl
      · exact h.win p hp
      · exact ⟨by rw [q3]; exact (h.win _ hm).1, q4 (h.win _ hm).2⟩
    · show (n.peers.set k _).map (·.id) = I
      rw [map_set_id _ _ _ hk q2]
      exact h.ids
  have hfirst : ∀ j (hj : j < n.peers.length), j < k → sq (n.peers[j]).id d.id = false := fun j hj hjk => by
    refine sq_false.2 fun e => ?_
    have := h.ordered.2.lt j k hjk hk
    rw [e, hid, slt_irrefl] at this
    cases this
  have hdI : d.id ∈ I := by
    rw [← h.ids, ← hid]
    exact List.mem_map.2 ⟨_, hm, rfl⟩
  have hne : ∀ id, id ≠ d.id → level (heardNode n d) id = level n id := fun id hne => by
    rw [hn]
    unfold level
    simp only
    rw [find_set_ne hk q2 (sq_false.2 (by rw [hid]; exact Ne.symm hne))]
  have hft : (n.peers.set k (heard n.peers[k] d n.now)).find? (fun p => sq p.id d.id) = some (heard n.peers[k] d n.now) := find_set_eq hk (sq_iff.2 (by rw [q2, hid])) hfirst
  refine ⟨by rw [hn]; exact hI, hdI, hne, fun ht => ?_, fun ht id => ?_⟩
  · rw [hr] at ht
    have ht : (take (n.peers[k]).gate d.inc d.seq).2.1 = true := ht
    rw [hn]
    unfold level
    simp only
    rw [hft]
    simp only
    have hl : (heard n.peers[k] d n.now).last = n.now := by rw [heard_eq, if_pos ht]
    rw [hl, Int.sub_self]
    exact levelOf_zero q1.win h.l1 h.l2 (q4 (h.win _ hm).2)
  · by_cases hne' : id = d.id
    · subst hne'
      rw [hr] at ht
      have ht : (take (n.peers[k]).gate d.inc d.seq).2.1 = false := ht
      rw [hn]
      unfold level
      simp only
      rw [hft]
      have hold : n.peers.find? (fun p => sq p.id d.id) = some n.peers[k] := List.find?_eq_some_iff_getElem.2 ⟨sq_iff.2 hid, k, hk, rfl, fun j hj => by rw [hfirst j (by omega) hj]; rfl⟩
      rw [hold, heard_eq, if_neg (by simp [ht])]
    · exact hne id hne'

/-- What is told changes nothing but what was told. -/
theorem told_good {I : List ByteArray} {n : Hw.Node} (h : Inv I n) (hs : InvS I n) : Good I (told n).1 := by
  refine ⟨⟨h.e1, h.e2, h.n1, h.n2, h.seq, h.d1, h.d2, h.pc, h.last, h.win, h.l1, h.l2, h.ids⟩, ⟨?_, ?_, ?_, ?_⟩, ?_⟩
  · show (toldSubs n).length ≤ 8
    unfold toldSubs
    rw [List.length_map]
    exact hs.s8
  · intro s hm
    obtain ⟨s0, h0, rfl⟩ := List.mem_map.1 (show s ∈ n.subs.map _ from hm)
    exact hs.known s0 h0
  · intro s hm
    obtain ⟨s0, h0, rfl⟩ := List.mem_map.1 (show s ∈ n.subs.map _ from hm)
    exact hs.theta s0 h0
  · show (n.subs.map _).Pairwise _
    rw [List.pairwise_map]
    exact hs.dup
  · intro s hm
    obtain ⟨s0, h0, rfl⟩ := List.mem_map.1 (show s ∈ n.subs.map _ from hm)
    rfl

theorem told_notes {n : Hw.Node} {x : Note} (h : x ∈ (told n).2) : ∃ s ∈ n.subs, onNow n s ≠ s.on ∧ x = ⟨s.id, s.theta, onNow n s⟩ := by
  obtain ⟨s, hs, he⟩ := List.mem_filterMap.1 (show x ∈ n.subs.filterMap _ from h)
  split at he
  · cases he
  · rename_i hne
    injection he with he
    exact ⟨s, hs, fun e => hne (by rw [e]; simp), he.symm⟩

end Go.Proofs.Ytmclalhjnjghnaa

namespace Go.Proofs.Ytmclalhjnjghnaa
open Go.RowKit Hw

theorem Inv.ok {I : List ByteArray} {n : Hw.Node} (h : Inv I n) : NodeOk n := by
  have h1 := h.seq
  have h2 : 0 ≤ n.now / n.c.every := Int.ediv_nonneg h.n1 (by have := h.e1; omega)
  have h3 : n.now / n.c.every ≤ n.now := Int.ediv_le_self _ h.n1
  have := h.n2
  exact ⟨h.e1, h.e2, h.n1, h.n2, by omega, by omega⟩

theorem Inv.ticked {I : List ByteArray} {n : Hw.Node} (h : Inv I n) {t : Int} (h1 : 0 ≤ t) (h2 : n.now + t ≤ 1073741824) : Inv I (ticked n t) := by
  have hb : ((beats n t : Nat) : Int) = (n.now + t) / n.c.every - n.now / n.c.every := by
    unfold beats
    have : n.now / n.c.every ≤ (n.now + t) / n.c.every := Int.ediv_le_ediv (by have := h.e1; omega) (by omega)
    omega
  have hn1 := h.n1
  refine ⟨h.e1, h.e2, by show 0 ≤ n.now + t; omega, h2, ?_, h.d1, h.d2, h.pc, fun p hp => ?_, h.win, h.l1, h.l2, h.ids⟩
  · show n.seq + (beats n t : Nat) = (n.now + t) / n.c.every
    rw [hb, h.seq]
    omega
  · have := h.last p hp
    show p.last ≤ n.now + t
    omega

theorem InvS.same {I : List ByteArray} {n n' : Hw.Node} (h : InvS I n) (e : n'.subs = n.subs) : InvS I n' := ⟨by rw [e]; exact h.s8, by rw [e]; exact h.known, by rw [e]; exact h.theta, by rw [e]; exact h.dup⟩

theorem good_tick {I : List ByteArray} {n : Hw.Node} (h : Good I n) (t : Int) : Good I (tick n t).1 ∧ ∀ x ∈ (tick n t).2.2.1, x.suspect = true := by
  unfold tick
  split
  · exact ⟨h, by simp⟩
  · split
    · exact ⟨h, by simp⟩
    · have hI := h.inv.ticked (t := t) (by omega) (by omega)
      refine ⟨told_good hI (h.subs.same rfl), fun x hx => ?_⟩
      obtain ⟨s, hs, hne, rfl⟩ := told_notes hx
      have hs' : s ∈ n.subs := hs
      have hlv := h.inv.later (n' := ticked n t) rfl rfl (by show n.now ≤ n.now + t; omega) (by show n.now + t ≤ 1073741824; omega) (h.subs.known s hs')
      have ho := h.on s hs'
      show onNow (ticked n t) s = true
      cases hq : onNow (ticked n t) s with
      | true => rfl
      | false =>
        exfalso
        rw [hq, ho] at hne
        have h1 : onNow n s = true := by
          cases hz : onNow n s with
          | true => rfl
          | false => exact absurd hz.symm (fun e => hne (by rw [hz]))
        unfold onNow at hq h1
        simp at hq h1
        omega

theorem tick_lv {I : List ByteArray} {n : Hw.Node} (h : Good I n) {t : Int} (h1 : 0 ≤ t) (h2 : n.now + t ≤ 1073741824) : NodeLv (ticked n t) := (h.inv.ticked h1 h2).lv

theorem hear_err {l : List Peer} {b : Beat} {now : Int} (h : (hear l b now).2.2 ≠ 0) : (hear l b now).1 = [] := by
  unfold hear at h ⊢
  split
  · rfl
  · rename_i h1
    rw [if_neg h1] at h
    split
    · rfl
    · rename_i h2
      rw [if_neg h2] at h
      split
      · rfl
      · rename_i h3
        rw [if_neg h3] at h
        split
        · rfl
        · rename_i p hp
          rw [hp] at h
          simp only at h
          split
          · rfl
          · rename_i h4
            rw [if_neg h4] at h
            split
            · rfl
            · rename_i h5
              rw [if_neg h5] at h
              exact absurd rfl h

theorem hear_lv {I : List ByteArray} {n : Hw.Node} (h : Inv I n) (d : Beat) : NodeLv { n with peers := (hear n.peers d n.now).1 } := by
  by_cases he : (hear n.peers d n.now).2.2 = 0
  · exact (h.hear he).1.lv
  · rw [hear_err he]
    exact ⟨by simp, by simp⟩

theorem Inv.dropped {I : List ByteArray} {n : Hw.Node} (h : Inv I n) : Inv I (dropped n) := by
  have := h.d1
  exact ⟨h.e1, h.e2, h.n1, h.n2, h.seq, by show 0 ≤ min (n.drops + 1) 1073741824; omega, by show min (n.drops + 1) 1073741824 ≤ 1073741824; omega, h.pc, h.last, h.win, h.l1, h.l2, h.ids⟩

theorem good_hear {I : List ByteArray} {n : Hw.Node} (h : Good I n) (s : ByteArray) : Good I (nhear n s).1 ∧ ∀ x ∈ (nhear n s).2.1, x.suspect = false ∧ x.id = (decode s).1.id := by
  unfold nhear
  split
  · exact ⟨⟨h.inv.dropped, h.subs.same rfl, h.on⟩, by simp⟩
  · split
    · exact ⟨⟨h.inv.dropped, h.subs.same rfl, h.on⟩, by simp⟩
    · rename_i he
      have he : (hear n.peers (decode s).1 n.now).2.2 = 0 := by simpa using he
      obtain ⟨hI, hdI, hne, hyes, hno⟩ := h.inv.hear he
      split
      · rename_i ht
        have hsame := hno ht
        refine ⟨⟨hI.dropped, h.subs.same rfl, fun q hq => ?_⟩, by simp⟩
        have := h.on q hq
        rw [this]
        show decide (q.theta ≤ (level n q.id).1) = decide (q.theta ≤ (level (heardNode n (decode s).1) q.id).1)
        rw [hsame]
      · rename_i ht
        have ht : (hear n.peers (decode s).1 n.now).2.1 = true := by simpa using ht
        refine ⟨told_good hI (h.subs.same rfl), fun x hx => ?_⟩
        obtain ⟨q, hq, hqne, rfl⟩ := told_notes hx
        have hq' : q ∈ n.subs := hq
        have ho := h.on q hq'
        by_cases hid : q.id = (decode s).1.id
        · refine ⟨?_, hid⟩
          show decide (q.theta ≤ (level (heardNode n (decode s).1) q.id).1) = false
          rw [hid, hyes ht]
          have := (h.subs.theta q hq').1
          simp
          omega
        · exfalso
          apply hqne
          rw [ho]
          show decide (q.theta ≤ (level (heardNode n (decode s).1) q.id).1) = decide (q.theta ≤ (level n q.id).1)
          rw [hne q.id hid]

theorem at_neg {α : Type} {f : α → Bool} {l : List α} (h : at? f l < 0) : ∀ x ∈ l, f x = false := by
  rcases at_cases f l with ⟨-, hf⟩ | ⟨k, hk, ha, -, -⟩
  · intro x hx
    have := List.find?_eq_none.1 hf x hx
    simpa using this
  · omega

theorem subIs_iff {id : ByteArray} {theta : Int} {s : Sub} : subIs id theta s = true ↔ s.id = id ∧ s.theta = theta := by
  unfold subIs
  rw [Bool.and_eq_true, sq_iff, beq_iff_eq]

theorem good_join {I : List ByteArray} {n : Hw.Node} (h : Good I n) (id : ByteArray) (theta : Int) : Good I (njoin n id theta).1 ∧ ∀ x ∈ (njoin n id theta).2.1, x.suspect = true := by
  unfold njoin
  split
  · exact ⟨h, by simp⟩
  · split
    · exact ⟨h, by simp⟩
    · rename_i hl
      split
      · exact ⟨h, by simp⟩
      · rename_i hat
        split
        · exact ⟨h, by simp⟩
        · rename_i hlen
          have hid : id ∈ I := by
            by_cases hid : id ∈ I
            · exact hid
            · have := (h.inv.find_none hid).2
              rw [this] at hl
              exact absurd (show (4 : Int) ≠ 0 by decide) hl
          have hno := at_neg (show at? (subIs id theta) n.subs < 0 by omega)
          have h8 := h.subs.s8
          have hS : InvS I { n with subs := n.subs ++ [⟨id, theta, false⟩] } := by
            refine ⟨by simp; omega, fun s hs => ?_, fun s hs => ?_, ?_⟩
            · rcases List.mem_append.1 hs with hs | hs
              · exact h.subs.known s hs
              · simp at hs
                rw [hs]
                exact hid
            · rcases List.mem_append.1 hs with hs | hs
              · exact h.subs.theta s hs
              · simp at hs
                rw [hs]
                show 1 ≤ theta ∧ theta ≤ 60
                omega
            · refine List.pairwise_append.2 ⟨h.subs.dup, by simp, fun a ha c hc => ?_⟩
              simp at hc
              rw [hc]
              rintro ⟨e1, e2⟩
              have := hno a ha
              rw [subIs_iff.2 ⟨e1, e2⟩] at this
              cases this
          refine ⟨told_good (n := { n with subs := n.subs ++ [⟨id, theta, false⟩] }) ⟨h.inv.e1, h.inv.e2, h.inv.n1, h.inv.n2, h.inv.seq, h.inv.d1, h.inv.d2, h.inv.pc, h.inv.last, h.inv.win, h.inv.l1, h.inv.l2, h.inv.ids⟩ hS, fun x hx => ?_⟩
          obtain ⟨s, hs, hne, rfl⟩ := told_notes hx
          show decide (s.theta ≤ (level n s.id).1) = true
          rcases List.mem_append.1 hs with hs | hs
          · exact absurd (h.on s hs).symm hne
          · simp at hs
            rw [hs] at hne ⊢
            have hne : decide (theta ≤ (level n id).1) ≠ false := hne
            show decide (theta ≤ (level n id).1) = true
            cases hq : decide (theta ≤ (level n id).1) with
            | true => rfl
            | false => exact absurd hq hne

theorem good_part {I : List ByteArray} {n : Hw.Node} (h : Good I n) (id : ByteArray) (theta : Int) : Good I (npart n id theta).1 := by
  unfold npart
  split
  · exact h
  · have hsub : (n.subs.eraseIdx (at? (subIs id theta) n.subs).toNat).Sublist n.subs := List.eraseIdx_sublist _ _
    refine ⟨⟨h.inv.e1, h.inv.e2, h.inv.n1, h.inv.n2, h.inv.seq, h.inv.d1, h.inv.d2, h.inv.pc, h.inv.last, h.inv.win, h.inv.l1, h.inv.l2, h.inv.ids⟩, ⟨?_, fun s hs => h.subs.known s (hsub.subset hs), fun s hs => h.subs.theta s (hsub.subset hs), h.subs.dup.sublist hsub⟩, fun s hs => h.on s (hsub.subset hs)⟩
    have := hsub.length_le
    have := h.subs.s8
    show (n.subs.eraseIdx _).length ≤ 8
    omega

end Go.Proofs.Ytmclalhjnjghnaa

namespace Go.Proofs.Ytmclalhjnjghnaa
open Go.RowKit Hw

set_option maxRecDepth 100000 in
set_option maxHeartbeats 1000000 in
/-- '(*Node).Tick', of a node of which all is so. -/
theorem tickg_any {I : List ByteArray} (b : Nat) (vs : Value) (n : Hw.Node) (t : Int) (w : World) (h : NodeAt w b vs n) (hg : Good I n) (ht0 : 0 ≤ t) :
    Calls Try.prog 31 #[.pointer (some ⟨b, 0, none⟩), .int .i64 t] w (TickPost b vs n t w) := by
  by_cases hbig : n.now + t ≤ 1073741824
  · exact tick_any b vs n t w h hg.inv.ok fun w' h' => told_any b vs _ w' h' (tick_lv hg ht0 hbig) hg.subs.s8
  · obtain ⟨k1, k2, k3, k4, k5, k6⟩ := hg.inv.ok
    have HN := Lib.hid h
    obtain ⟨A, c, c0, c1, c2, -, -, c5, c6, -, -, -, -, -, -⟩ := h.cells
    clear h hg
    by_cases ha : t < 1 ∨ 1073741824 < t
    · have hr : tick n t = (n, [], [], 1) := by unfold tick; rw [if_pos ha]
      have Hr := Lib.hid hr
      clear hr
      go_enter Try.func31, Try.ntmps31
      go_wp2_with fail
      all_goals
        go_ret3
        unfold TickPost
        rw [Hr.out]
        exact ⟨⟨_, _, rfl, World.ownsRow_nil _ _ _ _, World.ownsRow_nil _ _ _ _⟩, HN.out, Touch.refl _ _⟩
    · have ha1 : 1 ≤ t := by omega
      have ha2 : t ≤ 1073741824 := by omega
      have hb : 1073741824 < n.now + t := by omega
      have hr : tick n t = (n, [], [], 2) := by unfold tick; rw [if_neg ha, if_pos (.inl hb)]
      have Hr := Lib.hid hr
      clear hr ha
      go_enter Try.func31, Try.ntmps31
      go_wp2_with fail
      all_goals
        go_ret3
        unfold TickPost
        rw [Hr.out]
        exact ⟨⟨_, _, rfl, World.ownsRow_nil _ _ _ _, World.ownsRow_nil _ _ _ _⟩, HN.out, Touch.refl _ _⟩

def askAt (c : List Int) (i : Nat) : Int := c.getD i 0

set_option maxRecDepth 100000 in
theorem at_any (A : Option Addr) (cc : Nat) (c : List Int) (k g : Nat) (w : World) (h : Ints w A c) (hl : c.length ≤ 17592186044416) (hg : w.cell? ⟨g, 0, none⟩ = some (.slice A c.length cc)) :
    Calls Try.prog 101 #[.int .i64 k, .pointer (some ⟨g, 0, none⟩)] w fun e w' => e = .returned (.int .i64 (askAt c k)) ∧ w = w' := by
  by_cases hk : k < c.length
  · obtain ⟨b, off, rfl, hc⟩ := h (by omega)
    have q := hc k hk
    have hki : (k : Int) < (c.length : Int) := by omega
    have hk0 : (0 : Int) ≤ (k : Int) := by omega
    clear h hc
    go_enter Try.func101, Try.ntmps101
    go_wp2_with fail
    go_ret
    exact ⟨ret_int (by unfold askAt; rw [List.getD_eq_getElem?_getD, List.getElem?_eq_getElem hk]; rfl), rfl⟩
  · have hki : ¬ (k : Int) < (c.length : Int) := by omega
    have hr : askAt c k = 0 := by
      unfold askAt
      rw [List.getD_eq_getElem?_getD, List.getElem?_eq_none (by omega)]
      rfl
    have Hr := Lib.hid hr
    clear h hr
    go_enter Try.func101, Try.ntmps101
    go_wp2_with fail
    go_ret
    rw [Hr.out]
    exact ⟨rfl, rfl⟩

def nm4 (k : Nat) : ByteArray := match k with | 0 => ByteArray.mk #[98] | 1 => ByteArray.mk #[99] | 2 => ByteArray.mk #[100] | _ => ByteArray.mk #[101]

def askId (c : List Int) : ByteArray := nm4 (within (askAt c 1) 4).toNat

/-- 'hwkeep.asked'. -/
def asked (n : Hw.Node) (c : List Int) : Hw.Node × List Note :=
  if within (askAt c 0) 5 = 0 then ((tick n (1 + within (askAt c 1) 60)).1, (tick n (1 + within (askAt c 1) 60)).2.2.1)
  else if within (askAt c 0) 5 = 1 then ((nhear n (encode ⟨askId c, 0, 1 + within (askAt c 2) 30⟩).1).1, (nhear n (encode ⟨askId c, 0, 1 + within (askAt c 2) 30⟩).1).2.1)
  else if within (askAt c 0) 5 = 2 then ((njoin n (askId c) (1 + within (askAt c 2) 12)).1, (njoin n (askId c) (1 + within (askAt c 2) 12)).2.1)
  else if within (askAt c 0) 5 = 3 then ((npart n (askId c) (1 + within (askAt c 2) 12)).1, [])
  else ((nhear n (ByteArray.mk #[72] ++ askId c)).1, (nhear n (ByteArray.mk #[72] ++ askId c)).2.1)

def AskPost (b : Nat) (vs : Value) (w : World) (r : Hw.Node × List Note) (e : Ending) (w' : World) : Prop :=
  (∃ vn, e = .returned vn ∧ w'.ownsRow w.heap.size 74 3 vn r.2.length (notesCells r.2)) ∧ ∃ vs', NodeAt w' b vs' r.1 ∧ VsTo vs vs' w ∧ Touch (NodeS b vs) w w'

theorem askId_size (c : List Int) : (askId c).size = 1 := by
  unfold askId nm4
  split <;> rfl

theorem nm4_cell (k : Nat) (hk : k < 4) : #[Value.string (ByteArray.mk #[98]), .string (ByteArray.mk #[99]), .string (ByteArray.mk #[100]), .string (ByteArray.mk #[101])][k]? = some (.string (nm4 k)) := by
  obtain rfl | rfl | rfl | rfl : k = 0 ∨ k = 1 ∨ k = 2 ∨ k = 3 := by omega
  all_goals rfl

set_option maxRecDepth 100000 in
set_option maxHeartbeats 2000000 in
theorem asked_any {I : List ByteArray} (b : Nat) (vs : Value) (n : Hw.Node) (A : Option Addr) (cc : Nat) (c : List Int) (w : World) (h : NodeAt w b vs n) (hg : Good I n) (hc : Ints w A c) (hl : c.length ≤ 17592186044416) :
    Calls Try.prog 43 #[.pointer (some ⟨b, 0, none⟩), .slice A c.length cc] w (AskPost b vs w (asked n c)) := by
  have HN := Lib.hid h
  have HG := Lib.hid hg
  have HC := Lib.hid hc
  have hbl := h.lt
  have hb2 := ((Below.refl w.heap.size w).alloc (Nat.le_refl _) (.cells #[.slice A c.length cc] 36)).alloc (by simp) (.cells #[.string (ByteArray.mk #[98]), .string (ByteArray.mk #[99]), .string (ByteArray.mk #[100]), .string (ByteArray.mk #[101])] 9)
  have g0 := heap_alloc2_old w (.cells #[.slice A c.length cc] 36) (.cells #[.string (ByteArray.mk #[98]), .string (ByteArray.mk #[99]), .string (ByteArray.mk #[100]), .string (ByteArray.mk #[101])] 9)
  have g1 := heap_alloc2_new w (.cells #[.slice A c.length cc] 36) (.cells #[.string (ByteArray.mk #[98]), .string (ByteArray.mk #[99]), .string (ByteArray.mk #[100]), .string (ByteArray.mk #[101])] 9)
  have HB2 := Lib.hid hb2
  have HP0 := Lib.hid (cell_of_row _ _ 0 _ 36 (0, 0) g0)
  obtain ⟨k, hk⟩ := Int.eq_ofNat_of_zero_le (within_in (n := askAt c 1) (k := 4) (by omega)).1
  have hk4 : k < 4 := by have := (within_in (n := askAt c 1) (k := 4) (by omega)).2; omega
  have hid : askId c = nm4 k := by unfold askId; rw [hk]; rfl
  have q := cell_of_row _ _ k _ 9 (0, 0) g1
  rw [nm4_cell k hk4, ← hid] at q
  have hk0 : (0 : Int) ≤ (k : Int) := by omega
  have hk4' : (k : Int) < 4 := by omega
  have HQ := Lib.hid q
  have HK := Lib.hid hk
  clear h hg hc hb2 g0 g1 hid q hk
  have hmm := within_in (n := askAt c 0) (k := 5) (by omega)
  obtain ⟨m, hm⟩ : ∃ m, within (askAt c 0) 5 = m := ⟨_, rfl⟩
  rw [hm] at hmm
  have HM := Lib.hid hm
  clear hm
  have hcases : m = 0 ∨ m = 1 ∨ m = 2 ∨ m = 3 ∨ m = 4 := by omega
  clear hmm
  rcases hcases with rfl | rfl | rfl | rfl | rfl
  · have hr : asked n c = ((tick n (1 + within (askAt c 1) 60)).1, (tick n (1 + within (askAt c 1) 60)).2.2.1) := by unfold asked; rw [if_pos HM.out]
    have Hr := Lib.hid hr
    have h60 := within_in (n := askAt c 1) (k := 60) (by omega)
    have hww : wrap64 (1 + within (askAt c 1) 60) = 1 + within (askAt c 1) 60 := IntWalk.wrap64_in _ (by omega)
    clear hr
    go_enter Try.func43, Try.ntmps43
    go_wp2_with (first
      | (go_at_call_of 101 (Value.int IntKind.i64 1); first | (refine (at_any A cc c 1 w.heap.size _ (HC.out.below HB2.out) hl HP0.out).mono ?_; rintro e w0 ⟨rfl, hw⟩; have HB0 := Lib.hid (hw ▸ HB2.out : Below w.heap.size w w0); have P0 := Lib.hid (hw ▸ HP0.out : w0.cell? ⟨w.heap.size, 0, none⟩ = some (.slice A c.length cc)); have q0 := (hw ▸ HQ.out : w0.cell? ⟨w.heap.size + 1, k, none⟩ = some (.string (askId c))); clear hw) | (refine (at_any A cc c 1 w.heap.size _ (HC.out.below HB0.out) hl P0.out).mono ?_; rintro e w9 ⟨rfl, rfl⟩))
      | (go_at_call_of 101 (Value.int IntKind.i64 0); refine (at_any A cc c 0 w.heap.size _ (HC.out.below HB0.out) hl P0.out).mono ?_; rintro e w9 ⟨rfl, rfl⟩)
      | (go_at_call_of 101 (Value.int IntKind.i64 2); refine (at_any A cc c 2 w.heap.size _ (HC.out.below HB0.out) hl P0.out).mono ?_; rintro e w9 ⟨rfl, rfl⟩)
      | (go_at_call 30; refine (within_any _ _ _ (by decide) (by decide)).mono ?_; rintro e w9 ⟨rfl, rfl⟩; first | rw [HK.out] | rw [HM.out] | skip)
      | (go_at_call 31; refine (tickg_any b vs n (1 + within (askAt c 1) 60) _ (HN.out.below HB0.out) HG.out (by omega)).mono ?_; rintro e w2 ⟨⟨vt, vn, rfl, ho1, ho2⟩, hn2, ht2⟩; have HO2 := Lib.hid (own_base ho2 HB0.out.size); have HN2 := Lib.hid hn2; have HT2 := Lib.hid ((Touch.of_below HB0.out).trans ht2); obtain ⟨A1, d1, rfl, -⟩ := own_form ho1; obtain ⟨A2, d2, rfl, -⟩ := own_form ho2; clear ho1 ho2 hn2 ht2)
      | fail)
    go_ret
    unfold AskPost
    rw [Hr.out]
    exact ⟨⟨_, rfl, HO2.out⟩, vs, HN2.out, VsTo.refl _ _, HT2.out⟩
  · have hr : asked n c = ((nhear n (encode ⟨askId c, 0, 1 + within (askAt c 2) 30⟩).1).1, (nhear n (encode ⟨askId c, 0, 1 + within (askAt c 2) 30⟩).1).2.1) := by unfold asked; rw [if_neg (by rw [HM.out]; decide), if_pos HM.out]
    have Hr := Lib.hid hr
    have h30 := within_in (n := askAt c 2) (k := 30) (by omega)
    have hww : wrap64 (1 + within (askAt c 2) 30) = 1 + within (askAt c 2) 30 := IntWalk.wrap64_in _ (by omega)
    clear hr
    go_enter Try.func43, Try.ntmps43
    go_wp2_with (first
      | (go_at_call_of 101 (Value.int IntKind.i64 1); first | (refine (at_any A cc c 1 w.heap.size _ (HC.out.below HB2.out) hl HP0.out).mono ?_; rintro e w0 ⟨rfl, hw⟩; have HB0 := Lib.hid (hw ▸ HB2.out : Below w.heap.size w w0); have P0 := Lib.hid (hw ▸ HP0.out : w0.cell? ⟨w.heap.size, 0, none⟩ = some (.slice A c.length cc)); have q0 := (hw ▸ HQ.out : w0.cell? ⟨w.heap.size + 1, k, none⟩ = some (.string (askId c))); clear hw) | (refine (at_any A cc c 1 w.heap.size _ (HC.out.below HB0.out) hl P0.out).mono ?_; rintro e w9 ⟨rfl, rfl⟩))
      | (go_at_call_of 101 (Value.int IntKind.i64 0); refine (at_any A cc c 0 w.heap.size _ (HC.out.below HB0.out) hl P0.out).mono ?_; rintro e w9 ⟨rfl, rfl⟩)
      | (go_at_call_of 101 (Value.int IntKind.i64 2); refine (at_any A cc c 2 w.heap.size _ (HC.out.below HB0.out) hl P0.out).mono ?_; rintro e w9 ⟨rfl, rfl⟩)
      | (go_at_call 30; refine (within_any _ _ _ (by decide) (by decide)).mono ?_; rintro e w9 ⟨rfl, rfl⟩; first | rw [HK.out] | rw [HM.out] | skip)
      | (go_at_call 94; refine (encode_any ⟨askId c, 0, 1 + within (askAt c 2) 30⟩ _).mono ?_; rintro e w1 ⟨rfl, hb1⟩; have HB1 := Lib.hid (HB0.out.trans (hb1.mono HB0.out.size)); clear hb1)
      | (go_at_call 53; refine (nhear_any b vs n _ _ (HN.out.below HB1.out) HG.out.inv.d1 HG.out.inv.d2 (hear_lv HG.out.inv _) HG.out.subs.s8).mono ?_; rintro e w2 ⟨⟨vn, rfl, ho2⟩, hn2, ht2⟩; have HO2 := Lib.hid (own_base ho2 HB1.out.size); have HN2 := Lib.hid hn2; have HT2 := Lib.hid ((Touch.of_below HB1.out).trans ht2); obtain ⟨A2, d2, rfl, -⟩ := own_form ho2; clear ho2 hn2 ht2)
      | fail)
    go_ret
    unfold AskPost
    rw [Hr.out]
    exact ⟨⟨_, rfl, HO2.out⟩, vs, HN2.out, VsTo.refl _ _, HT2.out⟩
  · have hr : asked n c = ((njoin n (askId c) (1 + within (askAt c 2) 12)).1, (njoin n (askId c) (1 + within (askAt c 2) 12)).2.1) := by unfold asked; rw [if_neg (by rw [HM.out]; decide), if_neg (by rw [HM.out]; decide), if_pos HM.out]
    have Hr := Lib.hid hr
    have h12 := within_in (n := askAt c 2) (k := 12) (by omega)
    have hww : wrap64 (1 + within (askAt c 2) 12) = 1 + within (askAt c 2) 12 := IntWalk.wrap64_in _ (by omega)
    clear hr
    go_enter Try.func43, Try.ntmps43
    go_wp2_with (first
      | (go_at_call_of 101 (Value.int IntKind.i64 1); first | (refine (at_any A cc c 1 w.heap.size _ (HC.out.below HB2.out) hl HP0.out).mono ?_; rintro e w0 ⟨rfl, hw⟩; have HB0 := Lib.hid (hw ▸ HB2.out : Below w.heap.size w w0); have P0 := Lib.hid (hw ▸ HP0.out : w0.cell? ⟨w.heap.size, 0, none⟩ = some (.slice A c.length cc)); have q0 := (hw ▸ HQ.out : w0.cell? ⟨w.heap.size + 1, k, none⟩ = some (.string (askId c))); clear hw) | (refine (at_any A cc c 1 w.heap.size _ (HC.out.below HB0.out) hl P0.out).mono ?_; rintro e w9 ⟨rfl, rfl⟩))
      | (go_at_call_of 101 (Value.int IntKind.i64 0); refine (at_any A cc c 0 w.heap.size _ (HC.out.below HB0.out) hl P0.out).mono ?_; rintro e w9 ⟨rfl, rfl⟩)
      | (go_at_call_of 101 (Value.int IntKind.i64 2); refine (at_any A cc c 2 w.heap.size _ (HC.out.below HB0.out) hl P0.out).mono ?_; rintro e w9 ⟨rfl, rfl⟩)
      | (go_at_call 30; refine (within_any _ _ _ (by decide) (by decide)).mono ?_; rintro e w9 ⟨rfl, rfl⟩; first | rw [HK.out] | rw [HM.out] | skip)
      | (go_at_call 49; refine (njoin_any b vs n (askId c) (1 + within (askAt c 2) 12) _ (HN.out.below HB0.out) HG.out.inv.lv HG.out.subs.s8).mono ?_; rintro e w2 ⟨⟨vn, rfl, ho2⟩, vs2, hn2, hv2, ht2⟩; have HO2 := Lib.hid (own_base ho2 HB0.out.size); have HN2 := Lib.hid hn2; have HV2 := Lib.hid ((VsTo.refl vs w).trans hv2 (Touch.of_below (S := NodeS b vs) HB0.out)); have HT2 := Lib.hid ((Touch.of_below HB0.out).trans ht2); obtain ⟨A2, d2, rfl, -⟩ := own_form ho2; clear ho2 hn2 hv2 ht2)
      | fail)
    go_ret
    unfold AskPost
    rw [Hr.out]
    exact ⟨⟨_, rfl, HO2.out⟩, vs2, HN2.out, HV2.out, HT2.out⟩
  · have hr : asked n c = ((npart n (askId c) (1 + within (askAt c 2) 12)).1, []) := by unfold asked; rw [if_neg (by rw [HM.out]; decide), if_neg (by rw [HM.out]; decide), if_neg (by rw [HM.out]; decide), if_pos HM.out]
    have Hr := Lib.hid hr
    have h12 := within_in (n := askAt c 2) (k := 12) (by omega)
    have hww : wrap64 (1 + within (askAt c 2) 12) = 1 + within (askAt c 2) 12 := IntWalk.wrap64_in _ (by omega)
    clear hr
    go_enter Try.func43, Try.ntmps43
    go_wp2_with (first
      | (go_at_call_of 101 (Value.int IntKind.i64 1); first | (refine (at_any A cc c 1 w.heap.size _ (HC.out.below HB2.out) hl HP0.out).mono ?_; rintro e w0 ⟨rfl, hw⟩; have HB0 := Lib.hid (hw ▸ HB2.out : Below w.heap.size w w0); have P0 := Lib.hid (hw ▸ HP0.out : w0.cell? ⟨w.heap.size, 0, none⟩ = some (.slice A c.length cc)); have q0 := (hw ▸ HQ.out : w0.cell? ⟨w.heap.size + 1, k, none⟩ = some (.string (askId c))); clear hw) | (refine (at_any A cc c 1 w.heap.size _ (HC.out.below HB0.out) hl P0.out).mono ?_; rintro e w9 ⟨rfl, rfl⟩))
      | (go_at_call_of 101 (Value.int IntKind.i64 0); refine (at_any A cc c 0 w.heap.size _ (HC.out.below HB0.out) hl P0.out).mono ?_; rintro e w9 ⟨rfl, rfl⟩)
      | (go_at_call_of 101 (Value.int IntKind.i64 2); refine (at_any A cc c 2 w.heap.size _ (HC.out.below HB0.out) hl P0.out).mono ?_; rintro e w9 ⟨rfl, rfl⟩)
      | (go_at_call 30; refine (within_any _ _ _ (by decide) (by decide)).mono ?_; rintro e w9 ⟨rfl, rfl⟩; first | rw [HK.out] | rw [HM.out] | skip)
      | (go_at_call 51; refine (npart_any b vs n (askId c) (1 + within (askAt c 2) 12) _ (HN.out.below HB0.out) HG.out.subs.s8).mono ?_; rintro e w2 ⟨rfl, vs2, hn2, hv2, ht2⟩; have HN2 := Lib.hid hn2; have HV2 := Lib.hid ((VsTo.refl vs w).trans hv2 (Touch.of_below (S := NodeS b vs) HB0.out)); have HT2 := Lib.hid ((Touch.of_below HB0.out).trans ht2); clear hn2 hv2 ht2)
      | fail)
    go_ret
    unfold AskPost
    rw [Hr.out]
    exact ⟨⟨_, rfl, World.ownsRow_nil _ _ _ _⟩, vs2, HN2.out, HV2.out, HT2.out⟩
  · have hr : asked n c = ((nhear n (ByteArray.mk #[72] ++ askId c)).1, (nhear n (ByteArray.mk #[72] ++ askId c)).2.1) := by unfold asked; rw [if_neg (by rw [HM.out]; decide), if_neg (by rw [HM.out]; decide), if_neg (by rw [HM.out]; decide), if_neg (by rw [HM.out]; decide)]
    have Hr := Lib.hid hr
    have hsz := askId_size c
    clear hr
    go_enter Try.func43, Try.ntmps43
    go_wp2_with (first
      | (go_at_call_of 101 (Value.int IntKind.i64 1); first | (refine (at_any A cc c 1 w.heap.size _ (HC.out.below HB2.out) hl HP0.out).mono ?_; rintro e w0 ⟨rfl, hw⟩; have HB0 := Lib.hid (hw ▸ HB2.out : Below w.heap.size w w0); have P0 := Lib.hid (hw ▸ HP0.out : w0.cell? ⟨w.heap.size, 0, none⟩ = some (.slice A c.length cc)); have q0 := (hw ▸ HQ.out : w0.cell? ⟨w.heap.size + 1, k, none⟩ = some (.string (askId c))); clear hw) | (refine (at_any A cc c 1 w.heap.size _ (HC.out.below HB0.out) hl P0.out).mono ?_; rintro e w9 ⟨rfl, rfl⟩))
      | (go_at_call_of 101 (Value.int IntKind.i64 0); refine (at_any A cc c 0 w.heap.size _ (HC.out.below HB0.out) hl P0.out).mono ?_; rintro e w9 ⟨rfl, rfl⟩)
      | (go_at_call_of 101 (Value.int IntKind.i64 2); refine (at_any A cc c 2 w.heap.size _ (HC.out.below HB0.out) hl P0.out).mono ?_; rintro e w9 ⟨rfl, rfl⟩)
      | (go_at_call 30; refine (within_any _ _ _ (by decide) (by decide)).mono ?_; rintro e w9 ⟨rfl, rfl⟩; first | rw [HK.out] | rw [HM.out] | skip)
      | (go_at_call 53; refine (nhear_any b vs n _ _ (HN.out.below HB0.out) HG.out.inv.d1 HG.out.inv.d2 (hear_lv HG.out.inv _) HG.out.subs.s8).mono ?_; rintro e w2 ⟨⟨vn, rfl, ho2⟩, hn2, ht2⟩; have HO2 := Lib.hid (own_base ho2 HB0.out.size); have HN2 := Lib.hid hn2; have HT2 := Lib.hid ((Touch.of_below HB0.out).trans ht2); obtain ⟨A2, d2, rfl, -⟩ := own_form ho2; clear ho2 hn2 ht2)
      | fail)
    go_ret
    unfold AskPost
    rw [Hr.out]
    exact ⟨⟨_, rfl, HO2.out⟩, vs, HN2.out, VsTo.refl _ _, HT2.out⟩

end Go.Proofs.Ytmclalhjnjghnaa

namespace Go.Proofs.Ytmclalhjnjghnaa
open Go.RowKit Hw

theorem watch_eq {n : Hw.Node} {id : ByteArray} {e : Int} {l : List Peer} (h1 : sq id n.c.id = false) (h2 : add n.peers id n.c.cap e n.now = (l, 0)) : watch n id e = ({ n with peers := l }, 0) := by
  unfold watch
  rw [if_neg (by rw [h1]; decide), h2, if_pos rfl]

theorem add_peer_ok {id : ByteArray} {E : Int} (hid : idOk id = true) (h1 : 0 ≤ E) (h2 : E ≤ 16777216) : PeerOk (addPeer id 4 E 0) := by
  have hw : winCheck 4 [E] = 0 := by
    refine win_of (by omega) (by omega) (by show (1 : Int) ≤ 4; omega) (listCheck_of (by show 1 ≤ 64; omega) fun x hx => ?_)
    simp at hx
    rw [hx]
    unfold valOk
    simp
    omega
  exact ⟨hid, (show gateCheck ⟨0, 0, 0⟩ = 0 by decide +kernel), hw, by show (0 : Int) ≤ 0; omega, by show (0 : Int) ≤ 1073741824; omega⟩

def I3 : List ByteArray := [nm 0, nm 1, nm 2]

theorem I3_ok : idOk (nm 0) = true ∧ idOk (nm 1) = true ∧ idOk (nm 2) = true ∧ slt (nm 0) (nm 1) = true ∧ slt (nm 0) (nm 2) = true ∧ slt (nm 1) (nm 2) = true ∧ sq (nm 0) (ByteArray.mk #[97]) = false ∧ sq (nm 1) (ByteArray.mk #[97]) = false ∧ sq (nm 2) (ByteArray.mk #[97]) = false := by decide +kernel

theorem ones_peers (every least : Int) : (ones every least 3).peers = [addPeer (nm 0) 4 (1 + within every 50) 0, addPeer (nm 1) 4 (1 + within every 50) 0, addPeer (nm 2) 4 (1 + within every 50) 0] := by
  have hE := within_in (n := every) (k := 50) (by omega)
  obtain ⟨i0, i1, i2, s01, s02, s12, a0, a1, a2⟩ := I3_ok
  have hv : valOk (1 + within every 50) = true := by unfold valOk; simp; omega
  have p0 := add_peer_ok (E := 1 + within every 50) i0 (by omega) (by omega)
  have p1 := add_peer_ok (E := 1 + within every 50) i1 (by omega) (by omega)
  have hno : ¬ ((4 : Int) < 1 ∨ (64 : Int) < 4 ∨ valOk (1 + within every 50) = false ∨ (0 : Int) < 0 ∨ (1073741824 : Int) < 0) := by
    rw [hv]
    simp
  have step : ∀ k l l', (ones every least k).peers = l → add l (nm k) 4 (1 + within every 50) 0 = (l', 0) → sq (nm k) (ByteArray.mk #[97]) = false → (ones every least (k + 1)).peers = l' := by
    intro k l l' h1 h2 h3
    obtain ⟨-, g2, g3, -, -⟩ := ones_same every least k
    show (watch (ones every least k) (nm k) (1 + within every 50)).1.peers = l'
    rw [watch_eq (l := l') (by rw [g2]; exact h3) (by rw [h1, g2, g3]; exact h2)]
  have e0 : (ones every least 0).peers = [] := rfl
  have e1 := step 0 _ [addPeer (nm 0) 4 (1 + within every 50) 0] e0 (add_yes (by decide +kernel) (by rw [i0]; rfl) hno rfl (by decide)) a0
  have q1 : place [addPeer (nm 0) 4 (1 + within every 50) 0] (nm 1) = 1 := by simp [place, addPeer, s01]
  have c1 : peersCheck [addPeer (nm 0) 4 (1 + within every 50) 0] = 0 := (check_iff _).2 ⟨by simp, ⟨p0, fun q hq => (by cases hq), trivial⟩⟩
  have c2 : peersCheck [addPeer (nm 0) 4 (1 + within every 50) 0, addPeer (nm 1) 4 (1 + within every 50) 0] = 0 := (check_iff _).2 ⟨by simp, ⟨p0, fun q hq => (by cases hq), p1, fun q hq => (by injection hq with hq; rw [← hq]; exact s01), trivial⟩⟩
  have e2 := step 1 _ [addPeer (nm 0) 4 (1 + within every 50) 0, addPeer (nm 1) 4 (1 + within every 50) 0] e1 (by
    rw [add_yes c1 (by rw [i1]; rfl) hno (by simp [found, q1]) (by simp), q1]
    rfl) a1
  have q2 : place [addPeer (nm 0) 4 (1 + within every 50) 0, addPeer (nm 1) 4 (1 + within every 50) 0] (nm 2) = 2 := by simp [place, addPeer, s02, s12]
  exact step 2 _ _ e2 (by
    rw [add_yes c2 (by rw [i2]; rfl) hno (by simp [found, q2]) (by simp), q2]
    rfl) a2

theorem ones_good (every least : Int) : Good I3 (ones every least 3) := by
  have hE := within_in (n := every) (k := 50) (by omega)
  have hL := within_in (n := least) (k := 20) (by omega)
  obtain ⟨g1, g2, g3, g4, g5⟩ := ones_same every least 3
  have hp := ones_peers every least
  obtain ⟨i0, i1, i2, s01, s02, s12, -, -, -⟩ := I3_ok
  have p0 := add_peer_ok (E := 1 + within every 50) i0 (by omega) (by omega)
  have p1 := add_peer_ok (E := 1 + within every 50) i1 (by omega) (by omega)
  have p2 := add_peer_ok (E := 1 + within every 50) i2 (by omega) (by omega)
  have hall : ∀ p ∈ (ones every least 3).peers, p.last = 0 ∧ p.cap = 4 ∧ p.vals.length = 1 := by
    intro p hm
    rw [hp] at hm
    simp only [List.mem_cons, List.not_mem_nil, or_false] at hm
    rcases hm with rfl | rfl | rfl <;> exact ⟨rfl, rfl, rfl⟩
  refine ⟨⟨by rw [g2]; show 1 ≤ 1 + within every 50; omega, by rw [g2]; show 1 + within every 50 ≤ 16777216; omega, by rw [g3]; decide, by rw [g3]; decide, ?_, by rw [g5]; decide, by rw [g5]; decide, ?_, ?_, ?_, by rw [g2]; show 1 ≤ 1 + within least 20; omega, by rw [g2]; show 1 + within least 20 ≤ 16777216; omega, by rw [hp]; rfl⟩, ⟨by rw [g1]; simp, by rw [g1]; simp, by rw [g1]; simp, by rw [g1]; simp⟩, fun s hs => by rw [g1] at hs; simp at hs⟩
  · rw [g4, g3]
    simp
  · rw [hp]
    refine (check_iff _).2 ⟨by simp, p0, by simp, p1, fun q hq => ?_, p2, fun q hq => ?_, trivial⟩
    · injection hq with hq
      rw [← hq]
      exact s01
    · injection hq with hq
      rw [← hq]
      exact s12
  · intro p hm
    rw [(hall p hm).1, g3]
    omega
  · intro p hm
    rw [g2]
    exact ⟨(hall p hm).2.1, by rw [(hall p hm).2.2]; exact Nat.le_refl 1⟩

/-- What was asked first. -/
def isHeard (c : List Int) : Bool := decide (0 < c.length) && within (askAt c 0) 5 == 1

theorem H_bad (c : List Int) : (decode (ByteArray.mk #[72] ++ askId c)).2 ≠ 0 := by
  have hs : (ByteArray.mk #[72] ++ askId c).size = 2 := by
    rw [ByteArray.size_append, askId_size]
    rfl
  unfold decode
  rw [if_neg (by omega)]
  split
  · decide
  · rw [if_pos (by omega)]
    decide

theorem asked_good {I : List ByteArray} {n : Hw.Node} (h : Good I n) (c : List Int) : Good I (asked n c).1 ∧ (∀ x ∈ (asked n c).2, x.suspect = true ∧ isHeard c = false ∨ x.suspect = false ∧ isHeard c = true ∧ x.id = askId c) := by
  have hm := within_in (n := askAt c 0) (k := 5) (by omega)
  have hh : within (askAt c 0) 5 ≠ 1 → isHeard c = false := fun e => by
    unfold isHeard
    rw [show (within (askAt c 0) 5 == 1) = false by simpa using e, Bool.and_false]
  unfold asked
  split
  · rename_i h0
    obtain ⟨g1, g2⟩ := good_tick h (1 + within (askAt c 1) 60)
    exact ⟨g1, fun x hx => .inl ⟨g2 x hx, hh (by omega)⟩⟩
  · split
    · rename_i h1
      have hH : isHeard c = true := by
        unfold isHeard
        rw [h1]
        by_cases hc : 0 < c.length
        · simp [hc]
        · exfalso
          have : c = [] := List.length_eq_zero_iff.1 (by omega)
          rw [this] at h1
          revert h1
          decide +kernel
      have h30 := within_in (n := askAt c 2) (k := 30) (by omega)
      obtain ⟨g1, g2⟩ := good_hear h (encode ⟨askId c, 0, 1 + within (askAt c 2) 30⟩).1
      have hidok : idOk (askId c) = true := by
        unfold askId nm4
        split <;> decide +kernel
      have hb : beatCheck ⟨askId c, 0, 1 + within (askAt c 2) 30⟩ = 0 := by
        unfold beatCheck
        rw [if_neg (by rw [hidok]; decide), if_neg]
        show ¬ ((0 : Int) < 0 ∨ (2147483648 : Int) ≤ 0 ∨ 1 + within (askAt c 2) 30 < 1 ∨ 2147483648 ≤ 1 + within (askAt c 2) 30)
        omega
      rw [decode_encode hb] at g2
      exact ⟨g1, fun x hx => .inr ⟨(g2 x hx).1, hH, (g2 x hx).2⟩⟩
    · rename_i h1
      split
      · obtain ⟨g1, g2⟩ := good_join h (askId c) (1 + within (askAt c 2) 12)
        exact ⟨g1, fun x hx => .inl ⟨g2 x hx, hh h1⟩⟩
      · split
        · exact ⟨good_part h _ _, by simp⟩
        · obtain ⟨g1, g2⟩ := good_hear h (ByteArray.mk #[72] ++ askId c)
          refine ⟨g1, fun x hx => ?_⟩
          have hz : (nhear n (ByteArray.mk #[72] ++ askId c)).2.1 = [] := by
            unfold nhear
            rw [if_pos (H_bad c)]
          have hx' : x ∈ (nhear n (ByteArray.mk #[72] ++ askId c)).2.1 := hx
          rw [hz] at hx'
          cases hx'

/-- The node behind so many turns. -/
def askedAll (n : Hw.Node) (L : List (List Int)) (k : Nat) : Hw.Node := (L.take k).foldl (fun n c => (asked n c).1) n

theorem askedAll_succ (n : Hw.Node) (L : List (List Int)) (k : Nat) (hk : k < L.length) : askedAll n L (k + 1) = (asked (askedAll n L k) L[k]).1 := by
  unfold askedAll
  rw [List.take_succ_eq_append_getElem hk, List.foldl_append]
  rfl

theorem askedAll_good {I : List ByteArray} {n : Hw.Node} (h : Good I n) (L : List (List Int)) : ∀ k, Good I (askedAll n L k) := by
  intro k
  unfold askedAll
  induction L.take k generalizing n with
  | nil => exact h
  | cons c t ih => exact ih (asked_good h c).1

/-- A slice of slices of numbers. -/
def ListsR (w : World) (A : Option Addr) (L : List (List Int)) : Prop :=
  0 < L.length → ∃ b off, A = some ⟨b, off, none⟩ ∧ ∀ k (h : k < L.length), ∃ A' c', w.cell? ⟨b, off + k, none⟩ = some (.slice A' (L[k]).length c') ∧ Ints w A' L[k] ∧ (L[k]).length ≤ 17592186044416

theorem ListsR.below {w w' : World} {A : Option Addr} {L : List (List Int)} (h : ListsR w A L) (hb : Below w.heap.size w w') : ListsR w' A L := fun h0 => by
  obtain ⟨b, off, e, hc⟩ := h h0
  exact ⟨b, off, e, fun k hk => by
    obtain ⟨A', c', h1, h2, h3⟩ := hc k hk
    exact ⟨A', c', bsome hb h1, h2.below hb, h3⟩⟩

theorem ListsR.take {w : World} {A : Option Addr} {L : List (List Int)} (h : ListsR w A L) (k : Nat) : ListsR w A (L.take k) := fun h0 => by
  obtain ⟨b, off, e, hc⟩ := h (by simp at h0; omega)
  refine ⟨b, off, e, fun j hj => ?_⟩
  obtain ⟨A', c', h1, h2, h3⟩ := hc j (by simp at hj; omega)
  have e2 : (L.take k)[j] = L[j]'(by simp at hj; omega) := List.getElem_take
  rw [e2]
  exact ⟨A', c', h1, h2, h3⟩

theorem take_min {α : Type} (L : List α) (k : Nat) : min (L.length : Int) (k : Int) = ((L.take k).length : Int) := by
  rw [List.length_take]
  omega

/-- Where a node stands in memory that is new. -/
def NewAt (w0 w : World) (b : Nat) (n : Hw.Node) : Prop := ∃ vs, NodeAt w b vs n ∧ (∀ q, some q = vs.ownBlock → w0.heap.size ≤ q) ∧ Below w0.heap.size w0 w

theorem NewAt.below {w0 w w' : World} {b : Nat} {n : Hw.Node} (h : NewAt w0 w b n) (hb : Below w.heap.size w w') : NewAt w0 w' b n := by
  obtain ⟨vs, h1, h2, h3⟩ := h
  exact ⟨vs, h1.below hb, h2, h3.trans (hb.mono h3.size)⟩

theorem NewAt.post {w0 w w' : World} {b : Nat} {vs vs' : Value} {n' : Hw.Node} (hs : ∀ q, some q = vs.ownBlock → w0.heap.size ≤ q) (hb : Below w0.heap.size w0 w) (hbl : w0.heap.size ≤ b) (hn : NodeAt w' b vs' n') (hv : VsTo vs vs' w) (ht : Touch (NodeS b vs) w w') : NewAt w0 w' b n' := by
  refine ⟨vs', hn, fun q hq => ?_, Touch.below hb ht hb.size fun k hk => ?_⟩
  · rcases hv q hq with e | e
    · exact hs q e
    · exact Nat.le_trans hb.size e
  · rintro (e | e)
    · omega
    · have := hs k e
      omega

theorem askedAll_zero (n : Hw.Node) (L : List (List Int)) : askedAll n L 0 = n := rfl

theorem own_len {w : World} {B n s : Nat} {e : TypeId} {v : Value} {xs : List Value} (h : w.ownsRow B e s v n xs) : n ≤ 9223372036854775807 := by
  rcases h.2 with ⟨_, e2⟩ | ⟨g, cap, cur, _, _, _, e4, e5, _⟩
  · omega
  · simp only [maxLen] at e5
    omega

/-- One note of a row of notes. -/
theorem note_at {w : World} {B m c : Nat} {A : Option Addr} {l : List Note} (h : w.ownsRow B 74 3 (.slice A m c) l.length (notesCells l)) {k : Nat} (hk : k < l.length) : ∃ g, A = some ⟨g, 0, none⟩ ∧ B ≤ g ∧ m = l.length ∧
    w.cell? ⟨g, k * 3, none⟩ = some (.string (l[k]).id) ∧ w.cell? ⟨g, k * 3 + 1, none⟩ = some (.int .i64 (l[k]).theta) ∧ w.cell? ⟨g, k * 3 + 2, none⟩ = some (.bool (l[k]).suspect) := by
  have hget : ∀ (l : List Note) (k j : Nat) (hk : k < l.length) (_ : j < 3), (notesCells l)[k * 3 + j]? = (noteCells l[k])[j]? := by
    intro l
    induction l with
    | nil => intro k j hk; simp at hk
    | cons s t ih =>
      intro k j hk hj
      show (noteCells s ++ notesCells t)[k * 3 + j]? = _
      cases k with
      | zero =>
        rw [List.getElem?_append_left (by show 0 * 3 + j < 3; omega)]
        simp
      | succ k =>
        rw [List.getElem?_append_right (by show 3 ≤ (k + 1) * 3 + j; omega), show (k + 1) * 3 + j - (noteCells s).length = k * 3 + j by show (k + 1) * 3 + j - 3 = k * 3 + j; omega, ih k j (by simpa using hk) hj]
        simp
  rcases h.2 with ⟨e, e2⟩ | ⟨g, cap, cur, e, hB, _⟩
  · omega
  · injection e with e1 e2 e3
    subst e1 e3
    have hcell : ∀ j u, j < 3 → (noteCells l[k])[j]? = some u → w.cell? ⟨g, k * 3 + j, none⟩ = some u := by
      intro j u hj hu
      have hc := h.cells (g := g) rfl (k * 3 + j) u (by rw [hget l k j hk hj]; exact hu)
      rw [add_lit, Nat.zero_add] at hc
      exact hc
    exact ⟨g, rfl, hB, e2, hcell 0 _ (by omega) rfl, hcell 1 _ (by omega) rfl, hcell 2 _ (by omega) rfl⟩

end Go.Proofs.Ytmclalhjnjghnaa
