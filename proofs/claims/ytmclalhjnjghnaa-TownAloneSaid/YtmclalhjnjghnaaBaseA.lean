/- The plain model of the failure detector's data and functions: what the Go code computes, in plain Lean, with no program in sight. The plain model of levels, texts of beats, nodes and towns: what the Go code computes, in plain Lean, with no program in sight. Words for memory: what a slice of numbers, a peer and a slice of peers read as in a world; and that they stay so while nothing below is written. The contracts of the small functions: Within, win.Val, beat.Id, gate.Check, win.List, win.Check, beat.Check, gate.Take. The contracts of the small functions, further: win.List, win.Check, beat.Check, gate.Take. The contract of peers.Check. A region that draws its order, told slot by slot: what each operation yields, whatever order is drawn, where each operation only lets the memory grow. A region that draws its order, told slot by slot, where operations also write: what holds of the world hangs on which operations have run. -/
import GoSem.Op.String
import Derived.Test.YtmclalhjnjghnaaProg
import Derived.WalkKit
import Derived.WalkSpells
import Derived.WalkLawsBesides
import Derived.Lib.Hide
import Derived.BigQuiet
import Derived.Deep.QuietTactic
import Derived.RegionTactic
import Derived.Maps.AppendAt
namespace Go.Proofs.Ytmclalhjnjghnaa.Hw
open Go

/-- Bytes compared as Go compares strings. -/
def slt (a b : ByteArray) : Bool := Op.bytesLess a.toList b.toList

/-- Are they one string? -/
def sq (a b : ByteArray) : Bool := a.toList == b.toList

structure Gate where
  inc : Int
  seq : Int
  drops : Int

structure Peer where
  id : ByteArray
  gate : Gate
  cap : Int
  vals : List Int
  last : Int

structure Sub where
  id : ByteArray
  theta : Int
  on : Bool

structure Config where
  id : ByteArray
  inc : Int
  every : Int
  cap : Int
  least : Int

structure Note where
  id : ByteArray
  theta : Int
  suspect : Bool

structure Beat where
  id : ByteArray
  inc : Int
  seq : Int

def valOk (n : Int) : Bool := decide (0 ≤ n) && decide (n ≤ 16777216)

def listCheck (l : List Int) : Int := if 64 < l.length then 2 else if l.any (fun n => !valOk n) then 1 else 0

def winCheck (cap : Int) (vals : List Int) : Int :=
  if cap < 1 ∨ 64 < cap then 1 else if cap < (vals.length : Int) then 2 else listCheck vals

def gateCheck (g : Gate) : Int :=
  if g.inc < 0 ∨ 2147483648 ≤ g.inc ∨ g.seq < 0 ∨ 2147483648 ≤ g.seq ∨ g.drops < 0 ∨ 1073741824 < g.drops ∨ (g.seq = 0 ∧ g.inc ≠ 0) then 1 else 0

def idOk (s : ByteArray) : Bool := decide (0 < s.size) && decide (s.size ≤ 8) && s.data.toList.all (fun c => decide (97 ≤ c.toNat) && decide (c.toNat ≤ 122))

/-- What 'peers.Check' says of one peer, whose neighbour's name is 'prev'. -/
def chk1 (prev : Option ByteArray) (p : Peer) : Int :=
  if idOk p.id = false then 3
  else if gateCheck p.gate ≠ 0 then gateCheck p.gate
  else if winCheck p.cap p.vals ≠ 0 then winCheck p.cap p.vals
  else if p.last < 0 ∨ 1073741824 < p.last then 1
  else match prev with
    | none => 0
    | some q => if slt q p.id then 0 else 3

def chkFrom : Option ByteArray → List Peer → Int
  | _, [] => 0
  | prev, p :: t => if chk1 prev p ≠ 0 then chk1 prev p else chkFrom (some p.id) t

def peersCheck (l : List Peer) : Int := if 6 < l.length then 2 else chkFrom none l

/-- How many at the list's head have a lesser name. -/
def place (l : List Peer) (id : ByteArray) : Nat := (l.takeWhile (fun p => slt p.id id)).length

def found (l : List Peer) (id : ByteArray) : Bool := match l[place l id]? with
  | some p => sq p.id id
  | none => false

def beatCheck (b : Beat) : Int :=
  if idOk b.id = false then 3
  else if b.inc < 0 ∨ 2147483648 ≤ b.inc ∨ b.seq < 1 ∨ 2147483648 ≤ b.seq then 1 else 0

/-- 'gate.Take'. -/
def take (g : Gate) (inc seq : Int) : Gate × Bool × Int :=
  if gateCheck g ≠ 0 then (⟨0, 0, 0⟩, false, gateCheck g)
  else if inc < 0 ∨ 2147483648 ≤ inc ∨ seq < 1 ∨ 2147483648 ≤ seq then (⟨0, 0, 0⟩, false, 1)
  else if g.inc < inc ∨ (inc = g.inc ∧ g.seq < seq) then (⟨inc, seq, g.drops⟩, true, 0)
  else (⟨g.inc, g.seq, min (g.drops + 1) 1073741824⟩, false, 0)

/-- The values of 'win.Push', where the window may be and the value, too. -/
def pushed (cap : Int) (vals : List Int) (n : Int) : List Int :=
  (if (vals.length : Int) = cap then vals.tail else vals) ++ [n]

def addPeer (id : ByteArray) (size first now : Int) : Peer := ⟨id, ⟨0, 0, 0⟩, size, [first], now⟩

def insertAt {α : Type} (l : List α) (i : Nat) (p : α) : List α := l.take i ++ p :: l.drop i

/-- 'peers.Add'. -/
def add (l : List Peer) (id : ByteArray) (size first now : Int) : List Peer × Int :=
  if peersCheck l ≠ 0 then ([], peersCheck l)
  else if idOk id = false then ([], 3)
  else if size < 1 ∨ 64 < size ∨ valOk first = false ∨ now < 0 ∨ 1073741824 < now then ([], 1)
  else if found l id then ([], 5)
  else if l.length = 6 then ([], 10)
  else (insertAt l (place l id) (addPeer id size first now), 0)

/-- 'peers.Drop'. -/
def drop (l : List Peer) (id : ByteArray) : List Peer × Int :=
  if peersCheck l ≠ 0 then ([], peersCheck l)
  else if found l id = false then ([], 4)
  else (l.eraseIdx (place l id), 0)

/-- A peer that hears, at 'now'. -/
def heard (p : Peer) (b : Beat) (now : Int) : Peer :=
  let t := take p.gate b.inc b.seq
  if t.2.1 then { p with gate := t.1, vals := pushed p.cap p.vals (min (now - p.last) 16777216), last := now }
  else { p with gate := t.1 }

/-- 'peers.Hear'. -/
def hear (l : List Peer) (b : Beat) (now : Int) : List Peer × Bool × Int :=
  if peersCheck l ≠ 0 then ([], false, peersCheck l)
  else if beatCheck b ≠ 0 then ([], false, beatCheck b)
  else if now < 0 ∨ 1073741824 < now then ([], false, 1)
  else match l[place l b.id]? with
    | none => ([], false, 4)
    | some p =>
      if sq p.id b.id = false then ([], false, 4)
      else if now < p.last then ([], false, 1)
      else (l.set (place l b.id) (heard p b now), (take p.gate b.inc b.seq).2.1, 0)

end Go.Proofs.Ytmclalhjnjghnaa.Hw

namespace Go.Proofs.Ytmclalhjnjghnaa.Hw
open Go

def sumOf (l : List Int) : Int := l.foldl (· + ·) 0
def sqOf (l : List Int) : Int := l.foldl (fun a x => a + x * x) 0

/-- 'stat.Check' of sums n, s, q. -/
def statCheck (n s q : Int) : Int :=
  if n < 0 ∨ 64 < n ∨ s < 0 ∨ q < 0 ∨ n * 16777216 < s ∨ s * 16777216 < q ∨ q < s then 1
  else if n * q < s * s then 9 else 0

/-- 'level.spread', of a window's values: the greater of the spread and the least one. -/
def spread (l : List Int) (least : Int) : Int :=
  let n : Int := l.length
  let s := sumOf l
  let q := sqOf l
  max (if statCheck n s q ≠ 0 then 0 else n * q - s * s) (n * n * least * least)

/-- 'level.Of'. -/
def levelOf (cap : Int) (vals : List Int) (least since : Int) : Int × Int :=
  if winCheck cap vals ≠ 0 then (0, winCheck cap vals)
  else if least < 1 ∨ 16777216 < least then (0, 1)
  else if vals.length = 0 then (0, 4)
  else if since < 0 ∨ 1073741824 < since then (0, 1)
  else
    let d : Int := vals.length * since - sumOf vals
    if d ≤ 0 then (0, 0)
    else (((spread vals least + d * d) / spread vals least).toNat.log2, 0)

structure Node where
  c : Config
  now : Int
  seq : Int
  drops : Int
  peers : List Peer
  subs : List Sub

/-- 'node.Check'. -/
def configCheck (c : Config) : Int :=
  if idOk c.id = false then 3
  else if c.inc < 0 ∨ 2147483648 ≤ c.inc ∨ c.every < 1 ∨ valOk c.every = false ∨ c.cap < 1 ∨ 64 < c.cap ∨ c.least < 1 ∨ valOk c.least = false then 1 else 0

/-- '(*Node).Level'. -/
def level (n : Node) (id : ByteArray) : Int × Int :=
  match n.peers.find? (fun p => sq p.id id) with
  | none => (0, 4)
  | some p => levelOf p.cap p.vals n.c.least (n.now - p.last)

/-- Is a sub to be told that it is suspected, now? -/
def onNow (n : Node) (s : Sub) : Bool := decide (s.theta ≤ (level n s.id).1)

def toldSubs (n : Node) : List Sub := n.subs.map (fun s => { s with on := onNow n s })

def toldNotes (n : Node) : List Note :=
  n.subs.filterMap (fun s => if onNow n s == s.on then none else some ⟨s.id, s.theta, onNow n s⟩)

def told (n : Node) : Node × List Note := ({ n with subs := toldSubs n }, toldNotes n)

end Go.Proofs.Ytmclalhjnjghnaa.Hw

namespace Go.Proofs.Ytmclalhjnjghnaa
open Go.RowKit Hw

theorem ret_int {k : IntKind} {a b : Int} (h : a = b) : Ending.returned (.int k a) = .returned (.int k b) := by rw [h]
theorem ret_bool {a b : Bool} (h : a = b) : Ending.returned (.bool a) = .returned (.bool b) := by rw [h]
theorem ret_val {a b : Value} (h : a = b) : Ending.returned a = .returned b := by rw [h]

/-- What a caller keeps of its own cells behind a call that writes nothing old. -/
theorem bcell {W w1 : World} (hb : Below W.heap.size W w1) :
    (∀ b o, b < W.heap.size → w1.cell? ⟨b, o, none⟩ = W.cell? ⟨b, o, none⟩) ∧ (∀ b o, b < W.heap.size → w1.frozen? ⟨b, o, none⟩ = W.frozen? ⟨b, o, none⟩) ∧ W.heap.size ≤ w1.heap.size :=
  ⟨fun b o h => hb.cell (p := ⟨b, o, none⟩) h, fun b o h => hb.frozen (p := ⟨b, o, none⟩) h, hb.size⟩

theorem blt {w : World} {b o : Nat} {v : Value} (h : w.cell? ⟨b, o, none⟩ = some v) : b < w.heap.size := World.block_lt_of_cell? w _ h

/-- Cells that stand in w stand in every world that keeps the blocks of w. -/
theorem bsome {w w' : World} (hb : Below w.heap.size w w') {b o : Nat} {v : Value} (h : w.cell? ⟨b, o, none⟩ = some v) : w'.cell? ⟨b, o, none⟩ = some v :=
  (hb.cell (p := ⟨b, o, none⟩) (blt h)).trans h

theorem below_drewN {B : Nat} {a w : World} (h : Below B a w) (n : Nat) : Below B a (w.drewN n) := ⟨h.os, h.tape, h.output, h.size, h.block⟩

theorem keepBlk {W w1 : World} (hb : Below W.heap.size W w1) {g : Nat} {c : Array Value} {t : TypeId} (h : W.heap[g]? = some (.cells c t (0, 0))) :
    (∀ i, w1.cell? ⟨g, i, none⟩ = c[i]?) ∧ (∀ i, w1.frozen? ⟨g, i, none⟩ = false) := by
  have hg : g < W.heap.size := (Array.getElem?_eq_some_iff.1 h).1
  have h1 : w1.heap[g]? = some (.cells c t (0, 0)) := (hb.block g hg).trans h
  exact ⟨fun i => cell_of_row w1 g i c t (0, 0) h1, fun i => by simp [World.frozen?, h1]⟩

/-- One block laid ahead of a call: what it holds behind the call. -/
theorem keep1 {w w1 : World} {c : Array Value} {t : TypeId} (hb : Below (w.alloc (.cells c t)).heap.size (w.alloc (.cells c t)) w1) :
    (∀ i, w1.cell? ⟨w.heap.size, i, none⟩ = c[i]?) ∧ (∀ i, w1.frozen? ⟨w.heap.size, i, none⟩ = false) ∧ w.heap.size < w1.heap.size ∧ Below w.heap.size w w1 := by
  obtain ⟨h1, h2⟩ := keepBlk hb (heap_alloc_new w _)
  refine ⟨h1, h2, ?_, ((Below.refl _ _).alloc (Nat.le_refl _) _).trans (hb.mono (by simp))⟩
  have := hb.size
  simp at this
  omega

theorem keep2 {w w1 : World} {c d : Array Value} {t u : TypeId} (hb : Below ((w.alloc (.cells c t)).alloc (.cells d u)).heap.size ((w.alloc (.cells c t)).alloc (.cells d u)) w1) :
    (∀ i, w1.cell? ⟨w.heap.size, i, none⟩ = c[i]?) ∧ (∀ i, w1.frozen? ⟨w.heap.size, i, none⟩ = false) ∧
    (∀ i, w1.cell? ⟨w.heap.size + 1, i, none⟩ = d[i]?) ∧ (∀ i, w1.frozen? ⟨w.heap.size + 1, i, none⟩ = false) ∧ w.heap.size + 1 < w1.heap.size ∧ Below w.heap.size w w1 := by
  have e : ((w.alloc (.cells c t)).alloc (.cells d u)).heap[w.heap.size]? = some (.cells c t (0, 0)) :=
    (Below.heap_alloc _ _ _ (by simp)).trans (heap_alloc_new w _)
  obtain ⟨h1, h2⟩ := keepBlk hb e
  have e2 : ((w.alloc (.cells c t)).alloc (.cells d u)).heap[w.heap.size + 1]? = some (.cells d u (0, 0)) := by
    have := heap_alloc_new (w.alloc (.cells c t)) (.cells d u)
    simpa using this
  obtain ⟨h3, h4⟩ := keepBlk hb e2
  refine ⟨h1, h2, h3, h4, ?_, (((Below.refl _ _).alloc (Nat.le_refl _) _).alloc (by simp) _).trans (hb.mono (by simp; omega))⟩
  have := hb.size
  simp at this
  omega

/-- A slice of numbers. -/
def Ints (w : World) (A : Option Addr) (xs : List Int) : Prop :=
  0 < xs.length → ∃ b off, A = some ⟨b, off, none⟩ ∧ ∀ j, j < xs.length → w.cell? ⟨b, off + j, none⟩ = some (.int .i64 (xs.getD j 0))

theorem Ints.below {w w' : World} {A : Option Addr} {xs : List Int} (h : Ints w A xs) (hb : Below w.heap.size w w') : Ints w' A xs := fun h0 => by
  obtain ⟨b, off, e, hc⟩ := h h0
  exact ⟨b, off, e, fun j hj => bsome hb (hc j hj)⟩

/-- A peer whose seven cells begin at o. -/
def PeerAt (w : World) (b o : Nat) (p : Peer) : Prop :=
  ∃ A c, w.cell? ⟨b, o, none⟩ = some (.string p.id) ∧ w.cell? ⟨b, o + 1, none⟩ = some (.int .i64 p.gate.inc) ∧
    w.cell? ⟨b, o + 2, none⟩ = some (.int .i64 p.gate.seq) ∧ w.cell? ⟨b, o + 3, none⟩ = some (.int .i64 p.gate.drops) ∧
    w.cell? ⟨b, o + 4, none⟩ = some (.int .i64 p.cap) ∧ w.cell? ⟨b, o + 5, none⟩ = some (.slice A p.vals.length c) ∧
    w.cell? ⟨b, o + 6, none⟩ = some (.int .i64 p.last) ∧ Ints w A p.vals ∧ p.vals.length ≤ c

theorem PeerAt.below {w w' : World} {b o : Nat} {p : Peer} (h : PeerAt w b o p) (hb : Below w.heap.size w w') : PeerAt w' b o p := by
  obtain ⟨A, c, h0, h1, h2, h3, h4, h5, h6, hi, hc⟩ := h
  exact ⟨A, c, bsome hb h0, bsome hb h1, bsome hb h2, bsome hb h3, bsome hb h4, bsome hb h5, bsome hb h6, hi.below hb, hc⟩

/-- A slice of peers. -/
def PeersR (w : World) (A : Option Addr) (l : List Peer) : Prop :=
  0 < l.length → ∃ b off, A = some ⟨b, off, none⟩ ∧ ∀ k (h : k < l.length), PeerAt w b (off + k * 7) (l[k])

theorem PeersR.below {w w' : World} {A : Option Addr} {l : List Peer} (h : PeersR w A l) (hb : Below w.heap.size w w') : PeersR w' A l := fun h0 => by
  obtain ⟨b, off, e, hc⟩ := h h0
  exact ⟨b, off, e, fun k hk => (hc k hk).below hb⟩

end Go.Proofs.Ytmclalhjnjghnaa

namespace Go.Proofs.Ytmclalhjnjghnaa
open Go.RowKit Hw

set_option maxHeartbeats 400000 in
theorem val_any (n : Int) (w : World) :
    Calls Try.prog 84 #[.int .i64 n] w fun e w' => e = .returned (.bool (valOk n)) ∧ w = w' := by
  go_enter Try.func84, Try.ntmps84
  go_wp2
  all_goals
    go_ret
    exact ⟨ret_bool (by simp [valOk] <;> omega), rfl⟩

set_option maxHeartbeats 400000 in
theorem gcheck_any (g : Gate) (w : World) :
    Calls Try.prog 104 #[.agg #[.int .i64 g.inc, .int .i64 g.seq, .int .i64 g.drops]] w fun e w' => e = .returned (.int .i64 (gateCheck g)) ∧ Below w.heap.size w w' := by
  obtain ⟨i, s, d⟩ := g
  go_enter Try.func104, Try.ntmps104
  go_wp2
  all_goals
    go_ret
    exact ⟨ret_int (by simp_all [gateCheck] <;> omega), (Below.refl _ _).alloc (Nat.le_refl _) _⟩

theorem all_take_succ (s : ByteArray) (k : Nat) (h : k < s.size) (p : UInt8 → Bool) :
    (s.data.toList.take (k + 1)).all p = ((s.data.toList.take k).all p && p s[k]) := by
  rw [List.take_succ_eq_append_getElem (by simpa using h)]
  simp
  rfl

theorem not_all_of (l : List UInt8) (k : Nat) (h : k < l.length) (p : UInt8 → Bool) (hp : p l[k] = false) : l.all p = false := by
  rw [List.all_eq_false]
  exact ⟨l[k], List.getElem_mem h, by simp [hp]⟩

theorem toList_nil_of (s : ByteArray) (h : s.size = 0) : s.toList = [] := by
  have := ByteArray.toList_eq s
  rw [this]
  obtain ⟨⟨l⟩⟩ := s
  simpa [ByteArray.size] using h

theorem bad_id (s : ByteArray) (k : Nat) (h : k < s.size) (hb : ¬ (97 ≤ s[k].toNat ∧ s[k].toNat ≤ 122)) : idOk s = false := by
  have := not_all_of s.data.toList k (by simpa using h) (fun c => decide (97 ≤ c.toNat) && decide (c.toNat ≤ 122)) (by
    show (decide (97 ≤ (s[k]).toNat) && decide ((s[k]).toNat ≤ 122)) = false
    by_cases h1 : 97 ≤ s[k].toNat
    · have : ¬ s[k].toNat ≤ 122 := fun h2 => hb ⟨h1, h2⟩
      simp [this]
    · simp [h1])
  simp only [idOk, this, Bool.and_false]

set_option maxHeartbeats 400000 in
theorem id_any (s : ByteArray) (w : World) :
    Calls Try.prog 83 #[.string s] w fun e w' => e = .returned (.bool (idOk s)) ∧ w = w' := by
  by_cases h0 : s.size = 0
  · have hn : s.toList = [] := toList_nil_of s h0
    go_enter Try.func83, Try.ntmps83
    go_wp2
    go_ret
    exact ⟨ret_bool (by simp [idOk, h0]), rfl⟩
  · have hn : ¬ s.toList = [] := by
      intro h
      have := ByteArray.toList_eq s
      rw [h] at this
      apply h0
      show s.data.size = 0
      rw [← Array.length_toList, ← this]
      rfl
    have hn2 : s.toList.isEmpty = false := by simpa using hn
    by_cases h8 : 8 < s.size
    · go_enter Try.func83, Try.ntmps83
      go_wp2
      go_ret
      exact ⟨ret_bool (by simp [idOk]; intro _ h; omega), rfl⟩
    · have h8' : s.size ≤ 8 := by omega
      clear h8
      go_enter Try.func83, Try.ntmps83
      go_wp2
      go_loop [13] (fun i => ∃ k : Nat, k ≤ s.size ∧ i = .int .i64 k ∧ Hid ((s.data.toList.take k).all (fun c => decide (97 ≤ c.toNat) && decide (c.toNat ≤ 122)) = true)) (fun i => s.size - (intOf i).toNat)
      case atStart => exact ⟨0, Nat.zero_le _, rfl, by simp [Hid]⟩
      case round =>
        obtain ⟨k, hk, rfl, HH⟩ := hrel
        by_cases hlt : k < s.size
        · have hkk : (k : Int) < (s.size : Int) := by omega
          go_wp2
          · go_ret
            exact ⟨ret_bool (bad_id s k hlt (by omega)).symm, rfl⟩
          · go_round
            case rel => exact ⟨k + 1, by omega, by go_num, by
              show _ = true
              rw [all_take_succ s k hlt, HH.out]
              simp; omega⟩
            case measure => simp [intOf]; omega
          · go_ret
            exact ⟨ret_bool (bad_id s k hlt (by omega)).symm, rfl⟩
        · go_wp2
          go_ret
          exact ⟨ret_bool (by
            have := HH.out
            rw [List.take_of_length_le (by simp; omega)] at this
            simp only [idOk, this]
            simp; omega), rfl⟩


set_option maxHeartbeats 400000 in
theorem list1_any (n : Int) (w : World) :
    Calls Try.prog 137 #[.int .i64 n] w fun e w' => e = .returned (.bool (!valOk n)) ∧ w = w' := by
  go_enter Try.func137, Try.ntmps137
  go_wp2_with (go_at_call 84; refine (val_any _ _).mono ?_; rintro e w1 ⟨rfl, rfl⟩)
  go_ret
  exact ⟨rfl, rfl⟩

theorem any_take_succ (l : List Int) (k : Nat) (h : k < l.length) (p : Int → Bool) :
    (l.take (k + 1)).any p = ((l.take k).any p || p (l.getD k 0)) := by
  rw [List.take_succ_eq_append_getElem h, List.any_append]
  simp [List.getD_eq_getElem?_getD, h]

set_option maxHeartbeats 400000 in
theorem indexBad_any (A : Option Addr) (c : Nat) (l : List Int) (w : World) (h : Ints w A l) (hl : l.length ≤ 64) :
    Calls Try.prog 154 #[.slice A l.length c, .func (.func 137) #[] #[]] w fun e w' => (∃ i : Int, e = .returned (.int .i64 i) ∧ decide (0 ≤ i) = l.any (fun n => !valOk n)) ∧ w = w' := by
  go_enter Try.func154, Try.ntmps154
  go_wp2
  go_loop [8] (fun i => ∃ k : Nat, k ≤ l.length ∧ i = .int .i64 k ∧ Hid ((l.take k).any (fun n => !valOk n) = false)) (fun i => l.length - (intOf i).toNat)
  case atStart => exact ⟨0, Nat.zero_le _, rfl, by simp [Hid]⟩
  case round =>
    obtain ⟨k, hk, rfl, HH⟩ := hrel
    by_cases hlt : k < l.length
    · obtain ⟨b, off, rfl, hc⟩ := h (by omega)
      have hck := hc k hlt
      clear hc
      have hkk : (k : Int) < (l.length : Int) := by omega
      go_wp2_with (go_at_call 137; refine (list1_any _ _).mono ?_; rintro e w1 ⟨rfl, rfl⟩)
      · have hbad : (!valOk l[k]) = true := by assumption
        go_ret
        exact ⟨⟨k, rfl, by
          rw [List.any_eq_true.2 ⟨l[k], List.getElem_mem hlt, hbad⟩]
          simp⟩, rfl⟩
      · have hgood : (!valOk l[k]) = false := by assumption
        go_round
        case rel => exact ⟨k + 1, by omega, by go_num, by
          show _ = false
          rw [any_take_succ l k hlt, HH.out]
          simpa [List.getD_eq_getElem?_getD, hlt] using hgood⟩
        case measure => simp [intOf]; omega
    · go_wp2
      go_ret
      exact ⟨⟨-1, rfl, by
        have := HH.out
        rw [List.take_of_length_le (by omega)] at this
        rw [this]; rfl⟩, rfl⟩

end Go.Proofs.Ytmclalhjnjghnaa

namespace Go.Proofs.Ytmclalhjnjghnaa
open Go.RowKit Hw

set_option maxHeartbeats 400000 in
theorem containsBad_any (A : Option Addr) (c : Nat) (l : List Int) (w : World) (h : Ints w A l) (hl : l.length ≤ 64) :
    Calls Try.prog 136 #[.slice A l.length c, .func (.func 137) #[] #[]] w fun e w' => e = .returned (.bool (l.any (fun n => !valOk n))) ∧ w = w' := by
  go_enter Try.func136, Try.ntmps136
  go_wp2_with (go_at_call 154; refine (indexBad_any A c l _ h hl).mono ?_; rintro e w1 ⟨⟨i, rfl, hi⟩, rfl⟩; have Hi := Lib.hid hi; clear hi)
  go_ret
  exact ⟨ret_bool Hi.out, rfl⟩

set_option maxHeartbeats 400000 in
theorem list_any (A : Option Addr) (c : Nat) (l : List Int) (w : World) (h : Ints w A l) :
    Calls Try.prog 114 #[.slice A l.length c] w fun e w' => e = .returned (.int .i64 (listCheck l)) ∧ w = w' := by
  by_cases hl : 64 < l.length
  · go_enter Try.func114, Try.ntmps114
    go_wp2_with fail
    go_ret
    exact ⟨ret_int (by simp [listCheck, hl]), rfl⟩
  · have hl' : l.length ≤ 64 := by omega
    have Hh := Lib.hid h
    go_enter Try.func114, Try.ntmps114
    go_wp2_with (go_at_call 136; refine (containsBad_any A c l _ Hh.out hl').mono ?_; rintro e w1 ⟨rfl, rfl⟩)
    · have hb : (l.any fun n => !valOk n) = true := by assumption
      go_ret
      exact ⟨ret_int (by rw [listCheck, if_neg hl, if_pos hb]), rfl⟩
    · have hb : (l.any fun n => !valOk n) = false := by assumption
      go_ret
      exact ⟨ret_int (by rw [listCheck, if_neg hl, hb]; rfl), rfl⟩

set_option maxHeartbeats 400000 in
theorem wcheck_any (cap : Int) (A : Option Addr) (c : Nat) (l : List Int) (w : World) (h : Ints w A l) :
    Calls Try.prog 105 #[.agg #[.int .i64 cap, .slice A l.length c]] w fun e w' => e = .returned (.int .i64 (winCheck cap l)) ∧ Below w.heap.size w w' := by
  have Hh := Lib.hid h
  clear h
  go_enter Try.func105, Try.ntmps105
  go_wp2_with (go_at_call 114; refine (list_any A c l _ (Hh.out.below ((Below.refl _ _).alloc (Nat.le_refl _) _))).mono ?_; rintro e w1 ⟨rfl, rfl⟩)
  all_goals
    go_ret
    exact ⟨ret_int (by unfold winCheck; split <;> (try split) <;> omega), (Below.refl _ _).alloc (Nat.le_refl _) _⟩

set_option maxHeartbeats 400000 in
theorem bcheck_any (b : Beat) (w : World) :
    Calls Try.prog 89 #[.agg #[.string b.id, .int .i64 b.inc, .int .i64 b.seq]] w fun e w' => e = .returned (.int .i64 (beatCheck b)) ∧ Below w.heap.size w w' := by
  obtain ⟨id, inc, seq⟩ := b
  go_enter Try.func89, Try.ntmps89
  go_wp2_with (go_at_call 83; refine (id_any id _).mono ?_; rintro e w1 ⟨rfl, rfl⟩)
  all_goals
    go_ret
    exact ⟨ret_int (by simp_all [beatCheck] <;> omega), (Below.refl _ _).alloc (Nat.le_refl _) _⟩

theorem gate_bounds {g : Gate} (h : gateCheck g = 0) : 0 ≤ g.inc ∧ g.inc < 2147483648 ∧ 0 ≤ g.seq ∧ g.seq < 2147483648 ∧ 0 ≤ g.drops ∧ g.drops ≤ 1073741824 := by
  unfold gateCheck at h
  split at h
  · cases h
  · omega

def takeV (t : Gate × Bool × Int) : Value := .tuple #[.agg #[.int .i64 t.1.inc, .int .i64 t.1.seq, .int .i64 t.1.drops], .bool t.2.1, .int .i64 t.2.2]

theorem take_bad {g : Gate} {inc seq : Int} (hg : gateCheck g = 0) (h : inc < 0 ∨ 2147483648 ≤ inc ∨ seq < 1 ∨ 2147483648 ≤ seq) : take g inc seq = (⟨0, 0, 0⟩, false, 1) := by
  unfold take
  rw [if_neg (by simp [hg]), if_pos h]
theorem take_yes {g : Gate} {inc seq : Int} (hg : gateCheck g = 0) (h : ¬ (inc < 0 ∨ 2147483648 ≤ inc ∨ seq < 1 ∨ 2147483648 ≤ seq)) (hy : g.inc < inc ∨ (inc = g.inc ∧ g.seq < seq)) :
    take g inc seq = (⟨inc, seq, g.drops⟩, true, 0) := by
  unfold take
  rw [if_neg (by simp [hg]), if_neg h, if_pos hy]
theorem take_no {g : Gate} {inc seq : Int} (hg : gateCheck g = 0) (h : ¬ (inc < 0 ∨ 2147483648 ≤ inc ∨ seq < 1 ∨ 2147483648 ≤ seq)) (hy : ¬ (g.inc < inc ∨ (inc = g.inc ∧ g.seq < seq))) :
    take g inc seq = (⟨g.inc, g.seq, min (g.drops + 1) 1073741824⟩, false, 0) := by
  unfold take
  rw [if_neg (by simp [hg]), if_neg h, if_neg hy]

set_option maxHeartbeats 1000000 in
theorem take_any (g : Gate) (inc seq : Int) (w : World) :
    Calls Try.prog 90 #[.agg #[.int .i64 g.inc, .int .i64 g.seq, .int .i64 g.drops], .int .i64 inc, .int .i64 seq] w
      fun e w' => e = .returned (takeV (take g inc seq)) ∧ Below w.heap.size w w' := by
  by_cases hg : gateCheck g = 0
  · have hb : (gateCheck g != 0) = false := by simp [hg]
    obtain ⟨-, -, -, -, hd1, hd2⟩ := gate_bounds hg
    have Hg := Lib.hid hg
    clear hg
    go_enter Try.func90, Try.ntmps90
    go_wp2_with (go_at_call 104; refine (gcheck_any g _).mono ?_; rintro e w1 ⟨rfl, hb1⟩; obtain ⟨c0, f0, c1, f1, z1, hb2⟩ := keep2 hb1; clear hb1)
    all_goals first
      | (rw [take_bad Hg.out (by omega)]
         refine bodyPost_ret (v := .tuple #[.agg #[.int .i64 0, .int .i64 0, .int .i64 0], .bool false, .int .i64 1]) (by simp [results, Try.results90, go_sem, c1]) rfl ⟨rfl, ?_⟩)
      | (rw [take_yes Hg.out (by omega) (by omega)]
         refine bodyPost_ret (v := .tuple #[.agg #[.int .i64 inc, .int .i64 seq, .int .i64 g.drops], .bool true, .int .i64 0]) (by simp [results, Try.results90, go_sem, c1]; try omega) rfl ⟨rfl, ?_⟩)
      | (rw [take_no Hg.out (by omega) (by omega)]
         refine bodyPost_ret (v := .tuple #[.agg #[.int .i64 g.inc, .int .i64 g.seq, .int .i64 (min (g.drops + 1) 1073741824)], .bool false, .int .i64 0]) (by simp [results, Try.results90, go_sem, c1]; try omega) rfl ⟨rfl, ?_⟩)
    all_goals (repeat (first | exact hb2 | refine Below.setCell ?_ (by simp) _))
  · have hb : (gateCheck g != 0) = true := by simp [hg]
    go_enter Try.func90, Try.ntmps90
    go_wp2_with (go_at_call 104; refine (gcheck_any g _).mono ?_; rintro e w1 ⟨rfl, hb1⟩; obtain ⟨c0, f0, c1, f1, z1, hb2⟩ := keep2 hb1; clear hb1)
    have ht : take g inc seq = (⟨0, 0, 0⟩, false, gateCheck g) := by unfold take; rw [if_pos hg]
    rw [ht]
    refine bodyPost_ret (v := .tuple #[.agg #[.int .i64 0, .int .i64 0, .int .i64 0], .bool false, .int .i64 (gateCheck g)]) (by simp [results, Try.results90, go_sem, c1]) rfl ⟨rfl, ?_⟩
    all_goals (repeat (first | exact hb2 | refine Below.setCell ?_ (by simp) _))

end Go.Proofs.Ytmclalhjnjghnaa

namespace Go.Proofs.Ytmclalhjnjghnaa
open Go.RowKit Hw

theorem chkFrom_step (prev : Option ByteArray) (l : List Peer) (k : Nat) (h : k < l.length) :
    chkFrom prev (l.drop k) = if chk1 prev (l[k]) ≠ 0 then chk1 prev (l[k]) else chkFrom (some (l[k]).id) (l.drop (k + 1)) := by
  rw [List.drop_eq_getElem_cons h]
  rfl

def prevOf (l : List Peer) (k : Nat) : Option ByteArray := if k = 0 then none else (l[k-1]?).map (·.id)

theorem prevOf_succ (l : List Peer) (k : Nat) (h : k < l.length) : prevOf l (k + 1) = some (l[k]).id := by
  simp [prevOf, h]

/-- The rest of the list is still to be looked at. -/
def Still (l : List Peer) (k : Nat) : Prop := peersCheck l = chkFrom (prevOf l k) (l.drop k)

theorem Still.zero {l : List Peer} (h : ¬ 6 < l.length) : Still l 0 := by simp [Still, peersCheck, h, prevOf]
theorem Still.next {l : List Peer} {k : Nat} (h : Still l k) (hk : k < l.length) (h1 : chk1 (prevOf l k) (l[k]) = 0) : Still l (k + 1) := by
  unfold Still at h ⊢
  rw [h, chkFrom_step _ _ _ hk, h1, prevOf_succ _ _ hk]
  simp
theorem Still.bad {l : List Peer} {k : Nat} (h : Still l k) (hk : k < l.length) (h1 : chk1 (prevOf l k) (l[k]) ≠ 0) : peersCheck l = chk1 (prevOf l k) (l[k]) := by
  unfold Still at h
  rw [h, chkFrom_step _ _ _ hk, if_pos h1]
theorem Still.done {l : List Peer} {k : Nat} (h : Still l k) (hk : l.length ≤ k) : peersCheck l = 0 := by
  unfold Still at h
  rw [h, List.drop_eq_nil_of_le hk]
  cases prevOf l k <;> rfl

theorem chk1_id {prev : Option ByteArray} {p : Peer} (h1 : (!idOk p.id) = true) : chk1 prev p = 3 := by
  unfold chk1; rw [if_pos (by simpa using h1)]
theorem chk1_gate {prev : Option ByteArray} {p : Peer} (h1 : (!idOk p.id) = false) (h2 : (gateCheck p.gate != 0) = true) : chk1 prev p = gateCheck p.gate := by
  unfold chk1; rw [if_neg (by simpa using h1), if_pos (by simpa using h2)]
theorem chk1_win {prev : Option ByteArray} {p : Peer} (h1 : (!idOk p.id) = false) (h2 : (gateCheck p.gate != 0) = false) (h3 : (winCheck p.cap p.vals != 0) = true) :
    chk1 prev p = winCheck p.cap p.vals := by
  unfold chk1; rw [if_neg (by simpa using h1), if_neg (by simpa using h2), if_pos (by simpa using h3)]
theorem chk1_last {prev : Option ByteArray} {p : Peer} (h1 : (!idOk p.id) = false) (h2 : (gateCheck p.gate != 0) = false) (h3 : (winCheck p.cap p.vals != 0) = false)
    (h4 : p.last < 0 ∨ 1073741824 < p.last) : chk1 prev p = 1 := by
  unfold chk1; rw [if_neg (by simpa using h1), if_neg (by simpa using h2), if_neg (by simpa using h3), if_pos h4]
theorem chk1_prev {q : ByteArray} {p : Peer} (h1 : (!idOk p.id) = false) (h2 : (gateCheck p.gate != 0) = false) (h3 : (winCheck p.cap p.vals != 0) = false)
    (h4 : ¬ (p.last < 0 ∨ 1073741824 < p.last)) : chk1 (some q) p = if slt q p.id then 0 else 3 := by
  unfold chk1; rw [if_neg (by simpa using h1), if_neg (by simpa using h2), if_neg (by simpa using h3), if_neg h4]
theorem chk1_none {p : Peer} (h1 : (!idOk p.id) = false) (h2 : (gateCheck p.gate != 0) = false) (h3 : (winCheck p.cap p.vals != 0) = false)
    (h4 : ¬ (p.last < 0 ∨ 1073741824 < p.last)) : chk1 none p = 0 := by
  unfold chk1; rw [if_neg (by simpa using h1), if_neg (by simpa using h2), if_neg (by simpa using h3), if_neg h4]

theorem ne_of_bne {a b : Int} (h : (a != b) = true) : a ≠ b := by simpa using h

set_option maxHeartbeats 2000000 in
theorem check_any (A : Option Addr) (c : Nat) (l : List Peer) (w : World) (h : PeersR w A l) :
    Calls Try.prog 47 #[.slice A l.length c] w fun e w' => e = .returned (.int .i64 (peersCheck l)) ∧ Below w.heap.size w w' := by
  by_cases hl : 6 < l.length
  · go_enter Try.func47, Try.ntmps47
    go_wp2_with fail
    go_ret
    exact ⟨ret_int (by simp [peersCheck, hl]), Below.refl _ _⟩
  · have hlen : l.length ≤ 6 := by omega
    have HS0 := Lib.hid (Still.zero hl)
    clear hl
    go_enter Try.func47, Try.ntmps47
    go_wp2_with fail
    go_loopw [12] (fun i wr => ∃ k : Nat, k ≤ l.length ∧ i = .int .i64 k ∧ Below w.heap.size w wr ∧ Hid (Still l k)) (fun i _ => l.length - (intOf i).toNat)
    case atStart => exact ⟨0, Nat.zero_le _, rfl, Below.refl _ _, HS0⟩
    case round =>
      obtain ⟨k, hk, rfl, hb, HS⟩ := hrel
      clear HS0
      by_cases hlt : k < l.length
      · have hr := h.below hb
        obtain ⟨b, off, rfl, hp⟩ := hr (by omega)
        clear hr
        obtain ⟨A', c', h0, h1, h2, h3, h4, h5, h6, hi, -⟩ := hp k hlt
        have Hi := Lib.hid hi
        have Hb := Lib.hid hb
        have hkk : (k : Int) < (l.length : Int) := by omega
        clear hi hb
        by_cases hk0 : k = 0
        · have hd0 : decide (0 < k) = false := by simp; omega
          have Hk0 := Lib.hid hk0
          clear hk0 hp
          go_wp2_with (first
            | (go_at_call 83; refine (id_any _ _).mono ?_; rintro e w1 ⟨rfl, rfl⟩)
            | (go_at_call 104; refine (gcheck_any l[k].gate _).mono ?_; rintro e w2 ⟨rfl, hb2⟩; obtain ⟨c2, f2, z2, hw2⟩ := keep1 hb2)
            | (go_at_call 105; refine (wcheck_any _ A' c' l[k].vals _ ((Hi.out.below ((Below.refl _ _).alloc (Nat.le_refl _) _)).below hb2)).mono ?_; rintro e w3 ⟨rfl, hb3⟩; obtain ⟨c3, f3, z3, hw3⟩ := keep1 (hb2.trans (hb3.mono hb2.size)); clear hb2 hb3 c2 f2))
          · have x1 : (!idOk l[k].id) = true := by assumption
            go_ret
            exact ⟨ret_int (by rw [HS.out.bad hlt (by rw [chk1_id x1]; decide), chk1_id x1]), Hb.out.alloc Hb.out.size _⟩
          · have x1 : (!idOk l[k].id) = false := by assumption
            have x2 : (gateCheck l[k].gate != 0) = true := by assumption
            go_ret
            exact ⟨ret_int (by rw [HS.out.bad hlt (by rw [chk1_gate x1 x2]; exact ne_of_bne x2), chk1_gate x1 x2]), Hb.out.trans (hw2.mono Hb.out.size)⟩
          · have x1 : (!idOk l[k].id) = false := by assumption
            have x2 : (gateCheck l[k].gate != 0) = false := by assumption
            have x3 : (winCheck l[k].cap l[k].vals != 0) = true := by assumption
            go_ret
            exact ⟨ret_int (by rw [HS.out.bad hlt (by rw [chk1_win x1 x2 x3]; exact ne_of_bne x3), chk1_win x1 x2 x3]), Hb.out.trans (hw3.mono Hb.out.size)⟩
          · have x1 : (!idOk l[k].id) = false := by assumption
            have x2 : (gateCheck l[k].gate != 0) = false := by assumption
            have x3 : (winCheck l[k].cap l[k].vals != 0) = false := by assumption
            have x4 : l[k].last < 0 ∨ 1073741824 < l[k].last := by omega
            go_ret
            exact ⟨ret_int (by rw [HS.out.bad hlt (by rw [chk1_last x1 x2 x3 x4]; decide), chk1_last x1 x2 x3 x4]), Hb.out.trans (hw3.mono Hb.out.size)⟩
          · have x1 : (!idOk l[k].id) = false := by assumption
            have x2 : (gateCheck l[k].gate != 0) = false := by assumption
            have x3 : (winCheck l[k].cap l[k].vals != 0) = false := by assumption
            have x4 : ¬ (l[k].last < 0 ∨ 1073741824 < l[k].last) := by omega
            have hp0 : prevOf l k = none := by simp [prevOf, Hk0.out]
            have X := Lib.hid (HS.out.next hlt (by rw [hp0]; exact chk1_none x1 x2 x3 x4))
            clear x1 x2 x3 x4 hp0
            go_quiet (fail)
            go_wp2_with fail
            go_roundw
            case rel => exact ⟨k + 1, by omega, by go_num, below_drewN (Hb.out.trans (hw3.mono Hb.out.size)) _, X⟩
            case measure => simp [intOf]; omega
          · have x1 : (!idOk l[k].id) = false := by assumption
            have x2 : (gateCheck l[k].gate != 0) = false := by assumption
            have x3 : (winCheck l[k].cap l[k].vals != 0) = false := by assumption
            have x4 : l[k].last < 0 ∨ 1073741824 < l[k].last := by omega
            go_ret
            exact ⟨ret_int (by rw [HS.out.bad hlt (by rw [chk1_last x1 x2 x3 x4]; decide), chk1_last x1 x2 x3 x4]), Hb.out.trans (hw3.mono Hb.out.size)⟩
        · have hd0 : decide (0 < k) = true := by simp; omega
          obtain ⟨A0, c0, g0, g1, g2, g3, g4, g5, g6, gi, -⟩ := hp (k - 1) (by omega)
          have hp0 : prevOf l k = some l[k-1].id := by
            have : l[k-1]? = some (l[k-1]'(by omega)) := List.getElem?_eq_getElem (by omega)
            simp [prevOf, hk0, this]
          have Hp0 := Lib.hid hp0
          clear hp gi g1 g2 g3 g4 g5 g6 hp0
          go_wp2_with (first
            | (go_at_call 83; refine (id_any _ _).mono ?_; rintro e w1 ⟨rfl, rfl⟩)
            | (go_at_call 104; refine (gcheck_any l[k].gate _).mono ?_; rintro e w2 ⟨rfl, hb2⟩; obtain ⟨c2, f2, z2, hw2⟩ := keep1 hb2)
            | (go_at_call 105; refine (wcheck_any _ A' c' l[k].vals _ ((Hi.out.below ((Below.refl _ _).alloc (Nat.le_refl _) _)).below hb2)).mono ?_; rintro e w3 ⟨rfl, hb3⟩; obtain ⟨c3, f3, z3, hw3⟩ := keep1 (hb2.trans (hb3.mono hb2.size)); have g3 := bsome hw3 g0; clear hb2 hb3 c2 f2))
          · have x1 : (!idOk l[k].id) = true := by assumption
            go_ret
            exact ⟨ret_int (by rw [HS.out.bad hlt (by rw [chk1_id x1]; decide), chk1_id x1]), Hb.out.alloc Hb.out.size _⟩
          · have x1 : (!idOk l[k].id) = false := by assumption
            have x2 : (gateCheck l[k].gate != 0) = true := by assumption
            go_ret
            exact ⟨ret_int (by rw [HS.out.bad hlt (by rw [chk1_gate x1 x2]; exact ne_of_bne x2), chk1_gate x1 x2]), Hb.out.trans (hw2.mono Hb.out.size)⟩
          · have x1 : (!idOk l[k].id) = false := by assumption
            have x2 : (gateCheck l[k].gate != 0) = false := by assumption
            have x3 : (winCheck l[k].cap l[k].vals != 0) = true := by assumption
            go_ret
            exact ⟨ret_int (by rw [HS.out.bad hlt (by rw [chk1_win x1 x2 x3]; exact ne_of_bne x3), chk1_win x1 x2 x3]), Hb.out.trans (hw3.mono Hb.out.size)⟩
          · have x1 : (!idOk l[k].id) = false := by assumption
            have x2 : (gateCheck l[k].gate != 0) = false := by assumption
            have x3 : (winCheck l[k].cap l[k].vals != 0) = false := by assumption
            have x4 : l[k].last < 0 ∨ 1073741824 < l[k].last := by omega
            go_ret
            exact ⟨ret_int (by rw [HS.out.bad hlt (by rw [chk1_last x1 x2 x3 x4]; decide), chk1_last x1 x2 x3 x4]), Hb.out.trans (hw3.mono Hb.out.size)⟩
          · have x1 : (!idOk l[k].id) = false := by assumption
            have x2 : (gateCheck l[k].gate != 0) = false := by assumption
            have x3 : (winCheck l[k].cap l[k].vals != 0) = false := by assumption
            have x4 : ¬ (l[k].last < 0 ∨ 1073741824 < l[k].last) := by omega
            have X0 := Lib.hid (chk1_prev (q := l[k-1].id) x1 x2 x3 x4)
            clear x1 x2 x3 x4
            go_quiet (fail)
            go_wp2_with fail
            · have x5 : (!Op.bytesLess l[k - 1].id.toList l[k].id.toList) = true := by assumption
              have x6 : chk1 (some l[k-1].id) l[k] = 3 := by rw [X0.out, if_neg (by simpa [slt] using x5)]
              go_ret
              exact ⟨ret_int (by rw [HS.out.bad hlt (by rw [Hp0.out, x6]; decide), Hp0.out, x6]), below_drewN (Hb.out.trans (hw3.mono Hb.out.size)) _⟩
            · have x5 : (!Op.bytesLess l[k - 1].id.toList l[k].id.toList) = false := by assumption
              have x6 : chk1 (some l[k-1].id) l[k] = 0 := by rw [X0.out, if_pos (by simpa [slt] using x5)]
              have X := Lib.hid (HS.out.next hlt (by rw [Hp0.out]; exact x6))
              go_roundw
              case rel => exact ⟨k + 1, by omega, by go_num, below_drewN (Hb.out.trans (hw3.mono Hb.out.size)) _, X⟩
              case measure => simp [intOf]; omega
          · have x1 : (!idOk l[k].id) = false := by assumption
            have x2 : (gateCheck l[k].gate != 0) = false := by assumption
            have x3 : (winCheck l[k].cap l[k].vals != 0) = false := by assumption
            have x4 : l[k].last < 0 ∨ 1073741824 < l[k].last := by omega
            go_ret
            exact ⟨ret_int (by rw [HS.out.bad hlt (by rw [chk1_last x1 x2 x3 x4]; decide), chk1_last x1 x2 x3 x4]), Hb.out.trans (hw3.mono Hb.out.size)⟩
      · go_wp2_with fail
        go_ret
        exact ⟨ret_int (HS.out.done (by omega)).symm, hb⟩

end Go.Proofs.Ytmclalhjnjghnaa

namespace Go.Proofs.Ytmclalhjnjghnaa
open Go.RowKit Hw

theorem count_set_true : ∀ (l : List Bool) (i : Nat), l[i]? = some false → (l.set i true).count false + 1 = l.count false
  | [], i, h => by simp at h
  | b :: l, 0, h => by
    simp at h
    subst h
    simp
  | b :: l, i + 1, h => by
    have := count_set_true l i (by simpa using h)
    cases b <;> simp <;> omega

section
variable {P : Program} {ops : Array Oper} {Q : Exit → Act → World → Prop} {a0 : Act} (sl : Nat → Tmp) (Val : Nat → Value → World → Prop) (C : World → Prop)

def SlotInv (ops : Array Oper) (a0 : Act) (listed : Array Bool) (a : Act) (w : World) : Prop :=
  listed.size = ops.size ∧ C w ∧ a.defers = a0.defers ∧ a.tmps.size = a0.tmps.size ∧ (∀ t, (∀ j, j < ops.size → sl j ≠ t) → a.tmps.getD t undef = a0.tmps.getD t undef) ∧
    ∀ j, j < ops.size → listed.getD j false = true → Val j (a.tmps.getD (sl j) undef) w

theorem wpAny_slots (hsl : ∀ (i : Nat) (o : Oper), ops[i]? = some o → o.dst = some (sl i) ∧ sl i < a0.tmps.size ∧ o.guard = none) (hinj : ∀ i j, i < ops.size → j < ops.size → sl i = sl j → i = j)
    (hacyc : ∀ (i : Nat) (o : Oper), ops[i]? = some o → ∀ e ∈ o.after, Region.binds .any e = true → e.on < i) (hstab : ∀ j v w w', C w → Val j v w → Below w.heap.size w w' → Val j v w')
    (hstep : ∀ (i : Nat) (o : Oper), ops[i]? = some o → ∀ (a : Act) (w : World), C w → a.tmps.size = a0.tmps.size → (∀ t, (∀ j, j < ops.size → sl j ≠ t) → a.tmps.getD t undef = a0.tmps.getD t undef) →
      (∀ e ∈ o.after, Region.binds .any e = true → Val e.on (a.tmps.getD (sl e.on) undef) w) →
      ∀ K : Act → World → Prop, (∀ v w', C w' → Below w.heap.size w w' → Val i v w' → K (a.put o.dst v) w') → Oper.wp P o a w K Q)
    (hdone : ∀ (a : Act) (w : World), C w → a.defers = a0.defers → a.tmps.size = a0.tmps.size → (∀ t, (∀ j, j < ops.size → sl j ≠ t) → a.tmps.getD t undef = a0.tmps.getD t undef) →
      (∀ j, j < ops.size → Val j (a.tmps.getD (sl j) undef) w) → Q .normal a w) :
    ∀ (fuel : Nat) (listed : Array Bool) (a : Act) (w : World), listed.toList.count false ≤ fuel → SlotInv sl Val C ops a0 listed a w → wpAny P .any ops Q fuel listed a w := by
  have full : ∀ (listed : Array Bool) (a : Act) (w : World), SlotInv sl Val C ops a0 listed a w → Region.ready .any ops listed = [] → Q .normal a w := by
    intro listed a w ⟨h1, h2, h3, h4, h5, h6⟩ hr
    refine hdone a w h2 h3 h4 h5 fun j hj => h6 j hj ?_
    induction j using Nat.strongRecOn with
    | _ j ih =>
      by_cases hl : listed.getD j false = true
      · exact hl
      · exfalso
        have : j ∈ Region.ready .any ops listed := by
          refine mem_ready.2 ⟨?_, ops[j], Array.getElem?_eq_getElem hj, fun e he hb => ih e.on (hacyc j _ (Array.getElem?_eq_getElem hj) e he hb) ?_⟩
          · simp [h1, hj] at hl ⊢
            exact hl
          · have := hacyc j _ (Array.getElem?_eq_getElem hj) e he hb
            omega
        rw [hr] at this
        cases this
  intro fuel
  induction fuel with
  | zero =>
    intro listed a w hc hI
    have hr : Region.ready .any ops listed = [] := by
      refine List.eq_nil_iff_forall_not_mem.2 fun j hj => ?_
      obtain ⟨h1, _⟩ := mem_ready.1 hj
      have : false ∈ listed.toList := by
        rcases Nat.lt_or_ge j listed.size with h | h
        · simp [h] at h1
          rw [← h1]
          simp
        · simp [Array.getElem?_eq_none h] at h1
      have := List.count_pos_iff.2 this
      omega
    exact ⟨hr, full _ _ _ hI hr⟩
  | succ fuel ih =>
    intro listed a w hc hI
    refine ⟨full _ _ _ hI, fun i hi => ?_⟩
    obtain ⟨hun, o, ho, hall⟩ := mem_ready.1 hi
    obtain ⟨h1, h2, h3, h4, h5, h6⟩ := hI
    obtain ⟨hd, hs, hg⟩ := hsl i o ho
    have hin : i < ops.size := (Array.getElem?_eq_some_iff.1 ho).1
    refine wpOp_step ho fun K' hK => ?_
    rw [if_pos (by simp [Region.wanted, hg])]
    refine hstep i o ho a w h2 h4 h5 (fun e he hb => h6 e.on (by
      have := hacyc i o ho e he hb
      omega) (hall e he hb)) K' fun v w' hC hb hv => hK _ _ (ih _ _ _ ?_ ?_)
    · have hli : listed.toList[i]? = some false := by
        have : i < listed.size := by omega
        simp [this] at hun
        simp [this, hun]
      have := count_set_true listed.toList i hli
      rw [Array.toList_setIfInBounds]
      omega
    · refine ⟨by simp [h1], hC, by rw [hd]; exact h3, by rw [hd]; simp [Act.put, h4], fun t ht => ?_, fun j hj hl => ?_⟩
      · rw [hd]
        have hne := ht i hin
        simp only [Act.put]
        rw [← h5 t ht]
        simp [Array.getElem?_setIfInBounds_ne hne]
      · by_cases hji : j = i
        · subst hji
          rw [hd]
          simp only [Act.put]
          have : sl j < a.tmps.size := by rw [h4]; exact hs
          simp [this]
          exact hv
        · rw [hd]
          have hne : sl i ≠ sl j := fun e => hji (hinj i j hin hj e).symm
          simp only [Act.put]
          have e1 : (a.tmps.setIfInBounds (sl i) v).getD (sl j) undef = a.tmps.getD (sl j) undef := by simp [Array.getElem?_setIfInBounds_ne hne]
          rw [e1]
          rw [getD_set_ne false (Ne.symm hji)] at hl
          exact hstab j _ w w' h2 (h6 j hj hl) hb

theorem wp_region_slots {id : Nat} {w0 : World} (hm : P.follows .mixedOrders = true) (hsl : ∀ (i : Nat) (o : Oper), ops[i]? = some o → o.dst = some (sl i) ∧ sl i < a0.tmps.size ∧ o.guard = none)
    (hinj : ∀ i j, i < ops.size → j < ops.size → sl i = sl j → i = j)
    (hacyc : ∀ (i : Nat) (o : Oper), ops[i]? = some o → ∀ e ∈ o.after, Region.binds .any e = true → e.on < i) (hstab : ∀ j v w w', C w → Val j v w → Below w.heap.size w w' → Val j v w')
    (hstep : ∀ (i : Nat) (o : Oper), ops[i]? = some o → ∀ (a : Act) (w : World), C w → a.tmps.size = a0.tmps.size → (∀ t, (∀ j, j < ops.size → sl j ≠ t) → a.tmps.getD t undef = a0.tmps.getD t undef) →
      (∀ e ∈ o.after, Region.binds .any e = true → Val e.on (a.tmps.getD (sl e.on) undef) w) →
      ∀ K : Act → World → Prop, (∀ v w', C w' → Below w.heap.size w w' → Val i v w' → K (a.put o.dst v) w') → Oper.wp P o a w K Q)
    (hdone : ∀ (a : Act) (w : World), C w → a.defers = a0.defers → a.tmps.size = a0.tmps.size → (∀ t, (∀ j, j < ops.size → sl j ≠ t) → a.tmps.getD t undef = a0.tmps.getD t undef) →
      (∀ j, j < ops.size → Val j (a.tmps.getD (sl j) undef) w) → Q .normal a w) (hC : C w0.drew) : (Code.region id ops true).wp P Q a0 w0 := by
  refine wp_region_any hm (wpAny_slots sl Val C hsl hinj hacyc hstab hstep hdone _ _ _ _ ?_ ⟨by simp, hC, rfl, rfl, fun _ _ => rfl, fun j hj hl => ?_⟩)
  · simp
  · simp [hj] at hl

/-- One proof an operation. -/
def AllOps (F : Nat → Oper → Prop) (k : Nat) (l : List Oper) : Prop := ∀ (i : Nat) (o : Oper), l[i]? = some o → F (k + i) o

theorem AllOps.nil {F : Nat → Oper → Prop} {k : Nat} : AllOps F k [] := fun i o h => by simp at h
theorem AllOps.cons {F : Nat → Oper → Prop} {k : Nat} {o : Oper} {l : List Oper} (h : F k o) (hs : AllOps F (k + 1) l) : AllOps F k (o :: l) := fun i o' h' => by
  cases i with
  | zero =>
    simp at h'
    subst h'
    exact h
  | succ i =>
    have := hs i o' (by simpa using h')
    rwa [show k + 1 + i = k + (i + 1) by omega] at this

/-- What is closed in the form of such a region. -/
def slotsB (l : List Oper) (sls : List Nat) (n : Nat) : Bool :=
  ((List.range l.length).all fun i => match l[i]? with
    | none => true
    | some o => o.dst == some (sls.getD i 0) && decide (sls.getD i 0 < n) && o.guard.isNone && o.after.all (fun e => !Region.binds .any e || decide (e.on < i))) &&
  (List.range l.length).all fun i => (List.range l.length).all fun j => i == j || sls.getD i 0 != sls.getD j 0

theorem slotsB_sl {l : List Oper} {sls : List Nat} {n : Nat} (h : slotsB l sls n = true) : ∀ (i : Nat) (o : Oper), l.toArray[i]? = some o → o.dst = some (sls.getD i 0) ∧ sls.getD i 0 < n ∧ o.guard = none := by
  intro i o ho
  rw [List.getElem?_toArray] at ho
  have hi : i < l.length := (List.getElem?_eq_some_iff.1 ho).1
  have h1 := List.all_eq_true.1 ((Bool.and_eq_true _ _ ▸ h).1) i (List.mem_range.2 hi)
  rw [ho] at h1
  simp only [Bool.and_eq_true, decide_eq_true_eq, beq_iff_eq, Option.isNone_iff_eq_none] at h1
  exact ⟨h1.1.1.1, h1.1.1.2, h1.1.2⟩

theorem slotsB_acyc {l : List Oper} {sls : List Nat} {n : Nat} (h : slotsB l sls n = true) : ∀ (i : Nat) (o : Oper), l.toArray[i]? = some o → ∀ e ∈ o.after, Region.binds .any e = true → e.on < i := by
  intro i o ho e he hb
  rw [List.getElem?_toArray] at ho
  have hi : i < l.length := (List.getElem?_eq_some_iff.1 ho).1
  have h1 := List.all_eq_true.1 ((Bool.and_eq_true _ _ ▸ h).1) i (List.mem_range.2 hi)
  rw [ho] at h1
  simp only [Bool.and_eq_true] at h1
  have := (Array.all_eq_true_iff_forall_mem.1 h1.2) e he
  simpa [hb] using this

theorem slotsB_inj {l : List Oper} {sls : List Nat} {n : Nat} (h : slotsB l sls n = true) : ∀ i j, i < l.toArray.size → j < l.toArray.size → sls.getD i 0 = sls.getD j 0 → i = j := by
  intro i j hi hj he
  have h1 := List.all_eq_true.1 ((Bool.and_eq_true _ _ ▸ h).2) i (List.mem_range.2 (by simpa using hi))
  have h2 := List.all_eq_true.1 h1 j (List.mem_range.2 (by simpa using hj))
  simp only [Bool.or_eq_true, beq_iff_eq, bne_iff_ne] at h2
  exact h2.resolve_right (fun hn => hn he)

theorem wp_region_told {id : Nat} {w0 : World} {l : List Oper} (sls : List Nat) (hB : slotsB l sls a0.tmps.size = true) (hm : P.follows .mixedOrders = true)
    (hstab : ∀ (j : Nat) (v : Value) (w w' : World), C w → Val j v w → Below w.heap.size w w' → Val j v w') (hC : C w0.drew)
    (hstep : AllOps (fun i o => ∀ (a : Act) (w : World), C w → (∀ t, (∀ j, j < l.length → sls.getD j 0 ≠ t) → a.tmps.getD t undef = a0.tmps.getD t undef) →
      (∀ e ∈ o.after, Region.binds .any e = true → Val e.on (a.tmps.getD (sls.getD e.on 0) undef) w) →
      ∀ K : Act → World → Prop, (∀ v w', C w' → Below w.heap.size w w' → Val i v w' → K (a.put o.dst v) w') → Oper.wp P o a w K Q) 0 l)
    (hdone : ∀ (a : Act) (w : World), C w → a.defers = a0.defers → a.tmps.size = a0.tmps.size → (∀ t, (∀ j, j < l.length → sls.getD j 0 ≠ t) → a.tmps.getD t undef = a0.tmps.getD t undef) →
      (∀ j, j < l.length → Val j (a.tmps.getD (sls.getD j 0) undef) w) → Q .normal a w) : (Code.region id l.toArray true).wp P Q a0 w0 := by
  refine wp_region_slots (fun j => sls.getD j 0) Val C hm (slotsB_sl hB) (slotsB_inj hB) (slotsB_acyc hB) hstab (fun i o ho a w hC' hsz hk hv K hK => ?_) (fun a w h1 h2 h3 h4 h5 => ?_) hC
  · have := hstep i o (by simpa using ho)
    rw [Nat.zero_add] at this
    exact this a w hC' (fun t ht => hk t (by simpa using ht)) hv K hK
  · exact hdone a w h1 h2 h3 (fun t ht => h4 t (by simpa using ht)) (fun j hj => h5 j (by simpa using hj))

/-- The frame behind the region: its slots hold what they hold. -/
def setAll (t0 : Array Value) (sls : List Nat) (us : Nat → Value) (k : Nat) : Array Value :=
  match sls with
  | [] => t0
  | s :: rest => setAll (t0.setIfInBounds s (us k)) rest us (k + 1)

theorem setAll_spec (t : Array Value) (us : Nat → Value) : ∀ (sls : List Nat) (t0 : Array Value) (k : Nat), t0.size = t.size → (∀ j, j < sls.length → us (k + j) = t.getD (sls.getD j 0) undef) → (∀ x, (∀ j, j < sls.length → sls.getD j 0 ≠ x) → t0[x]? = t[x]?) →
    setAll t0 sls us k = t
  | [], t0, k, hs, _, hx => by
    unfold setAll
    apply Array.ext_getElem?
    intro x
    exact hx x (fun j hj => by simp at hj)
  | s :: rest, t0, k, hs, hu, hx => by
    unfold setAll
    refine setAll_spec t us rest _ (k + 1) (by simpa using hs) (fun j hj => ?_) (fun x hn => ?_)
    · have := hu (j + 1) (by simp; omega)
      rw [show k + (j + 1) = k + 1 + j by omega] at this
      simpa using this
    · by_cases hsx : s = x
      · subst hsx
        have h0 := hu 0 (by simp)
        simp at h0
        rcases Nat.lt_or_ge s t.size with hl | hl
        · rw [Array.getElem?_setIfInBounds_self_of_lt (by omega), h0]
          simp [hl]
        · rw [Array.getElem?_eq_none (by simp; omega), Array.getElem?_eq_none hl]
      · rw [Array.getElem?_setIfInBounds_ne hsx]
        refine hx x fun j hj => ?_
        cases j with
        | zero => simpa using hsx
        | succ j => simpa using hn j (by simpa using hj)

theorem wp_region_lit {id : Nat} {w0 : World} {l : List Oper} (sls : List Nat) (hB : slotsB l sls a0.tmps.size = true) (hL : sls.length = l.length) (hm : P.follows .mixedOrders = true)
    (hstab : ∀ (j : Nat) (v : Value) (w w' : World), C w → Val j v w → Below w.heap.size w w' → Val j v w') (hC : C w0.drew)
    (hstep : AllOps (fun i o => ∀ (a : Act) (w : World), C w → (∀ t, (∀ j, j < l.length → sls.getD j 0 ≠ t) → a.tmps.getD t undef = a0.tmps.getD t undef) →
      (∀ e ∈ o.after, Region.binds .any e = true → Val e.on (a.tmps.getD (sls.getD e.on 0) undef) w) →
      ∀ K : Act → World → Prop, (∀ v w', C w' → Below w.heap.size w w' → Val i v w' → K (a.put o.dst v) w') → Oper.wp P o a w K Q) 0 l)
    (hdone : ∀ (us : Nat → Value) (w : World), C w → (∀ j, j < l.length → Val j (us j) w) → Q .normal { tmps := setAll a0.tmps sls us 0, defers := a0.defers } w) : (Code.region id l.toArray true).wp P Q a0 w0 := by
  refine wp_region_told Val C sls hB hm hstab hC hstep fun a w hC' hd hs hk hv => ?_
  have e : setAll a0.tmps sls (fun j => a.tmps.getD (sls.getD j 0) undef) 0 = a.tmps := by
    refine setAll_spec a.tmps _ sls a0.tmps 0 hs.symm (fun j hj => by simp) (fun x hx => ?_)
    have := hk x (fun j hj => hx j (by rw [hL]; exact hj))
    rcases Nat.lt_or_ge x a.tmps.size with hl | hl
    · have hl0 : x < a0.tmps.size := by omega
      simp [hl, hl0] at this ⊢
      exact this.symm
    · rw [Array.getElem?_eq_none hl, Array.getElem?_eq_none (by omega)]
  have := hdone (fun j => a.tmps.getD (sls.getD j 0) undef) w hC' hv
  rw [e, ← hd] at this
  exact this

end
end Go.Proofs.Ytmclalhjnjghnaa

namespace Go.Proofs.Ytmclalhjnjghnaa
open Go.RowKit Hw

def upd (L : Nat → Bool) (i j : Nat) : Bool := j == i || L j

section
variable {P : Program} {ops : Array Oper} {Q : Exit → Act → World → Prop} {a0 : Act} (sl : Nat → Tmp) (Val : Nat → Value → World → Prop) (C : (Nat → Bool) → World → Prop)

def SlotInvb (ops : Array Oper) (a0 : Act) (listed : Array Bool) (a : Act) (w : World) : Prop :=
  listed.size = ops.size ∧ C (fun j => listed.getD j false) w ∧ a.defers = a0.defers ∧ a.tmps.size = a0.tmps.size ∧ (∀ t, (∀ j, j < ops.size → listed.getD j false = true → sl j ≠ t) → a.tmps.getD t undef = a0.tmps.getD t undef) ∧
    ∀ j, j < ops.size → listed.getD j false = true → Val j (a.tmps.getD (sl j) undef) w

theorem wpAny_slotsb (hsl : ∀ (i : Nat) (o : Oper), ops[i]? = some o → (o.dst = some (sl i) ∧ sl i < a0.tmps.size ∨ o.dst = none ∧ ∀ v w, Val i v w) ∧ o.guard = none) (hinj : ∀ i j, i < ops.size → j < ops.size → sl i = sl j → i = j)
    (hacyc : ∀ (i : Nat) (o : Oper), ops[i]? = some o → ∀ e ∈ o.after, Region.binds .any e = true → e.on < i)
    (hstep : ∀ (i : Nat) (o : Oper), ops[i]? = some o → ∀ (L : Nat → Bool) (a : Act) (w : World), L i = false → C L w → a.tmps.size = a0.tmps.size → (∀ t, (∀ j, j < ops.size → L j = true → sl j ≠ t) → a.tmps.getD t undef = a0.tmps.getD t undef) →
      (∀ e ∈ o.after, Region.binds .any e = true → L e.on = true ∧ Val e.on (a.tmps.getD (sl e.on) undef) w) →
      ∀ K : Act → World → Prop, (∀ v w', C (upd L i) w' → (∀ j u, j < ops.size → L j = true → Val j u w → Val j u w') → Val i v w' → K (a.put o.dst v) w') → Oper.wp P o a w K Q)
    (hdone : ∀ (L : Nat → Bool) (a : Act) (w : World), (∀ j, j < ops.size → L j = true) → C L w → a.defers = a0.defers → a.tmps.size = a0.tmps.size → (∀ t, (∀ j, j < ops.size → sl j ≠ t) → a.tmps.getD t undef = a0.tmps.getD t undef) →
      (∀ j, j < ops.size → Val j (a.tmps.getD (sl j) undef) w) → Q .normal a w) :
    ∀ (fuel : Nat) (listed : Array Bool) (a : Act) (w : World), listed.toList.count false ≤ fuel → SlotInvb sl Val C ops a0 listed a w → wpAny P .any ops Q fuel listed a w := by
  have full : ∀ (listed : Array Bool) (a : Act) (w : World), SlotInvb sl Val C ops a0 listed a w → Region.ready .any ops listed = [] → Q .normal a w := by
    intro listed a w ⟨h1, h2, h3, h4, h5, h6⟩ hr
    have hall : ∀ j, j < ops.size → listed.getD j false = true := by
      intro j hj
      induction j using Nat.strongRecOn with
      | _ j ih =>
        by_cases hl : listed.getD j false = true
        · exact hl
        · exfalso
          have : j ∈ Region.ready .any ops listed := by
            refine mem_ready.2 ⟨?_, ops[j], Array.getElem?_eq_getElem hj, fun e he hb => ih e.on (hacyc j _ (Array.getElem?_eq_getElem hj) e he hb) ?_⟩
            · simp [h1, hj] at hl ⊢
              exact hl
            · have := hacyc j _ (Array.getElem?_eq_getElem hj) e he hb
              omega
          rw [hr] at this
          cases this
    exact hdone _ a w hall h2 h3 h4 (fun t ht => h5 t fun j hj _ => ht j hj) fun j hj => h6 j hj (hall j hj)
  intro fuel
  induction fuel with
  | zero =>
    intro listed a w hc hI
    have hr : Region.ready .any ops listed = [] := by
      refine List.eq_nil_iff_forall_not_mem.2 fun j hj => ?_
      obtain ⟨h1, _⟩ := mem_ready.1 hj
      have : false ∈ listed.toList := by
        rcases Nat.lt_or_ge j listed.size with h | h
        · simp [h] at h1
          rw [← h1]
          simp
        · simp [Array.getElem?_eq_none h] at h1
      have := List.count_pos_iff.2 this
      omega
    exact ⟨hr, full _ _ _ hI hr⟩
  | succ fuel ih =>
    intro listed a w hc hI
    refine ⟨full _ _ _ hI, fun i hi => ?_⟩
    obtain ⟨hun, o, ho, hall⟩ := mem_ready.1 hi
    obtain ⟨h1, h2, h3, h4, h5, h6⟩ := hI
    obtain ⟨hd, hg⟩ := hsl i o ho
    have hin : i < ops.size := (Array.getElem?_eq_some_iff.1 ho).1
    have hL : listed.getD i false = false := by
      have : i < listed.size := by omega
      simp [this] at hun ⊢
      exact hun
    refine wpOp_step ho fun K' hK => ?_
    rw [if_pos (by simp [Region.wanted, hg])]
    refine hstep i o ho _ a w hL h2 h4 h5 (fun e he hb => ⟨hall e he hb, h6 e.on (by
      have := hacyc i o ho e he hb
      omega) (hall e he hb)⟩) K' fun v w' hC hb hv => hK _ _ (ih _ _ _ ?_ ?_)
    · have hli : listed.toList[i]? = some false := by
        have : i < listed.size := by omega
        simp [this] at hun
        simp [this, hun]
      have := count_set_true listed.toList i hli
      rw [Array.toList_setIfInBounds]
      omega
    · have hup : (fun j => (listed.setIfInBounds i true).getD j false) = upd (fun j => listed.getD j false) i := by
        funext j
        unfold upd
        by_cases hji : j = i
        · subst hji
          have : j < listed.size := by omega
          simp [this]
        · rw [getD_set_ne false (Ne.symm hji)]
          simp [hji]
      refine ⟨by simp [h1], by rw [hup]; exact hC, ?_, ?_, fun t ht => ?_, fun j hj hl => ?_⟩
      · rcases hd with ⟨e, _⟩ | ⟨e, _⟩ <;> rw [e] <;> exact h3
      · rcases hd with ⟨e, _⟩ | ⟨e, _⟩ <;> rw [e] <;> simp [Act.put, h4]
      · rcases hd with ⟨e, _⟩ | ⟨e, _⟩
        · rw [e]
          have hne := ht i hin (by have : i < listed.size := by omega
                                   simp [this])
          simp only [Act.put]
          rw [← h5 t fun j hj hl => ht j hj (by
            by_cases hji : j = i
            · subst hji
              have : j < listed.size := by omega
              simp [this]
            · rw [getD_set_ne false (Ne.symm hji)]
              exact hl)]
          simp [Array.getElem?_setIfInBounds_ne hne]
        · rw [e]
          exact h5 t fun j hj hl => ht j hj (by
            by_cases hji : j = i
            · subst hji
              have : j < listed.size := by omega
              simp [this]
            · rw [getD_set_ne false (Ne.symm hji)]
              exact hl)
      · by_cases hji : j = i
        · subst hji
          rcases hd with ⟨e, hs⟩ | ⟨e, hn⟩
          · rw [e]
            simp only [Act.put]
            have : sl j < a.tmps.size := by rw [h4]; exact hs
            simp [this]
            exact hv
          · exact hn _ _
        · rw [getD_set_ne false (Ne.symm hji)] at hl
          refine hb j _ hj hl ?_
          rcases hd with ⟨e, hs⟩ | ⟨e, hn⟩
          · rw [e]
            have hne : sl i ≠ sl j := fun e => hji (hinj i j hin hj e).symm
            simp only [Act.put]
            have e1 : (a.tmps.setIfInBounds (sl i) v).getD (sl j) undef = a.tmps.getD (sl j) undef := by simp [Array.getElem?_setIfInBounds_ne hne]
            rw [e1]
            exact h6 j hj hl
          · rw [e]
            exact h6 j hj hl

/-- What is closed in the form of such a region; 'sls' gives a store a number at or above the frame's size. -/
def slotsBb (l : List Oper) (sls : List Nat) (n : Nat) : Bool :=
  ((List.range l.length).all fun i => match l[i]? with
    | none => true
    | some o => (o.dst == some (sls.getD i 0) && decide (sls.getD i 0 < n) || o.dst == none && decide (n ≤ sls.getD i 0)) && o.guard.isNone && o.after.all (fun e => !Region.binds .any e || decide (e.on < i))) &&
  (List.range l.length).all fun i => (List.range l.length).all fun j => i == j || sls.getD i 0 != sls.getD j 0

theorem slotsBb_sl {l : List Oper} {sls : List Nat} {n : Nat} (h : slotsBb l sls n = true) (hn : ∀ (i : Nat), i < l.length → n ≤ sls.getD i 0 → ∀ v w, Val i v w) : ∀ (i : Nat) (o : Oper), l.toArray[i]? = some o → (o.dst = some (sls.getD i 0) ∧ sls.getD i 0 < n ∨ o.dst = none ∧ ∀ v w, Val i v w) ∧ o.guard = none := by
  intro i o ho
  rw [List.getElem?_toArray] at ho
  have hi : i < l.length := (List.getElem?_eq_some_iff.1 ho).1
  have h1 := List.all_eq_true.1 ((Bool.and_eq_true _ _ ▸ h).1) i (List.mem_range.2 hi)
  rw [ho] at h1
  simp only [Bool.and_eq_true, Bool.or_eq_true, decide_eq_true_eq, beq_iff_eq, Option.isNone_iff_eq_none] at h1
  refine ⟨?_, h1.1.2⟩
  rcases h1.1.1 with e | e
  · exact .inl e
  · exact .inr ⟨e.1, hn i hi e.2⟩

theorem slotsBb_acyc {l : List Oper} {sls : List Nat} {n : Nat} (h : slotsBb l sls n = true) : ∀ (i : Nat) (o : Oper), l.toArray[i]? = some o → ∀ e ∈ o.after, Region.binds .any e = true → e.on < i := by
  intro i o ho e he hb
  rw [List.getElem?_toArray] at ho
  have hi : i < l.length := (List.getElem?_eq_some_iff.1 ho).1
  have h1 := List.all_eq_true.1 ((Bool.and_eq_true _ _ ▸ h).1) i (List.mem_range.2 hi)
  rw [ho] at h1
  simp only [Bool.and_eq_true] at h1
  have := (Array.all_eq_true_iff_forall_mem.1 h1.2) e he
  simpa [hb] using this

theorem slotsBb_inj {l : List Oper} {sls : List Nat} {n : Nat} (h : slotsBb l sls n = true) : ∀ i j, i < l.toArray.size → j < l.toArray.size → sls.getD i 0 = sls.getD j 0 → i = j := by
  intro i j hi hj he
  have h1 := List.all_eq_true.1 ((Bool.and_eq_true _ _ ▸ h).2) i (List.mem_range.2 (by simpa using hi))
  have h2 := List.all_eq_true.1 h1 j (List.mem_range.2 (by simpa using hj))
  simp only [Bool.or_eq_true, beq_iff_eq, bne_iff_ne] at h2
  exact h2.resolve_right (fun hn => hn he)

theorem wp_region_inv {id : Nat} {w0 : World} {l : List Oper} (sls : List Nat) (hB : slotsBb l sls a0.tmps.size = true) (hL : sls.length = l.length) (hm : P.follows .mixedOrders = true)
    (hn : ∀ (i : Nat), i < l.length → a0.tmps.size ≤ sls.getD i 0 → ∀ v w, Val i v w)
    (hC : C (fun _ => false) w0.drew)
    (hstep : AllOps (fun i o => ∀ (L : Nat → Bool) (a : Act) (w : World), L i = false → C L w → (∀ t, (∀ j, j < l.length → L j = true → sls.getD j 0 ≠ t) → a.tmps.getD t undef = a0.tmps.getD t undef) →
      (∀ e ∈ o.after, Region.binds .any e = true → L e.on = true ∧ Val e.on (a.tmps.getD (sls.getD e.on 0) undef) w) →
      ∀ K : Act → World → Prop, (∀ v w', C (upd L i) w' → (∀ j u, j < l.length → L j = true → Val j u w → Val j u w') → Val i v w' → K (a.put o.dst v) w') → Oper.wp P o a w K Q) 0 l)
    (hdone : ∀ (us : Nat → Value) (L : Nat → Bool) (w : World), (∀ j, j < l.length → L j = true) → C L w → (∀ j, j < l.length → Val j (us j) w) → Q .normal { tmps := setAll a0.tmps sls us 0, defers := a0.defers } w) : (Code.region id l.toArray true).wp P Q a0 w0 := by
  refine wp_region_any hm (wpAny_slotsb (fun j => sls.getD j 0) Val C (slotsBb_sl Val hB hn) (slotsBb_inj hB) (slotsBb_acyc hB) (fun i o ho L a w hLi hC' hsz hk hv K hK => ?_) (fun L a w hall h1 h2 h3 h4 h5 => ?_) _ _ _ _ ?_ ⟨by simp, ?_, rfl, rfl, fun _ _ => rfl, fun j hj hl => ?_⟩)
  · have := hstep i o (by simpa using ho)
    rw [Nat.zero_add] at this
    exact this L a w hLi hC' (fun t ht => hk t (fun j hj hl => ht j (by simpa using hj) hl)) hv K fun v w' h1 h2 h3 => hK v w' h1 (fun j u hj => h2 j u (by simpa using hj)) h3
  · have e : setAll a0.tmps sls (fun j => a.tmps.getD (sls.getD j 0) undef) 0 = a.tmps := by
      refine setAll_spec a.tmps _ sls a0.tmps 0 h3.symm (fun j hj => by simp) (fun x hx => ?_)
      have := h4 x (fun j hj => hx j (by rw [hL]; simpa using hj))
      rcases Nat.lt_or_ge x a.tmps.size with hl | hl
      · have hl0 : x < a0.tmps.size := by omega
        simp [hl, hl0] at this ⊢
        exact this.symm
      · rw [Array.getElem?_eq_none hl, Array.getElem?_eq_none (by omega)]
    have := hdone (fun j => a.tmps.getD (sls.getD j 0) undef) L w (fun j hj => hall j (by simpa using hj)) h1 (fun j hj => h5 j (by simpa using hj))
    rw [e, ← h2] at this
    exact this
  · simp
  · have : (fun j => (Array.replicate l.toArray.size false).getD j false) = fun _ => false := by
      funext j
      rcases Nat.lt_or_ge j l.length with h | h
      · simp [h]
      · simp [h]
    rw [this]
    exact hC
  · have hj' : j < l.length := by simpa using hj
    simp [hj'] at hl

theorem oper_append_own {o : Oper} {a : Act} {w : World} {K : Act → World → Prop} (s x : Operand) (t : TypeId) (ho : o.op = .call { callee := .builtin .append, args := #[s, x], argTypes := #[t, t] })
    (base : Nat) (e : TypeId) (i : TypeInfo) (z : Value) (size bytes : Nat) (ht : P.underlying t = some (.slice e)) (hi : P.info? e = some i) (hz : i.zero = some z)
    (hsize : i.size = size) (hby : i.bytes = bytes) (hzs : z.cells.size = size) (hsz : 0 < size)
    (v : Value) (n : Nat) (xs : List Value) (hs : a.eval s = v) (hown : w.ownsRow base e size v n xs)
    (ad : Addr) (m c : Nat) (news : List Value) (hx : a.eval x = .slice (some ad) m c) (hl : news.length = m * size) (hnews : ∀ j u, news[j]? = some u → w.cell? (ad.add j) = some u) (h1 : ∀ u ∈ news, u.oneCell' = true)
    (h63 : n + m ≤ maxLen) (hbytes : (n + m) * bytes ≤ 140737488355328) (hbase : base ≤ w.heap.size)
    (h : ∀ v' w', w'.ownsRow base e size v' (n + m) (xs ++ news) → w.grownBy w' v.ownBlock → (v' = .slice none 0 0 ↔ v = .slice none 0 0 ∧ m = 0) → (v'.ownBlock = v.ownBlock ∨ v'.ownBlock = some w.heap.size) → K (a.put o.dst v') w') :
    Oper.wp P o a w K Q := by
  obtain ⟨v', w', hr, h2, h3, h4, h5⟩ := run_append_own_at (P := P) w base t o.type e i z size bytes ht hi hz hsize hby hzs hsz v n xs hown ad m c news hl hnews h1 h63 hbytes hbase
  unfold Oper.wp execOp
  simp only [ho, resolve, invoke, builtin, Sem.run_bind, Sem.run_pure, Result.andThen_ok, List.map_toArray, List.map_cons, List.map_nil, hs, hx, hr]
  exact h v' w' h2 h3 h4 h5

end
end Go.Proofs.Ytmclalhjnjghnaa
