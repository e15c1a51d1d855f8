/- The plain model of the failure detector's data and functions: what the Go code computes, in plain Lean, with no program in sight. -/
import GoSem.Op.String
namespace Go.Proofs.Ytmclalhjnjghnaa.Hw
open Go

/-- Bytes compared as Go compares strings. -/
def slt (a b : ByteArray) : Bool := Op.bytesLess a.toList b.toList

/-- Are they one string? -/
def sq (a b : ByteArray) : Bool := a.toList == b.toList

structure Gate where
  inc : Int
  seq : Int
  drops : Int

structure Peer where
  id : ByteArray
  gate : Gate
  cap : Int
  vals : List Int
  last : Int

structure Sub where
  id : ByteArray
  theta : Int
  on : Bool

structure Config where
  id : ByteArray
  inc : Int
  every : Int
  cap : Int
  least : Int

structure Note where
  id : ByteArray
  theta : Int
  suspect : Bool

structure Beat where
  id : ByteArray
  inc : Int
  seq : Int

def valOk (n : Int) : Bool := decide (0 ≤ n) && decide (n ≤ 16777216)

def listCheck (l : List Int) : Int := if 64 < l.length then 2 else if l.any (fun n => !valOk n) then 1 else 0

def winCheck (cap : Int) (vals : List Int) : Int :=
  if cap < 1 ∨ 64 < cap then 1 else if cap < (vals.length : Int) then 2 else listCheck vals

def gateCheck (g : Gate) : Int :=
  if g.inc < 0 ∨ 2147483648 ≤ g.inc ∨ g.seq < 0 ∨ 2147483648 ≤ g.seq ∨ g.drops < 0 ∨ 1073741824 < g.drops ∨ (g.seq = 0 ∧ g.inc ≠ 0) then 1 else 0

def idOk (s : ByteArray) : Bool := decide (0 < s.size) && decide (s.size ≤ 8) && s.data.toList.all (fun c => decide (97 ≤ c.toNat) && decide (c.toNat ≤ 122))

/-- What 'peers.Check' says of one peer, whose neighbour's name is 'prev'. -/
def chk1 (prev : Option ByteArray) (p : Peer) : Int :=
  if idOk p.id = false then 3
  else if gateCheck p.gate ≠ 0 then gateCheck p.gate
  else if winCheck p.cap p.vals ≠ 0 then winCheck p.cap p.vals
  else if p.last < 0 ∨ 1073741824 < p.last then 1
  else match prev with
    | none => 0
    | some q => if slt q p.id then 0 else 3

def chkFrom : Option ByteArray → List Peer → Int
  | _, [] => 0
  | prev, p :: t => if chk1 prev p ≠ 0 then chk1 prev p else chkFrom (some p.id) t

def peersCheck (l : List Peer) : Int := if 6 < l.length then 2 else chkFrom none l

/-- How many at the list's head have a lesser name. -/
def place (l : List Peer) (id : ByteArray) : Nat := (l.takeWhile (fun p => slt p.id id)).length

def found (l : List Peer) (id : ByteArray) : Bool := match l[place l id]? with
  | some p => sq p.id id
  | none => false

def beatCheck (b : Beat) : Int :=
  if idOk b.id = false then 3
  else if b.inc < 0 ∨ 2147483648 ≤ b.inc ∨ b.seq < 1 ∨ 2147483648 ≤ b.seq then 1 else 0

/-- 'gate.Take'. -/
def take (g : Gate) (inc seq : Int) : Gate × Bool × Int :=
  if gateCheck g ≠ 0 then (⟨0, 0, 0⟩, false, gateCheck g)
  else if inc < 0 ∨ 2147483648 ≤ inc ∨ seq < 1 ∨ 2147483648 ≤ seq then (⟨0, 0, 0⟩, false, 1)
  else if g.inc < inc ∨ (inc = g.inc ∧ g.seq < seq) then (⟨inc, seq, g.drops⟩, true, 0)
  else (⟨g.inc, g.seq, min (g.drops + 1) 1073741824⟩, false, 0)

/-- The values of 'win.Push', where the window may be and the value, too. -/
def pushed (cap : Int) (vals : List Int) (n : Int) : List Int :=
  (if (vals.length : Int) = cap then vals.tail else vals) ++ [n]

def addPeer (id : ByteArray) (size first now : Int) : Peer := ⟨id, ⟨0, 0, 0⟩, size, [first], now⟩

def insertAt {α : Type} (l : List α) (i : Nat) (p : α) : List α := l.take i ++ p :: l.drop i

/-- 'peers.Add'. -/
def add (l : List Peer) (id : ByteArray) (size first now : Int) : List Peer × Int :=
  if peersCheck l ≠ 0 then ([], peersCheck l)
  else if idOk id = false then ([], 3)
  else if size < 1 ∨ 64 < size ∨ valOk first = false ∨ now < 0 ∨ 1073741824 < now then ([], 1)
  else if found l id then ([], 5)
  else if l.length = 6 then ([], 10)
  else (insertAt l (place l id) (addPeer id size first now), 0)

/-- 'peers.Drop'. -/
def drop (l : List Peer) (id : ByteArray) : List Peer × Int :=
  if peersCheck l ≠ 0 then ([], peersCheck l)
  else if found l id = false then ([], 4)
  else (l.eraseIdx (place l id), 0)

/-- A peer that hears, at 'now'. -/
def heard (p : Peer) (b : Beat) (now : Int) : Peer :=
  let t := take p.gate b.inc b.seq
  if t.2.1 then { p with gate := t.1, vals := pushed p.cap p.vals (min (now - p.last) 16777216), last := now }
  else { p with gate := t.1 }

/-- 'peers.Hear'. -/
def hear (l : List Peer) (b : Beat) (now : Int) : List Peer × Bool × Int :=
  if peersCheck l ≠ 0 then ([], false, peersCheck l)
  else if beatCheck b ≠ 0 then ([], false, beatCheck b)
  else if now < 0 ∨ 1073741824 < now then ([], false, 1)
  else match l[place l b.id]? with
    | none => ([], false, 4)
    | some p =>
      if sq p.id b.id = false then ([], false, 4)
      else if now < p.last then ([], false, 1)
      else (l.set (place l b.id) (heard p b now), (take p.gate b.inc b.seq).2.1, 0)

end Go.Proofs.Ytmclalhjnjghnaa.Hw
