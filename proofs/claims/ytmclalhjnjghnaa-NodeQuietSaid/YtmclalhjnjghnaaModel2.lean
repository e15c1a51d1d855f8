/- The plain model of levels, texts of beats, nodes and towns: what the Go code computes, in plain Lean, with no program in sight. -/
import Derived.Test.YtmclalhjnjghnaaModel
namespace Go.Proofs.Ytmclalhjnjghnaa.Hw
open Go

def sumOf (l : List Int) : Int := l.foldl (· + ·) 0
def sqOf (l : List Int) : Int := l.foldl (fun a x => a + x * x) 0

/-- 'stat.Check' of sums n, s, q. -/
def statCheck (n s q : Int) : Int :=
  if n < 0 ∨ 64 < n ∨ s < 0 ∨ q < 0 ∨ n * 16777216 < s ∨ s * 16777216 < q ∨ q < s then 1
  else if n * q < s * s then 9 else 0

/-- 'level.spread', of a window's values: the greater of the spread and the least one. -/
def spread (l : List Int) (least : Int) : Int :=
  let n : Int := l.length
  let s := sumOf l
  let q := sqOf l
  max (if statCheck n s q ≠ 0 then 0 else n * q - s * s) (n * n * least * least)

/-- 'level.Of'. -/
def levelOf (cap : Int) (vals : List Int) (least since : Int) : Int × Int :=
  if winCheck cap vals ≠ 0 then (0, winCheck cap vals)
  else if least < 1 ∨ 16777216 < least then (0, 1)
  else if vals.length = 0 then (0, 4)
  else if since < 0 ∨ 1073741824 < since then (0, 1)
  else
    let d : Int := vals.length * since - sumOf vals
    if d ≤ 0 then (0, 0)
    else (((spread vals least + d * d) / spread vals least).toNat.log2, 0)

structure Node where
  c : Config
  now : Int
  seq : Int
  drops : Int
  peers : List Peer
  subs : List Sub

/-- 'node.Check'. -/
def configCheck (c : Config) : Int :=
  if idOk c.id = false then 3
  else if c.inc < 0 ∨ 2147483648 ≤ c.inc ∨ c.every < 1 ∨ valOk c.every = false ∨ c.cap < 1 ∨ 64 < c.cap ∨ c.least < 1 ∨ valOk c.least = false then 1 else 0

/-- '(*Node).Level'. -/
def level (n : Node) (id : ByteArray) : Int × Int :=
  match n.peers.find? (fun p => sq p.id id) with
  | none => (0, 4)
  | some p => levelOf p.cap p.vals n.c.least (n.now - p.last)

/-- Is a sub to be told that it is suspected, now? -/
def onNow (n : Node) (s : Sub) : Bool := decide (s.theta ≤ (level n s.id).1)

def toldSubs (n : Node) : List Sub := n.subs.map (fun s => { s with on := onNow n s })

def toldNotes (n : Node) : List Note :=
  n.subs.filterMap (fun s => if onNow n s == s.on then none else some ⟨s.id, s.theta, onNow n s⟩)

def told (n : Node) : Node × List Note := ({ n with subs := toldSubs n }, toldNotes n)

end Go.Proofs.Ytmclalhjnjghnaa.Hw
