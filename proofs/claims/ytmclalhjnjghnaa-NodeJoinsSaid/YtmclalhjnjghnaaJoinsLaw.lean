/- Plain laws of joining and parting: who joins and parts leaves the others as they were. -/
import Derived.Test.YtmclalhjnjghnaaKeep
namespace Go.Proofs.Ytmclalhjnjghnaa
open Go.RowKit Hw

theorem at_no {α : Type} {f : α → Bool} {l : List α} (h : ∀ x ∈ l, f x = false) : at? f l = -1 :=
  at_none fun _ hj => h _ (List.getElem_mem hj)

theorem level_same {n n' : Hw.Node} (h1 : n'.c = n.c) (h2 : n'.peers = n.peers) (h3 : n'.now = n.now) (id : ByteArray) : level n' id = level n id := by
  unfold level
  rw [h1, h2, h3]

theorem on_same {n n' : Hw.Node} (h1 : n'.c = n.c) (h2 : n'.peers = n.peers) (h3 : n'.now = n.now) (s : Sub) : onNow n' s = onNow n s := by
  unfold onNow
  rw [level_same h1 h2 h3]

/-- The sub that joins. -/
def joins (n : Hw.Node) (id : ByteArray) (theta : Int) : Sub := ⟨id, theta, decide (theta ≤ (level n id).1)⟩
/-- The node that it has joined. -/
def joined (n : Hw.Node) (id : ByteArray) (theta : Int) : Hw.Node := { n with subs := n.subs ++ [joins n id theta] }

theorem told_on {n : Hw.Node} (h : On n) (id : ByteArray) (theta : Int) : (told { n with subs := n.subs ++ [(⟨id, theta, false⟩ : Sub)] }).1 = joined n id theta := by
  have hs : (n.subs ++ [(⟨id, theta, false⟩ : Sub)]).map (fun s => { s with on := onNow { n with subs := n.subs ++ [(⟨id, theta, false⟩ : Sub)] } s }) = n.subs ++ [joins n id theta] := by
    have e1 : n.subs.map (fun s => { s with on := onNow { n with subs := n.subs ++ [(⟨id, theta, false⟩ : Sub)] } s }) = n.subs := by
      conv => rhs; rw [← List.map_id n.subs]
      refine List.map_congr_left fun s hs => ?_
      have e := h s hs
      have e2 := on_same (n := n) (n' := { n with subs := n.subs ++ [(⟨id, theta, false⟩ : Sub)] }) rfl rfl rfl s
      rw [e2, ← e]
      rfl
    rw [List.map_append, e1]
    rfl
  show ({ n with subs := _ } : Hw.Node) = { n with subs := _ }
  rw [← hs]
  rfl

theorem joins_new {n : Hw.Node} {id : ByteArray} {theta : Int} (h1 : 1 ≤ theta) (h2 : theta ≤ 60) (hl : (level n id).2 = 0) (hno : ∀ s ∈ n.subs, subIs id theta s = false) (hlen : n.subs.length ≠ 8) (ho : On n) :
    (njoin n id theta).1 = joined n id theta ∧ (njoin n id theta).2.2 = 0 := by
  unfold njoin
  rw [if_neg (by omega), if_neg (by omega), at_no hno, if_neg (by omega), if_neg hlen]
  exact ⟨told_on ho id theta, rfl⟩

theorem joins_full {n : Hw.Node} {id : ByteArray} {theta : Int} (h1 : 1 ≤ theta) (h2 : theta ≤ 60) (hl : (level n id).2 = 0) (hno : ∀ s ∈ n.subs, subIs id theta s = false) (hlen : n.subs.length = 8) :
    njoin n id theta = (n, [], 10) := by
  unfold njoin
  rw [if_neg (by omega), if_neg (by omega), at_no hno, if_neg (by omega), if_pos hlen]

theorem joined_at {n : Hw.Node} {id : ByteArray} {theta : Int} (hno : ∀ s ∈ n.subs, subIs id theta s = false) : at? (subIs id theta) (joined n id theta).subs = (n.subs.length : Nat) := by
  refine at_found (by show n.subs.length < (n.subs ++ [joins n id theta]).length; simp) ?_ fun j hj hjl => ?_
  · show subIs id theta (n.subs ++ [joins n id theta])[n.subs.length] = true
    simp [subIs_iff, joins]
  · have e : (n.subs ++ [joins n id theta])[j]'(by simp; omega) = n.subs[j] := List.getElem_append_left hjl
    exact (congrArg (subIs id theta) e).trans (hno _ (List.getElem_mem hjl))

theorem joins_again {n : Hw.Node} {id : ByteArray} {theta : Int} (h1 : 1 ≤ theta) (h2 : theta ≤ 60) (hl : (level n id).2 = 0) (hno : ∀ s ∈ n.subs, subIs id theta s = false) :
    njoin (joined n id theta) id theta = (joined n id theta, [], 5) := by
  have hl2 : (level (joined n id theta) id).2 = 0 := by rw [level_same (n := n) (n' := joined n id theta) rfl rfl rfl]; exact hl
  unfold njoin
  rw [if_neg (by omega), if_neg (by omega), joined_at hno, if_pos (by omega)]

theorem parts_back {n : Hw.Node} {id : ByteArray} {theta : Int} (hno : ∀ s ∈ n.subs, subIs id theta s = false) : npart (joined n id theta) id theta = (n, 0) := by
  unfold npart
  rw [joined_at hno, if_neg (by omega)]
  have e : (joined n id theta).subs.eraseIdx ((n.subs.length : Nat) : Int).toNat = n.subs := by
    show (n.subs ++ [joins n id theta]).eraseIdx _ = n.subs
    rw [Int.toNat_natCast, List.eraseIdx_append_of_length_le (Nat.le_refl _), Nat.sub_self]
    simp
  rw [e]
  rfl

theorem parts_none {n : Hw.Node} {id : ByteArray} {theta : Int} (hno : ∀ s ∈ n.subs, subIs id theta s = false) : npart n id theta = (n, 4) := by
  unfold npart
  rw [at_no hno, if_pos (by omega)]

theorem low_no {n : Hw.Node} (h : Low n) {id : ByteArray} {theta : Int} (ht : 20 ≤ theta) : ∀ s ∈ n.subs, subIs id theta s = false := by
  intro s hs
  cases hq : subIs id theta s with
  | false => rfl
  | true =>
    have := h s hs
    have := (subIs_iff.1 hq).2
    omega

end Go.Proofs.Ytmclalhjnjghnaa
