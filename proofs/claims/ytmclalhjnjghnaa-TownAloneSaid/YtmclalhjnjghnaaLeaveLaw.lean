/- Plain laws of leaving: of who is not watched any more nothing is known; who is watched again begins anew. -/
import Derived.Test.YtmclalhjnjghnaaBaseM
namespace Go.Proofs.Ytmclalhjnjghnaa
open Go.RowKit Hw

theorem ordered_weaken {a : ByteArray} {prev : Option ByteArray} {l : List Peer} (h : Ordered (some a) l) (hp : ∀ q, prev = some q → slt q a = true) : Ordered prev l := by
  cases l with
  | nil => trivial
  | cons p t =>
    obtain ⟨h1, h2, h3⟩ := h
    exact ⟨h1, fun q hq => slt_trans (hp q hq) (h2 a rfl), h3⟩

theorem ordered_erase : ∀ {l : List Peer} {prev : Option ByteArray} {k : Nat}, Ordered prev l → Ordered prev (l.eraseIdx k)
  | [], _, _, h => h
  | p :: t, prev, 0, h => by
    obtain ⟨h1, h2, h3⟩ := h
    exact ordered_weaken h3 h2
  | p :: t, prev, k + 1, h => by
    obtain ⟨h1, h2, h3⟩ := h
    exact ⟨h1, h2, ordered_erase h3⟩

theorem place_at {l : List Peer} (ho : Ordered none l) {k : Nat} (hk : k < l.length) : place l (l[k]).id = k := by
  refine place_of l _ k (fun j hj hjk => ho.lt j k hjk hk) (fun _ => slt_irrefl _) (by omega)

theorem found_no {l : List Peer} {id : ByteArray} (h : ∀ p ∈ l, p.id ≠ id) : found l id = false := by
  unfold found
  split
  · rename_i p hp
    exact sq_false.2 (h p (List.mem_of_getElem? hp))
  · rfl

theorem erased_ne {l : List Peer} (ho : Ordered none l) {k : Nat} (hk : k < l.length) : ∀ p ∈ l.eraseIdx k, p.id ≠ (l[k]).id := by
  intro p hp e
  obtain ⟨j, hj, hjk, rfl⟩ := List.mem_eraseIdx_iff_getElem.1 hp
  rcases Nat.lt_or_gt_of_ne hjk with h | h
  · have := ho.lt j k h hk
    rw [e, slt_irrefl] at this
    cases this
  · have := ho.lt k j h hj
    rw [e, slt_irrefl] at this
    cases this

/-- '(*Node).Leave'. -/
def nleave (n : Hw.Node) (id : ByteArray) : Hw.Node × Int :=
  if (drop n.peers id).2 = 0 then ({ n with peers := (drop n.peers id).1, subs := n.subs.filter (fun s => !sq s.id id) }, 0) else (n, (drop n.peers id).2)

/-- The node that was left by who has that place. -/
def leftN (n : Hw.Node) (k : Nat) (id : ByteArray) : Hw.Node := { n with peers := n.peers.eraseIdx k, subs := n.subs.filter (fun s => !sq s.id id) }

theorem leaves {I : List ByteArray} {n : Hw.Node} (h : Good I n) {id : ByteArray} (hid : id ∈ I) : ∃ k, ∃ hk : k < n.peers.length, (n.peers[k]).id = id ∧ nleave n id = (leftN n k id, 0) := by
  obtain ⟨p, hp, hpi, -, -⟩ := h.inv.find hid
  obtain ⟨k, hk, rfl⟩ := List.mem_iff_getElem.1 hp
  have hpl := place_at h.inv.ordered.2 hk
  rw [hpi] at hpl
  have hf : found n.peers id = true := by rw [found_at n.peers id k hpl hk]; exact sq_iff.2 hpi
  refine ⟨k, hk, hpi, ?_⟩
  unfold nleave
  rw [drop_yes h.inv.pc hf, hpl, if_pos rfl]
  rfl

theorem left_check {I : List ByteArray} {n : Hw.Node} (h : Good I n) {k : Nat} (hk : k < n.peers.length) : peersCheck (n.peers.eraseIdx k) = 0 := by
  refine (check_iff _).2 ⟨?_, ordered_erase h.inv.ordered.2⟩
  have := h.inv.ordered.1
  rw [List.length_eraseIdx]
  split <;> omega

theorem leaves_again {I : List ByteArray} {n : Hw.Node} (h : Good I n) {id : ByteArray} {k : Nat} (hk : k < n.peers.length) (hid : (n.peers[k]).id = id) : nleave (leftN n k id) id = (leftN n k id, 4) := by
  have hne := erased_ne h.inv.ordered.2 hk
  rw [hid] at hne
  unfold nleave
  rw [show drop (leftN n k id).peers id = ([], 4) from drop_none (left_check h hk) (found_no hne)]
  rfl

theorem left_level {I : List ByteArray} {n : Hw.Node} (h : Good I n) {id : ByteArray} {k : Nat} (hk : k < n.peers.length) (hid : (n.peers[k]).id = id) : level (leftN n k id) id = (0, 4) := by
  have hne := erased_ne h.inv.ordered.2 hk
  rw [hid] at hne
  have hf : (leftN n k id).peers.find? (fun p => sq p.id id) = none := List.find?_eq_none.2 fun p hp e => hne p hp (sq_iff.1 e)
  unfold level
  rw [hf]

theorem left_lv {I : List ByteArray} {n : Hw.Node} (h : Good I n) {id : ByteArray} {k : Nat} (hk : k < n.peers.length) : NodeLv (leftN n k id) := by
  refine ⟨((check_iff _).1 (left_check h hk)).1, fun p hp => h.inv.lv.2 p ((List.eraseIdx_sublist _ _).subset hp)⟩

theorem left_subs {n : Hw.Node} {id : ByteArray} {k : Nat} : ∀ s ∈ (leftN n k id).subs, sq s.id id = false := by
  intro s hs
  have := (List.mem_filter.1 hs).2
  simpa using this

/-- The node where that one is watched again. -/
def backN (n : Hw.Node) (k : Nat) (id : ByteArray) : Hw.Node := { leftN n k id with peers := insertAt (n.peers.eraseIdx k) (place (n.peers.eraseIdx k) id) (addPeer id n.c.cap 9 n.now) }

theorem watches {I : List ByteArray} {n : Hw.Node} (h : Good I n) {id : ByteArray} {k : Nat} (hk : k < n.peers.length) (hid : (n.peers[k]).id = id) (hc : sq id n.c.id = false) (h1 : 1 ≤ n.c.cap) (h2 : n.c.cap ≤ 64) : watch (leftN n k id) id 9 = (backN n k id, 0) := by
  have hne := erased_ne h.inv.ordered.2 hk
  rw [hid] at hne
  have hio : idOk id = true := by rw [← hid]; exact (h.inv.peer (List.getElem_mem hk)).id
  have hn1 := h.inv.n1
  have hn2 := h.inv.n2
  have hlen := h.inv.ordered.1
  exact watch_eq (n := leftN n k id) (id := id) (e := 9) hc (add_yes (left_check h hk) (by rw [hio]; rfl) (by
    rw [show valOk 9 = true from by decide +kernel]
    show ¬ (n.c.cap < 1 ∨ 64 < n.c.cap ∨ true = false ∨ n.now < 0 ∨ 1073741824 < n.now)
    simp
    omega) (found_no hne) (by show (n.peers.eraseIdx k).length ≠ 6; rw [List.length_eraseIdx, if_pos hk]; omega))

theorem back_find {I : List ByteArray} {n : Hw.Node} (h : Good I n) {id : ByteArray} {k : Nat} (hk : k < n.peers.length) (hid : (n.peers[k]).id = id) : (backN n k id).peers.find? (fun p => sq p.id id) = some (addPeer id n.c.cap 9 n.now) := by
  have hne := erased_ne h.inv.ordered.2 hk
  rw [hid] at hne
  show (List.take _ _ ++ addPeer id n.c.cap 9 n.now :: List.drop _ _).find? _ = _
  rw [List.find?_append, List.find?_eq_none.2 fun p hp e => hne p ((List.take_subset _ _) hp) (sq_iff.1 e), List.find?_cons]
  rw [show sq (addPeer id n.c.cap 9 n.now).id id = true from sq_iff.2 rfl]
  rfl

end Go.Proofs.Ytmclalhjnjghnaa
