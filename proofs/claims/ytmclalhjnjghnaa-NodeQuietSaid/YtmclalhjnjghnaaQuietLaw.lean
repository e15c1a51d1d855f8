/- Plain laws of hearing: what is not let through changes nothing but how many were dropped. -/
import Derived.Test.YtmclalhjnjghnaaKeep
namespace Go.Proofs.Ytmclalhjnjghnaa
open Go.RowKit Hw

/-- A peer, but for its drops. -/
def zeroed (p : Peer) : Peer := { p with gate := { p.gate with drops := 0 } }

structure Quiet (n n' : Hw.Node) : Prop where
  d : n'.drops = n.drops + 1
  now : n'.now = n.now
  seq : n'.seq = n.seq
  subs : n'.subs = n.subs
  len : n'.peers.length = n.peers.length
  same : ∀ k (h1 : k < n'.peers.length) (h2 : k < n.peers.length), zeroed n'.peers[k] = zeroed n.peers[k]

theorem quiet_drop {n : Hw.Node} (h : n.drops < 1073741824) : Quiet n (dropped n) :=
  ⟨by show min (n.drops + 1) 1073741824 = n.drops + 1; omega, rfl, rfl, rfl, rfl, fun _ _ _ => rfl⟩

theorem heard_no {p : Peer} {b : Beat} {now : Int} (hg : gateCheck p.gate = 0) (hb : beatCheck b = 0) (ht : (take p.gate b.inc b.seq).2.1 = false) : zeroed (heard p b now) = zeroed p := by
  obtain ⟨b1, b2, b3, b4, b5⟩ := beat_parts hb
  rw [heard_eq, if_neg (by rw [ht]; decide)]
  rw [take_of hg b2 b3 b4 b5] at ht ⊢
  split at ht
  · cases ht
  · rename_i hno
    rw [if_neg hno]
    rfl

theorem zeroed_set (l : List Peer) (k : Nat) (p' : Peer) (hk : k < l.length) (hz : zeroed p' = zeroed l[k]) (j : Nat) (h1 : j < (l.set k p').length) (h2 : j < l.length) : zeroed (l.set k p')[j] = zeroed l[j] := by
  rw [List.getElem_set]
  split
  · rename_i e
    subst e
    exact hz
  · rfl

theorem quiet_hear {I : List ByteArray} {n : Hw.Node} (h : Good I n) (hd : n.drops < 1073741824) (s : ByteArray) :
    ((nhear n s).2.2 = 0 → (nhear n s).1.drops = n.drops) ∧ ((nhear n s).2.2 ≠ 0 → (nhear n s).2.1 = [] ∧ Quiet n (nhear n s).1) := by
  unfold nhear
  split
  · rename_i h1
    exact ⟨fun e => absurd e h1, fun _ => ⟨rfl, quiet_drop hd⟩⟩
  · split
    · rename_i h1
      exact ⟨fun e => absurd e h1, fun _ => ⟨rfl, quiet_drop hd⟩⟩
    · rename_i h1 he
      have he : (hear n.peers (decode s).1 n.now).2.2 = 0 := by simpa using he
      split
      · rename_i ht
        refine ⟨fun e => ?_, fun _ => ⟨rfl, ?_⟩⟩
        · exact absurd (show (5 : Int) = 0 from e) (by decide)
        · obtain ⟨-, hb, -, -, k, hk, -, -, -, hr⟩ := hear_parts he
          rw [hr] at ht
          have ht : (take (n.peers[k]).gate (decode s).1.inc (decode s).1.seq).2.1 = false := ht
          have hp : (hear n.peers (decode s).1 n.now).1 = n.peers.set k (heard n.peers[k] (decode s).1 n.now) := by rw [hr]
          rw [hp]
          refine ⟨by show min (n.drops + 1) 1073741824 = n.drops + 1; omega, rfl, rfl, rfl, by show (n.peers.set k _).length = _; simp, fun j h1 h2 => ?_⟩
          exact zeroed_set n.peers k _ hk (heard_no (h.inv.peer (List.getElem_mem hk)).gate hb ht) j h1 h2
      · exact ⟨fun _ => rfl, fun e => absurd rfl e⟩

end Go.Proofs.Ytmclalhjnjghnaa
