/- Plain laws of beats that are heard: which are let through, by their numbers. -/
import Derived.Test.YtmclalhjnjghnaaLeaveLaw
namespace Go.Proofs.Ytmclalhjnjghnaa
open Go.RowKit Hw

/-- The number of the last beat that was let through. -/
def gateSeq (n : Hw.Node) (id : ByteArray) : Int := match n.peers.find? (fun p => sq p.id id) with
  | some p => p.gate.seq
  | none => 0

/-- Nobody began anew. -/
def Inc0 (n : Hw.Node) : Prop := ∀ p ∈ n.peers, p.gate.inc = 0

theorem hear_at {I : List ByteArray} {n : Hw.Node} (h : Inv I n) {d : Beat} (hb : beatCheck d = 0) (hid : d.id ∈ I) : ∃ k, ∃ hk : k < n.peers.length, (n.peers[k]).id = d.id ∧
    hear n.peers d n.now = (n.peers.set k (heard n.peers[k] d n.now), (take (n.peers[k]).gate d.inc d.seq).2.1, 0) ∧ n.peers.find? (fun p => sq p.id d.id) = some n.peers[k] := by
  obtain ⟨p, hp, hpi, hf, -⟩ := h.find hid
  obtain ⟨k, hk, rfl⟩ := List.mem_iff_getElem.1 hp
  have hpl := place_at h.ordered.2 hk
  rw [hpi] at hpl
  have h1 := h.n1
  have h2 := h.n2
  have h3 := h.last _ hp
  refine ⟨k, hk, hpi, ?_, hf⟩
  have := hear_yes (l := n.peers) (b := d) (now := n.now) (p := n.peers[k]) h.pc hb (by omega) (by rw [hpl]; exact List.getElem?_eq_getElem hk) (sq_iff.2 hpi) (by omega)
  rw [this, hpl]

theorem set_first {I : List ByteArray} {n : Hw.Node} (h : Inv I n) {id : ByteArray} {k : Nat} (hk : k < n.peers.length) (hid : (n.peers[k]).id = id) {p' : Peer} (hp : p'.id = id) :
    (n.peers.set k p').find? (fun p => sq p.id id) = some p' ∧ ∀ id', id' ≠ id → (n.peers.set k p').find? (fun p => sq p.id id') = n.peers.find? (fun p => sq p.id id') := by
  refine ⟨find_set_eq hk (sq_iff.2 hp) fun j hj hjk => sq_false.2 fun e => ?_, fun id' hne => find_set_ne hk (by rw [hp, hid]) (sq_false.2 (by rw [hid]; exact Ne.symm hne))⟩
  have := h.ordered.2.lt j k hjk hk
  rw [e, hid, slt_irrefl] at this
  cases this

/-- What hearing keeps. -/
structure Heard (n n' : Hw.Node) (id : ByteArray) : Prop where
  c : n'.c = n.c
  now : n'.now = n.now
  seq : n'.seq = n.seq
  inc : Inc0 n'
  other : ∀ id', id' ≠ id → gateSeq n' id' = gateSeq n id' ∧ n'.peers.find? (fun p => sq p.id id') = n.peers.find? (fun p => sq p.id id')

theorem gate_same {n n' : Hw.Node} {id : ByteArray} (h : n'.peers.find? (fun p => sq p.id id) = n.peers.find? (fun p => sq p.id id)) : gateSeq n' id = gateSeq n id := by
  unfold gateSeq
  rw [h]

theorem nhear_foreign {I : List ByteArray} {n : Hw.Node} (h : Inv I n) {d : Beat} (hb : beatCheck d = 0) (hid : d.id ∉ I) : nhear n (encode d).1 = (dropped n, [], 4) := by
  have hne : ∀ p ∈ n.peers, p.id ≠ d.id := fun p hp e => hid (by rw [← h.ids, ← e]; exact List.mem_map.2 ⟨p, hp, rfl⟩)
  have h1 := h.n1
  have h2 := h.n2
  have he := hear_none (l := n.peers) (b := d) (now := n.now) h.pc hb (by omega) (found_no hne)
  unfold nhear
  rw [decode_encode hb, if_neg (by simp), he, if_pos (by simp)]

theorem nhear_new {I : List ByteArray} {n : Hw.Node} (h : Inv I n) (h0 : Inc0 n) {d : Beat} (hb : beatCheck d = 0) (hi : d.inc = 0) (hid : d.id ∈ I) (hs : gateSeq n d.id < d.seq) :
    ∃ p, p ∈ n.peers ∧ p.id = d.id ∧ n.peers.find? (fun p => sq p.id d.id) = some p ∧ (nhear n (encode d).1).2.2 = 0 ∧ (nhear n (encode d).1).1 = (told (heardNode n d)).1 ∧ (nhear n (encode d).1).2.1 = (told (heardNode n d)).2 ∧
      (nhear n (encode d).1).1.peers.find? (fun p => sq p.id d.id) = some { p with gate := ⟨0, d.seq, p.gate.drops⟩, vals := pushed p.cap p.vals (min (n.now - p.last) 16777216), last := n.now } ∧ gateSeq (nhear n (encode d).1).1 d.id = d.seq ∧ Heard n (nhear n (encode d).1).1 d.id := by
  obtain ⟨k, hk, hki, hr, hf⟩ := hear_at h hb hid
  have hm : n.peers[k] ∈ n.peers := List.getElem_mem hk
  have hg : gateSeq n d.id = (n.peers[k]).gate.seq := by unfold gateSeq; rw [hf]
  rw [hg] at hs
  obtain ⟨b1, b2, b3, b4, b5⟩ := beat_parts hb
  have hi0 := h0 _ hm
  have ht : take (n.peers[k]).gate d.inc d.seq = (⟨d.inc, d.seq, (n.peers[k]).gate.drops⟩, true, 0) := by
    rw [take_of (h.peer hm).gate b2 b3 b4 b5, if_pos (.inr ⟨by rw [hi, hi0], hs⟩)]
  have hh : heard n.peers[k] d n.now = { n.peers[k] with gate := ⟨0, d.seq, (n.peers[k]).gate.drops⟩, vals := pushed (n.peers[k]).cap (n.peers[k]).vals (min (n.now - (n.peers[k]).last) 16777216), last := n.now } := by
    rw [heard_eq, ht, if_pos rfl, hi]
  have hn : nhear n (encode d).1 = ((told (heardNode n d)).1, (told (heardNode n d)).2, 0) := by
    unfold nhear heardNode
    rw [decode_encode hb, if_neg (by simp), hr, if_neg (by simp), ht, if_neg (by simp)]
  obtain ⟨s1, s2⟩ := set_first h hk hki (p' := heard n.peers[k] d n.now) (by rw [hh]; exact hki)
  have hpe : (nhear n (encode d).1).1.peers = n.peers.set k (heard n.peers[k] d n.now) := by
    rw [hn]
    show (heardNode n d).peers = _
    unfold heardNode
    rw [hr]
  rw [hh] at s1 hpe s2
  have hfind : (nhear n (encode d).1).1.peers.find? (fun p => sq p.id d.id) = some { n.peers[k] with gate := ⟨0, d.seq, (n.peers[k]).gate.drops⟩, vals := pushed (n.peers[k]).cap (n.peers[k]).vals (min (n.now - (n.peers[k]).last) 16777216), last := n.now } := by rw [hpe]; exact s1
  refine ⟨n.peers[k], hm, hki, hf, by rw [hn], by rw [hn], by rw [hn], hfind, by unfold gateSeq; rw [hfind], ⟨by rw [hn]; rfl, by rw [hn]; rfl, by rw [hn]; rfl, fun q hq => ?_, fun id' hne => ?_⟩⟩
  · rw [hpe] at hq
    rcases List.mem_or_eq_of_mem_set hq with hq | rfl
    · exact h0 q hq
    · rfl
  · have e : (nhear n (encode d).1).1.peers.find? (fun p => sq p.id id') = n.peers.find? (fun p => sq p.id id') := by rw [hpe]; exact s2 id' hne
    exact ⟨gate_same e, e⟩

theorem nhear_old {I : List ByteArray} {n : Hw.Node} (h : Inv I n) (h0 : Inc0 n) {d : Beat} (hb : beatCheck d = 0) (hi : d.inc = 0) (hid : d.id ∈ I) (hs : d.seq ≤ gateSeq n d.id) :
    ∃ p g, p ∈ n.peers ∧ p.id = d.id ∧ n.peers.find? (fun p => sq p.id d.id) = some p ∧ (nhear n (encode d).1).2.2 = 5 ∧ (nhear n (encode d).1).2.1 = [] ∧ (nhear n (encode d).1).1.subs = n.subs ∧
      (nhear n (encode d).1).1.peers.find? (fun p => sq p.id d.id) = some { p with gate := g } ∧ gateSeq (nhear n (encode d).1).1 d.id = gateSeq n d.id ∧ Heard n (nhear n (encode d).1).1 d.id := by
  obtain ⟨k, hk, hki, hr, hf⟩ := hear_at h hb hid
  have hm : n.peers[k] ∈ n.peers := List.getElem_mem hk
  have hg : gateSeq n d.id = (n.peers[k]).gate.seq := by unfold gateSeq; rw [hf]
  obtain ⟨b1, b2, b3, b4, b5⟩ := beat_parts hb
  have hi0 := h0 _ hm
  have ht : take (n.peers[k]).gate d.inc d.seq = (⟨(n.peers[k]).gate.inc, (n.peers[k]).gate.seq, min ((n.peers[k]).gate.drops + 1) 1073741824⟩, false, 0) := by
    rw [take_of (h.peer hm).gate b2 b3 b4 b5, if_neg (by rw [hi, hi0]; omega)]
  have hh : heard n.peers[k] d n.now = { n.peers[k] with gate := ⟨(n.peers[k]).gate.inc, (n.peers[k]).gate.seq, min ((n.peers[k]).gate.drops + 1) 1073741824⟩ } := by
    rw [heard_eq, ht, if_neg (by simp)]
  have hn : nhear n (encode d).1 = (dropped (heardNode n d), [], 5) := by
    unfold nhear heardNode
    rw [decode_encode hb, if_neg (by simp), hr, if_neg (by simp), ht, if_pos rfl]
  obtain ⟨s1, s2⟩ := set_first h hk hki (p' := heard n.peers[k] d n.now) (by rw [hh]; exact hki)
  have hpe : (nhear n (encode d).1).1.peers = n.peers.set k (heard n.peers[k] d n.now) := by
    rw [hn]
    show (heardNode n d).peers = _
    unfold heardNode
    rw [hr]
  rw [hh] at s1 hpe s2
  have hfind : (nhear n (encode d).1).1.peers.find? (fun p => sq p.id d.id) = some { n.peers[k] with gate := ⟨(n.peers[k]).gate.inc, (n.peers[k]).gate.seq, min ((n.peers[k]).gate.drops + 1) 1073741824⟩ } := by rw [hpe]; exact s1
  refine ⟨n.peers[k], _, hm, hki, hf, by rw [hn], by rw [hn], by rw [hn]; rfl, hfind, by rw [hg]; unfold gateSeq; rw [hfind], ⟨by rw [hn]; rfl, by rw [hn]; rfl, by rw [hn]; rfl, fun q hq => ?_, fun id' hne => ?_⟩⟩
  · rw [hpe] at hq
    rcases List.mem_or_eq_of_mem_set hq with hq | rfl
    · exact h0 q hq
    · exact hi0
  · have e : (nhear n (encode d).1).1.peers.find? (fun p => sq p.id id') = n.peers.find? (fun p => sq p.id id') := by rw [hpe]; exact s2 id' hne
    exact ⟨gate_same e, e⟩

/-- A level is told by the peer's window and time alone. -/
theorem level_find {n n' : Hw.Node} {id : ByteArray} (hc : n'.c = n.c) (hn : n'.now = n.now) {p p' : Peer} (h : n.peers.find? (fun p => sq p.id id) = some p) (h' : n'.peers.find? (fun p => sq p.id id) = some p') (h1 : p'.cap = p.cap) (h2 : p'.vals = p.vals) (h3 : p'.last = p.last) : level n' id = level n id := by
  unfold level
  rw [h, h', hc, hn]
  simp only
  rw [h1, h2, h3]

end Go.Proofs.Ytmclalhjnjghnaa
