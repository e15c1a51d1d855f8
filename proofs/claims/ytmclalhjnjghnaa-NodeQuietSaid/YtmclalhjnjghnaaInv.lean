/- Plain laws of nodes: what stays so of a node whatever it is asked; levels. Plain laws of nodes: what stays so of a node whatever it is asked; what is told. Plain laws of nodes: each turn keeps what is so of a node; what it tells. -/
import Derived.Test.YtmclalhjnjghnaaJoin
import Derived.Test.YtmclalhjnjghnaaDecLaw
import Derived.Test.YtmclalhjnjghnaaOnes
namespace Go.Proofs.Ytmclalhjnjghnaa
open Go.RowKit Hw

theorem sq_iff {a b : ByteArray} : sq a b = true ↔ a = b := by
  unfold sq
  rw [beq_iff_eq]
  constructor
  · intro h
    refine bytes_ext ?_
    rwa [← Lib.toList_data, ← Lib.toList_data]
  · rintro rfl
    rfl
theorem sq_false {a b : ByteArray} : sq a b = false ↔ a ≠ b := by
  constructor
  · intro h e
    rw [sq_iff.2 e] at h
    cases h
  · intro h
    cases hq : sq a b with
    | false => rfl
    | true => exact absurd (sq_iff.1 hq) h

theorem listCheck_of {l : List Int} (h1 : l.length ≤ 64) (h2 : ∀ x ∈ l, valOk x = true) : listCheck l = 0 := by
  unfold listCheck
  rw [if_neg (by omega), if_neg]
  intro h
  rw [List.any_eq_true] at h
  obtain ⟨x, hx, he⟩ := h
  rw [h2 x hx] at he
  cases he

theorem win_parts {cap : Int} {l : List Int} (h : winCheck cap l = 0) : 1 ≤ cap ∧ cap ≤ 64 ∧ (l.length : Int) ≤ cap ∧ listCheck l = 0 := by
  unfold winCheck at h
  split at h
  · cases h
  · split at h
    · cases h
    · exact ⟨by omega, by omega, by omega, h⟩

theorem win_of {cap : Int} {l : List Int} (h1 : 1 ≤ cap) (h2 : cap ≤ 64) (h3 : (l.length : Int) ≤ cap) (h4 : listCheck l = 0) : winCheck cap l = 0 := by
  unfold winCheck
  rw [if_neg (by omega), if_neg (by omega)]
  exact h4

theorem pushed_len {cap : Int} {l : List Int} {n : Int} (h0 : 1 ≤ cap) (h : (l.length : Int) ≤ cap) : ((pushed cap l n).length : Int) ≤ cap ∧ 1 ≤ (pushed cap l n).length := by
  unfold pushed
  split
  · simp
    omega
  · simp
    omega

theorem pushed_ok {cap n : Int} {l : List Int} (h : winCheck cap l = 0) (hn : valOk n = true) : winCheck cap (pushed cap l n) = 0 := by
  obtain ⟨h1, h2, h3, h4⟩ := win_parts h
  obtain ⟨h5, -⟩ := pushed_len (n := n) h1 h3
  refine win_of h1 h2 h5 (listCheck_of (by omega) fun x hx => ?_)
  obtain ⟨-, h6⟩ := list_ok h4
  have hv : ∀ y ∈ l, valOk y = true := fun y hy => by
    have := h6 y hy
    unfold valOk
    simp
    exact this
  unfold pushed at hx
  rcases List.mem_append.1 hx with hx | hx
  · split at hx
    · exact hv x (List.mem_of_mem_tail hx)
    · exact hv x hx
  · simp at hx
    rw [hx]
    exact hn

theorem gate_parts {g : Gate} (h : gateCheck g = 0) : 0 ≤ g.inc ∧ g.inc < 2147483648 ∧ 0 ≤ g.seq ∧ g.seq < 2147483648 ∧ 0 ≤ g.drops ∧ g.drops ≤ 1073741824 ∧ (g.seq = 0 → g.inc = 0) := by
  unfold gateCheck at h
  split at h
  · cases h
  · omega

theorem gate_of {g : Gate} (h1 : 0 ≤ g.inc) (h2 : g.inc < 2147483648) (h3 : 0 ≤ g.seq) (h4 : g.seq < 2147483648) (h5 : 0 ≤ g.drops) (h6 : g.drops ≤ 1073741824) (h7 : g.seq = 0 → g.inc = 0) : gateCheck g = 0 := by
  unfold gateCheck
  rw [if_neg (by omega)]

theorem take_of {g : Gate} {inc seq : Int} (h : gateCheck g = 0) (h1 : 0 ≤ inc) (h2 : inc < 2147483648) (h3 : 1 ≤ seq) (h4 : seq < 2147483648) :
    take g inc seq = if g.inc < inc ∨ (inc = g.inc ∧ g.seq < seq) then (⟨inc, seq, g.drops⟩, true, 0) else (⟨g.inc, g.seq, min (g.drops + 1) 1073741824⟩, false, 0) := by
  unfold take
  rw [if_neg (by simp [h]), if_neg (by omega)]

theorem take_ok {g : Gate} {inc seq : Int} (h : gateCheck g = 0) (h1 : 0 ≤ inc) (h2 : inc < 2147483648) (h3 : 1 ≤ seq) (h4 : seq < 2147483648) : gateCheck (take g inc seq).1 = 0 := by
  obtain ⟨g1, g2, g3, g4, g5, g6, g7⟩ := gate_parts h
  rw [take_of h h1 h2 h3 h4]
  split
  · exact gate_of h1 h2 (by show 0 ≤ seq; omega) h4 g5 g6 (fun e => by have : seq = 0 := e; omega)
  · refine gate_of g1 g2 g3 g4 ?_ ?_ g7
    · show 0 ≤ min (g.drops + 1) 1073741824
      omega
    · show min (g.drops + 1) 1073741824 ≤ 1073741824
      omega

theorem heard_eq (p : Peer) (b : Beat) (now : Int) : heard p b now = if (take p.gate b.inc b.seq).2.1 then { p with gate := (take p.gate b.inc b.seq).1, vals := pushed p.cap p.vals (min (now - p.last) 16777216), last := now } else { p with gate := (take p.gate b.inc b.seq).1 } := rfl

theorem heard_ok {p : Peer} {b : Beat} {now : Int} (h : PeerOk p) (hb : beatCheck b = 0) (h1 : p.last ≤ now) (h2 : now ≤ 1073741824) : PeerOk (heard p b now) ∧ (heard p b now).id = p.id ∧ (heard p b now).cap = p.cap ∧ (1 ≤ p.vals.length → 1 ≤ (heard p b now).vals.length) ∧ (heard p b now).last ≤ now := by
  obtain ⟨b1, b2, b3, b4, b5⟩ := beat_parts hb
  have ht := take_ok h.gate b2 b3 b4 b5
  obtain ⟨w1, w2, w3, w4⟩ := win_parts h.win
  have hlo := h.lo
  rw [heard_eq]
  split
  · refine ⟨⟨h.id, ht, ?_, ?_, h2⟩, rfl, rfl, fun _ => (pushed_len w1 w3).2, Int.le_refl _⟩
    · refine pushed_ok h.win ?_
      unfold valOk
      simp
      omega
    · show 0 ≤ now
      omega
  · exact ⟨⟨h.id, ht, h.win, h.lo, h.hi⟩, rfl, rfl, fun h => h, h1⟩

theorem ordered_set : ∀ {l : List Peer} {prev : Option ByteArray} {k : Nat} {p' : Peer} (_ : Ordered prev l) (hk : k < l.length), p'.id = (l[k]).id → PeerOk p' → Ordered prev (l.set k p')
  | [], _, _, _, _, hk, _, _ => by simp at hk
  | p :: t, prev, 0, p', h, _, hid, hok => by
    obtain ⟨a, b, c⟩ := h
    simp only [List.getElem_cons_zero] at hid
    exact ⟨hok, fun q hq => by rw [hid]; exact b q hq, by rw [hid]; exact c⟩
  | p :: t, prev, k + 1, p', h, hk, hid, hok => by
    obtain ⟨a, b, c⟩ := h
    exact ⟨a, b, ordered_set c (by simpa using hk) (by simpa using hid) hok⟩

theorem find_set_ne {id : ByteArray} : ∀ {l : List Peer} {k : Nat} {p' : Peer} (hk : k < l.length), p'.id = (l[k]).id → sq (l[k]).id id = false → (l.set k p').find? (fun p => sq p.id id) = l.find? (fun p => sq p.id id)
  | [], _, _, hk, _, _ => by simp at hk
  | p :: t, 0, p', _, hid, hs => by
    simp only [List.getElem_cons_zero] at hid hs
    rw [List.set_cons_zero, List.find?_cons, List.find?_cons, hid, hs]
  | p :: t, k + 1, p', hk, hid, hs => by
    simp only [List.getElem_cons_succ] at hid hs
    rw [List.set_cons_succ, List.find?_cons, List.find?_cons, find_set_ne (by simpa using hk) hid hs]

theorem find_set_eq {id : ByteArray} : ∀ {l : List Peer} {k : Nat} {p' : Peer} (_ : k < l.length), sq p'.id id = true → (∀ j (hj : j < l.length), j < k → sq (l[j]).id id = false) → (l.set k p').find? (fun p => sq p.id id) = some p'
  | [], _, _, hk, _, _ => by simp at hk
  | p :: t, 0, p', _, hs, _ => by
    rw [List.set_cons_zero, List.find?_cons, hs]
  | p :: t, k + 1, p', hk, hs, hj => by
    have h0 := hj 0 (by simp) (by omega)
    simp only [List.getElem_cons_zero] at h0
    rw [List.set_cons_succ, List.find?_cons, h0]
    exact find_set_eq (by simpa using hk) hs fun j hj' hjk => by
      have := hj (j + 1) (by simpa using hj') (by omega)
      simpa using this

/-- What hearing does where it goes well. -/
theorem hear_parts {l : List Peer} {b : Beat} {now : Int} (h : (hear l b now).2.2 = 0) : peersCheck l = 0 ∧ beatCheck b = 0 ∧ 0 ≤ now ∧ now ≤ 1073741824 ∧ ∃ k, ∃ hk : k < l.length, place l b.id = k ∧ (l[k]).id = b.id ∧ (l[k]).last ≤ now ∧
    hear l b now = (l.set k (heard l[k] b now), (take (l[k]).gate b.inc b.seq).2.1, 0) := by
  unfold hear at h ⊢
  split at h
  · exact absurd h (by assumption)
  · rename_i h1
    split at h
    · exact absurd h (by assumption)
    · rename_i h2
      split at h
      · cases h
      · rename_i h3
        rw [if_neg h1, if_neg h2, if_neg h3]
        refine ⟨by simpa using h1, by simpa using h2, by omega, by omega, ?_⟩
        split at h
        · cases h
        · rename_i p hp
          obtain ⟨hk, hp'⟩ := List.getElem?_eq_some_iff.1 hp
          split at h
          · cases h
          · rename_i h4
            split at h
            · cases h
            · rename_i h5
              refine ⟨place l b.id, hk, rfl, ?_, ?_, ?_⟩
              · rw [hp']
                exact sq_iff.1 (by simpa using h4)
              · rw [hp']
                omega
              · rw [if_neg h4, if_neg h5, hp']

end Go.Proofs.Ytmclalhjnjghnaa

namespace Go.Proofs.Ytmclalhjnjghnaa
open Go.RowKit Hw

/-- What is so of a node that watches just I, but for its subs. -/
structure Inv (I : List ByteArray) (n : Hw.Node) : Prop where
  e1 : 1 ≤ n.c.every
  e2 : n.c.every ≤ 16777216
  n1 : 0 ≤ n.now
  n2 : n.now ≤ 1073741824
  seq : n.seq = n.now / n.c.every
  d1 : 0 ≤ n.drops
  d2 : n.drops ≤ 1073741824
  pc : peersCheck n.peers = 0
  last : ∀ p ∈ n.peers, p.last ≤ n.now
  win : ∀ p ∈ n.peers, p.cap = n.c.cap ∧ 1 ≤ p.vals.length
  l1 : 1 ≤ n.c.least
  l2 : n.c.least ≤ 16777216
  ids : n.peers.map (·.id) = I

/-- What is so of its subs, but for what was told. -/
structure InvS (I : List ByteArray) (n : Hw.Node) : Prop where
  s8 : n.subs.length ≤ 8
  known : ∀ s ∈ n.subs, s.id ∈ I
  theta : ∀ s ∈ n.subs, 1 ≤ s.theta ∧ s.theta ≤ 60
  dup : n.subs.Pairwise fun a b => ¬ (a.id = b.id ∧ a.theta = b.theta)

def On (n : Hw.Node) : Prop := ∀ s ∈ n.subs, s.on = onNow n s

structure Good (I : List ByteArray) (n : Hw.Node) : Prop where
  inv : Inv I n
  subs : InvS I n
  on : On n

theorem levelOf_ok {cap least since : Int} {l : List Int} (hw : winCheck cap l = 0) (l1 : 1 ≤ least) (l2 : least ≤ 16777216) (h1 : 1 ≤ l.length) (s1 : 0 ≤ since) (s2 : since ≤ 1073741824) :
    levelOf cap l least since = if (l.length : Int) * since - sumOf l ≤ 0 then ((0 : Int), (0 : Int)) else (((((spread l least + ((l.length : Int) * since - sumOf l) * ((l.length : Int) * since - sumOf l)) / spread l least).toNat.log2 : Nat) : Int), (0 : Int)) := by
  unfold levelOf
  rw [if_neg (by simp [hw]), if_neg (by omega), if_neg (by omega), if_neg (by omega)]

theorem log2_mono {a b : Nat} (h : a ≤ b) : a.log2 ≤ b.log2 := by
  by_cases h0 : a = 0
  · subst h0
    exact Nat.zero_le _
  · have hb : b ≠ 0 := by omega
    exact (Nat.le_log2 hb).2 (Nat.le_trans (Nat.log2_self_le h0) h)

theorem levelOf_err {cap least since : Int} {l : List Int} (hw : winCheck cap l = 0) (l1 : 1 ≤ least) (l2 : least ≤ 16777216) (h1 : 1 ≤ l.length) (s1 : 0 ≤ since) (s2 : since ≤ 1073741824) :
    (levelOf cap l least since).2 = 0 ∧ 0 ≤ (levelOf cap l least since).1 := by
  rw [levelOf_ok hw l1 l2 h1 s1 s2]
  split
  · exact ⟨rfl, Int.le_refl _⟩
  · exact ⟨rfl, Int.natCast_nonneg _⟩

theorem levelOf_mono {cap least since since' : Int} {l : List Int} (hw : winCheck cap l = 0) (l1 : 1 ≤ least) (l2 : least ≤ 16777216) (h1 : 1 ≤ l.length) (s1 : 0 ≤ since) (s : since ≤ since') (s2 : since' ≤ 1073741824) :
    (levelOf cap l least since).1 ≤ (levelOf cap l least since').1 := by
  have h0 := (levelOf_err hw l1 l2 h1 (Int.le_trans s1 s) s2).2
  rw [levelOf_ok hw l1 l2 h1 (Int.le_trans s1 s) s2] at h0 ⊢
  rw [levelOf_ok hw l1 l2 h1 s1 (Int.le_trans s s2)]
  have hm : (l.length : Int) * since ≤ (l.length : Int) * since' := Int.mul_le_mul_of_nonneg_left s (by omega)
  split
  · exact h0
  · rw [if_neg (by omega)]
    obtain ⟨p1, -⟩ := spread_in (win_list hw) (by omega) l1 l2
    show ((_ : Nat) : Int) ≤ ((_ : Nat) : Int)
    refine Int.ofNat_le.2 (log2_mono ?_)
    have hd : ((l.length : Int) * since - sumOf l) * ((l.length : Int) * since - sumOf l) ≤ ((l.length : Int) * since' - sumOf l) * ((l.length : Int) * since' - sumOf l) := Int.mul_le_mul (by omega) (by omega) (by omega) (by omega)
    have hq : (spread l least + ((l.length : Int) * since - sumOf l) * ((l.length : Int) * since - sumOf l)) / spread l least ≤ (spread l least + ((l.length : Int) * since' - sumOf l) * ((l.length : Int) * since' - sumOf l)) / spread l least := Int.ediv_le_ediv (by omega) (by omega)
    omega

theorem levelOf_zero {cap least : Int} {l : List Int} (hw : winCheck cap l = 0) (l1 : 1 ≤ least) (l2 : least ≤ 16777216) (h1 : 1 ≤ l.length) : levelOf cap l least 0 = (0, 0) := by
  rw [levelOf_ok hw l1 l2 h1 (by omega) (by omega), if_pos]
  obtain ⟨-, hv⟩ := list_ok (win_list hw)
  have := (sums_in l hv).1
  omega

theorem Inv.ordered {I : List ByteArray} {n : Hw.Node} (h : Inv I n) : n.peers.length ≤ 6 ∧ Ordered none n.peers := (check_iff _).1 h.pc

theorem Inv.peer {I : List ByteArray} {n : Hw.Node} (h : Inv I n) {p : Peer} (hp : p ∈ n.peers) : PeerOk p := h.ordered.2.ok p hp

theorem Inv.lv {I : List ByteArray} {n : Hw.Node} (h : Inv I n) : NodeLv n := by
  refine ⟨h.ordered.1, fun p hp => IntWalk.i64_in _ ?_⟩
  have := (h.peer hp).lo
  have := h.last p hp
  have := h.n2
  omega

theorem Inv.find {I : List ByteArray} {n : Hw.Node} (h : Inv I n) {id : ByteArray} (hid : id ∈ I) : ∃ p ∈ n.peers, p.id = id ∧ n.peers.find? (fun p => sq p.id id) = some p ∧ level n id = levelOf p.cap p.vals n.c.least (n.now - p.last) := by
  rw [← h.ids] at hid
  obtain ⟨p, hp, rfl⟩ := List.mem_map.1 hid
  cases hf : n.peers.find? (fun q => sq q.id p.id) with
  | none =>
    have := List.find?_eq_none.1 hf p hp
    rw [sq_iff.2 rfl] at this
    exact absurd rfl this
  | some q =>
    refine ⟨q, List.mem_of_find?_eq_some hf, sq_iff.1 (by have := List.find?_some hf; exact this), rfl, ?_⟩
    unfold level
    rw [hf]

theorem Inv.find_none {I : List ByteArray} {n : Hw.Node} (h : Inv I n) {id : ByteArray} (hid : id ∉ I) : n.peers.find? (fun p => sq p.id id) = none ∧ level n id = (0, 4) := by
  have hf : n.peers.find? (fun p => sq p.id id) = none := by
    refine List.find?_eq_none.2 fun p hp e => hid ?_
    rw [← h.ids]
    exact List.mem_map.2 ⟨p, hp, sq_iff.1 e⟩
  refine ⟨hf, ?_⟩
  unfold level
  rw [hf]

theorem Inv.level_ok {I : List ByteArray} {n : Hw.Node} (h : Inv I n) {id : ByteArray} (hid : id ∈ I) : (level n id).2 = 0 ∧ 0 ≤ (level n id).1 := by
  obtain ⟨p, hp, -, -, hl⟩ := h.find hid
  rw [hl]
  have := (h.peer hp).lo
  have := h.last p hp
  have := h.n2
  exact levelOf_err (h.peer hp).win h.l1 h.l2 (h.win p hp).2 (by omega) (by omega)

/-- As time goes on no level falls. -/
theorem Inv.later {I : List ByteArray} {n n' : Hw.Node} (h : Inv I n) (hc : n'.c = n.c) (hp : n'.peers = n.peers) (h1 : n.now ≤ n'.now) (h2 : n'.now ≤ 1073741824) {id : ByteArray} (hid : id ∈ I) : (level n id).1 ≤ (level n' id).1 := by
  obtain ⟨p, hpm, -, hf, hl⟩ := h.find hid
  have hl' : level n' id = levelOf p.cap p.vals n'.c.least (n'.now - p.last) := by
    unfold level
    rw [hp, hf]
  rw [hl, hl', hc]
  have := (h.peer hpm).lo
  have := h.last p hpm
  exact levelOf_mono (h.peer hpm).win h.l1 h.l2 (h.win p hpm).2 (by omega) (by omega) (by omega)

theorem map_set_id : ∀ (l : List Peer) (k : Nat) (p' : Peer) (hk : k < l.length), p'.id = (l[k]).id → (l.set k p').map (·.id) = l.map (·.id)
  | [], _, _, hk, _ => by simp at hk
  | p :: t, 0, p', _, h => by
    simp only [List.getElem_cons_zero] at h
    simp [h]
  | p :: t, k + 1, p', hk, h => by
    simp only [List.set_cons_succ, List.map_cons]
    rw [map_set_id t k p' (by simpa using hk) (by simpa using h)]

/-- A node that has heard. -/
def heardNode (n : Hw.Node) (d : Beat) : Hw.Node := { n with peers := (hear n.peers d n.now).1 }

theorem Inv.hear {I : List ByteArray} {n : Hw.Node} (h : Inv I n) {d : Beat} (he : (hear n.peers d n.now).2.2 = 0) : Inv I (heardNode n d) ∧ d.id ∈ I ∧ (∀ id, id ≠ d.id → level (heardNode n d) id = level n id) ∧
    ((hear n.peers d n.now).2.1 = true → level (heardNode n d) d.id = (0, 0)) ∧ ((hear n.peers d n.now).2.1 = false → ∀ id, level (heardNode n d) id = level n id) := by
  obtain ⟨-, hb, -, -, k, hk, hpl, hid, hla, hr⟩ := hear_parts he
  have hm : n.peers[k] ∈ n.peers := List.getElem_mem hk
  obtain ⟨q1, q2, q3, q4, q5⟩ := heard_ok (h.peer hm) hb hla h.n2
  have hn : heardNode n d = { n with peers := n.peers.set k (heard n.peers[k] d n.now) } := by unfold heardNode; rw [hr]
  have hmem : ∀ p ∈ n.peers.set k (heard n.peers[k] d n.now), p ∈ n.peers ∨ p = heard n.peers[k] d n.now := fun p hp => List.mem_or_eq_of_mem_set hp
  have hI : Inv I { n with peers := n.peers.set k (heard n.peers[k] d n.now) } := by
    refine ⟨h.e1, h.e2, h.n1, h.n2, h.seq, h.d1, h.d2, ?_, ?_, ?_, h.l1, h.l2, ?_⟩
    · refine (check_iff _).2 ⟨?_, ordered_set h.ordered.2 hk q2 q1⟩
      rw [List.length_set]
      exact h.ordered.1
    · intro p hp
      rcases hmem p hp with hp | rfl
      · exact h.last p hp
      · exact q5
    · intro p hp
      rcases hmem p hp with hp | rfl
      · exact h.win p hp
      · exact ⟨by rw [q3]; exact (h.win _ hm).1, q4 (h.win _ hm).2⟩
    · show (n.peers.set k _).map (·.id) = I
      rw [map_set_id _ _ _ hk q2]
      exact h.ids
  have hfirst : ∀ j (hj : j < n.peers.length), j < k → sq (n.peers[j]).id d.id = false := fun j hj hjk => by
    refine sq_false.2 fun e => ?_
    have := h.ordered.2.lt j k hjk hk
    rw [e, hid, slt_irrefl] at this
    cases this
  have hdI : d.id ∈ I := by
    rw [← h.ids, ← hid]
    exact List.mem_map.2 ⟨_, hm, rfl⟩
  have hne : ∀ id, id ≠ d.id → level (heardNode n d) id = level n id := fun id hne => by
    rw [hn]
    unfold level
    simp only
    rw [find_set_ne hk q2 (sq_false.2 (by rw [hid]; exact Ne.symm hne))]
  have hft : (n.peers.set k (heard n.peers[k] d n.now)).find? (fun p => sq p.id d.id) = some (heard n.peers[k] d n.now) := find_set_eq hk (sq_iff.2 (by rw [q2, hid])) hfirst
  refine ⟨by rw [hn]; exact hI, hdI, hne, fun ht => ?_, fun ht id => ?_⟩
  · rw [hr] at ht
    have ht : (take (n.peers[k]).gate d.inc d.seq).2.1 = true := ht
    rw [hn]
    unfold level
    simp only
    rw [hft]
    simp only
    have hl : (heard n.peers[k] d n.now).last = n.now := by rw [heard_eq, if_pos ht]
    rw [hl, Int.sub_self]
    exact levelOf_zero q1.win h.l1 h.l2 (q4 (h.win _ hm).2)
  · by_cases hne' : id = d.id
    · subst hne'
      rw [hr] at ht
      have ht : (take (n.peers[k]).gate d.inc d.seq).2.1 = false := ht
      rw [hn]
      unfold level
      simp only
      rw [hft]
      have hold : n.peers.find? (fun p => sq p.id d.id) = some n.peers[k] := List.find?_eq_some_iff_getElem.2 ⟨sq_iff.2 hid, k, hk, rfl, fun j hj => by rw [hfirst j (by omega) hj]; rfl⟩
      rw [hold, heard_eq, if_neg (by simp [ht])]
    · exact hne id hne'

/-- What is told changes nothing but what was told. -/
theorem told_good {I : List ByteArray} {n : Hw.Node} (h : Inv I n) (hs : InvS I n) : Good I (told n).1 := by
  refine ⟨⟨h.e1, h.e2, h.n1, h.n2, h.seq, h.d1, h.d2, h.pc, h.last, h.win, h.l1, h.l2, h.ids⟩, ⟨?_, ?_, ?_, ?_⟩, ?_⟩
  · show (toldSubs n).length ≤ 8
    unfold toldSubs
    rw [List.length_map]
    exact hs.s8
  · intro s hm
    obtain ⟨s0, h0, rfl⟩ := List.mem_map.1 (show s ∈ n.subs.map _ from hm)
    exact hs.known s0 h0
  · intro s hm
    obtain ⟨s0, h0, rfl⟩ := List.mem_map.1 (show s ∈ n.subs.map _ from hm)
    exact hs.theta s0 h0
  · show (n.subs.map _).Pairwise _
    rw [List.pairwise_map]
    exact hs.dup
  · intro s hm
    obtain ⟨s0, h0, rfl⟩ := List.mem_map.1 (show s ∈ n.subs.map _ from hm)
    rfl

theorem told_notes {n : Hw.Node} {x : Note} (h : x ∈ (told n).2) : ∃ s ∈ n.subs, onNow n s ≠ s.on ∧ x = ⟨s.id, s.theta, onNow n s⟩ := by
  obtain ⟨s, hs, he⟩ := List.mem_filterMap.1 (show x ∈ n.subs.filterMap _ from h)
  split at he
  · cases he
  · rename_i hne
    injection he with he
    exact ⟨s, hs, fun e => hne (by rw [e]; simp), he.symm⟩

end Go.Proofs.Ytmclalhjnjghnaa

namespace Go.Proofs.Ytmclalhjnjghnaa
open Go.RowKit Hw

theorem Inv.ok {I : List ByteArray} {n : Hw.Node} (h : Inv I n) : NodeOk n := by
  have h1 := h.seq
  have h2 : 0 ≤ n.now / n.c.every := Int.ediv_nonneg h.n1 (by have := h.e1; omega)
  have h3 : n.now / n.c.every ≤ n.now := Int.ediv_le_self _ h.n1
  have := h.n2
  exact ⟨h.e1, h.e2, h.n1, h.n2, by omega, by omega⟩

theorem Inv.ticked {I : List ByteArray} {n : Hw.Node} (h : Inv I n) {t : Int} (h1 : 0 ≤ t) (h2 : n.now + t ≤ 1073741824) : Inv I (ticked n t) := by
  have hb : ((beats n t : Nat) : Int) = (n.now + t) / n.c.every - n.now / n.c.every := by
    unfold beats
    have : n.now / n.c.every ≤ (n.now + t) / n.c.every := Int.ediv_le_ediv (by have := h.e1; omega) (by omega)
    omega
  have hn1 := h.n1
  refine ⟨h.e1, h.e2, by show 0 ≤ n.now + t; omega, h2, ?_, h.d1, h.d2, h.pc, fun p hp => ?_, h.win, h.l1, h.l2, h.ids⟩
  · show n.seq + (beats n t : Nat) = (n.now + t) / n.c.every
    rw [hb, h.seq]
    omega
  · have := h.last p hp
    show p.last ≤ n.now + t
    omega

theorem InvS.same {I : List ByteArray} {n n' : Hw.Node} (h : InvS I n) (e : n'.subs = n.subs) : InvS I n' := ⟨by rw [e]; exact h.s8, by rw [e]; exact h.known, by rw [e]; exact h.theta, by rw [e]; exact h.dup⟩

theorem good_tick {I : List ByteArray} {n : Hw.Node} (h : Good I n) (t : Int) : Good I (tick n t).1 ∧ ∀ x ∈ (tick n t).2.2.1, x.suspect = true := by
  unfold tick
  split
  · exact ⟨h, by simp⟩
  · split
    · exact ⟨h, by simp⟩
    · have hI := h.inv.ticked (t := t) (by omega) (by omega)
      refine ⟨told_good hI (h.subs.same rfl), fun x hx => ?_⟩
      obtain ⟨s, hs, hne, rfl⟩ := told_notes hx
      have hs' : s ∈ n.subs := hs
      have hlv := h.inv.later (n' := ticked n t) rfl rfl (by show n.now ≤ n.now + t; omega) (by show n.now + t ≤ 1073741824; omega) (h.subs.known s hs')
      have ho := h.on s hs'
      show onNow (ticked n t) s = true
      cases hq : onNow (ticked n t) s with
      | true => rfl
      | false =>
        exfalso
        rw [hq, ho] at hne
        have h1 : onNow n s = true := by
          cases hz : onNow n s with
          | true => rfl
          | false => exact absurd hz.symm (fun e => hne (by rw [hz]))
        unfold onNow at hq h1
        simp at hq h1
        omega

theorem tick_lv {I : List ByteArray} {n : Hw.Node} (h : Good I n) {t : Int} (h1 : 0 ≤ t) (h2 : n.now + t ≤ 1073741824) : NodeLv (ticked n t) := (h.inv.ticked h1 h2).lv

theorem hear_err {l : List Peer} {b : Beat} {now : Int} (h : (hear l b now).2.2 ≠ 0) : (hear l b now).1 = [] := by
  unfold hear at h ⊢
  split
  · rfl
  · rename_i h1
    rw [if_neg h1] at h
    split
    · rfl
    · rename_i h2
      rw [if_neg h2] at h
      split
      · rfl
      · rename_i h3
        rw [if_neg h3] at h
        split
        · rfl
        · rename_i p hp
          rw [hp] at h
          simp only at h
          split
          · rfl
          · rename_i h4
            rw [if_neg h4] at h
            split
            · rfl
            · rename_i h5
              rw [if_neg h5] at h
              exact absurd rfl h

theorem hear_lv {I : List ByteArray} {n : Hw.Node} (h : Inv I n) (d : Beat) : NodeLv { n with peers := (hear n.peers d n.now).1 } := by
  by_cases he : (hear n.peers d n.now).2.2 = 0
  · exact (h.hear he).1.lv
  · rw [hear_err he]
    exact ⟨by simp, by simp⟩

theorem Inv.dropped {I : List ByteArray} {n : Hw.Node} (h : Inv I n) : Inv I (dropped n) := by
  have := h.d1
  exact ⟨h.e1, h.e2, h.n1, h.n2, h.seq, by show 0 ≤ min (n.drops + 1) 1073741824; omega, by show min (n.drops + 1) 1073741824 ≤ 1073741824; omega, h.pc, h.last, h.win, h.l1, h.l2, h.ids⟩

theorem good_hear {I : List ByteArray} {n : Hw.Node} (h : Good I n) (s : ByteArray) : Good I (nhear n s).1 ∧ ∀ x ∈ (nhear n s).2.1, x.suspect = false ∧ x.id = (decode s).1.id := by
  unfold nhear
  split
  · exact ⟨⟨h.inv.dropped, h.subs.same rfl, h.on⟩, by simp⟩
  · split
    · exact ⟨⟨h.inv.dropped, h.subs.same rfl, h.on⟩, by simp⟩
    · rename_i he
      have he : (hear n.peers (decode s).1 n.now).2.2 = 0 := by simpa using he
      obtain ⟨hI, hdI, hne, hyes, hno⟩ := h.inv.hear he
      split
      · rename_i ht
        have hsame := hno ht
        refine ⟨⟨hI.dropped, h.subs.same rfl, fun q hq => ?_⟩, by simp⟩
        have := h.on q hq
        rw [this]
        show decide (q.theta ≤ (level n q.id).1) = decide (q.theta ≤ (level (heardNode n (decode s).1) q.id).1)
        rw [hsame]
      · rename_i ht
        have ht : (hear n.peers (decode s).1 n.now).2.1 = true := by simpa using ht
        refine ⟨told_good hI (h.subs.same rfl), fun x hx => ?_⟩
        obtain ⟨q, hq, hqne, rfl⟩ := told_notes hx
        have hq' : q ∈ n.subs := hq
        have ho := h.on q hq'
        by_cases hid : q.id = (decode s).1.id
        · refine ⟨?_, hid⟩
          show decide (q.theta ≤ (level (heardNode n (decode s).1) q.id).1) = false
          rw [hid, hyes ht]
          have := (h.subs.theta q hq').1
          simp
          omega
        · exfalso
          apply hqne
          rw [ho]
          show decide (q.theta ≤ (level (heardNode n (decode s).1) q.id).1) = decide (q.theta ≤ (level n q.id).1)
          rw [hne q.id hid]

theorem at_neg {α : Type} {f : α → Bool} {l : List α} (h : at? f l < 0) : ∀ x ∈ l, f x = false := by
  rcases at_cases f l with ⟨-, hf⟩ | ⟨k, hk, ha, -, -⟩
  · intro x hx
    have := List.find?_eq_none.1 hf x hx
    simpa using this
  · omega

theorem subIs_iff {id : ByteArray} {theta : Int} {s : Sub} : subIs id theta s = true ↔ s.id = id ∧ s.theta = theta := by
  unfold subIs
  rw [Bool.and_eq_true, sq_iff, beq_iff_eq]

theorem good_join {I : List ByteArray} {n : Hw.Node} (h : Good I n) (id : ByteArray) (theta : Int) : Good I (njoin n id theta).1 ∧ ∀ x ∈ (njoin n id theta).2.1, x.suspect = true := by
  unfold njoin
  split
  · exact ⟨h, by simp⟩
  · split
    · exact ⟨h, by simp⟩
    · rename_i hl
      split
      · exact ⟨h, by simp⟩
      · rename_i hat
        split
        · exact ⟨h, by simp⟩
        · rename_i hlen
          have hid : id ∈ I := by
            by_cases hid : id ∈ I
            · exact hid
            · have := (h.inv.find_none hid).2
              rw [this] at hl
              exact absurd (show (4 : Int) ≠ 0 by decide) hl
          have hno := at_neg (show at? (subIs id theta) n.subs < 0 by omega)
          have h8 := h.subs.s8
          have hS : InvS I { n with subs := n.subs ++ [⟨id, theta, false⟩] } := by
            refine ⟨by simp; omega, fun s hs => ?_, fun s hs => ?_, ?_⟩
            · rcases List.mem_append.1 hs with hs | hs
              · exact h.subs.known s hs
              · simp at hs
                rw [hs]
                exact hid
            · rcases List.mem_append.1 hs with hs | hs
              · exact h.subs.theta s hs
              · simp at hs
                rw [hs]
                show 1 ≤ theta ∧ theta ≤ 60
                omega
            · refine List.pairwise_append.2 ⟨h.subs.dup, by simp, fun a ha c hc => ?_⟩
              simp at hc
              rw [hc]
              rintro ⟨e1, e2⟩
              have := hno a ha
              rw [subIs_iff.2 ⟨e1, e2⟩] at this
              cases this
          refine ⟨told_good (n := { n with subs := n.subs ++ [⟨id, theta, false⟩] }) ⟨h.inv.e1, h.inv.e2, h.inv.n1, h.inv.n2, h.inv.seq, h.inv.d1, h.inv.d2, h.inv.pc, h.inv.last, h.inv.win, h.inv.l1, h.inv.l2, h.inv.ids⟩ hS, fun x hx => ?_⟩
          obtain ⟨s, hs, hne, rfl⟩ := told_notes hx
          show decide (s.theta ≤ (level n s.id).1) = true
          rcases List.mem_append.1 hs with hs | hs
          · exact absurd (h.on s hs).symm hne
          · simp at hs
            rw [hs] at hne ⊢
            have hne : decide (theta ≤ (level n id).1) ≠ false := hne
            show decide (theta ≤ (level n id).1) = true
            cases hq : decide (theta ≤ (level n id).1) with
            | true => rfl
            | false => exact absurd hq hne

theorem good_part {I : List ByteArray} {n : Hw.Node} (h : Good I n) (id : ByteArray) (theta : Int) : Good I (npart n id theta).1 := by
  unfold npart
  split
  · exact h
  · have hsub : (n.subs.eraseIdx (at? (subIs id theta) n.subs).toNat).Sublist n.subs := List.eraseIdx_sublist _ _
    refine ⟨⟨h.inv.e1, h.inv.e2, h.inv.n1, h.inv.n2, h.inv.seq, h.inv.d1, h.inv.d2, h.inv.pc, h.inv.last, h.inv.win, h.inv.l1, h.inv.l2, h.inv.ids⟩, ⟨?_, fun s hs => h.subs.known s (hsub.subset hs), fun s hs => h.subs.theta s (hsub.subset hs), h.subs.dup.sublist hsub⟩, fun s hs => h.on s (hsub.subset hs)⟩
    have := hsub.length_le
    have := h.subs.s8
    show (n.subs.eraseIdx _).length ≤ 8
    omega

end Go.Proofs.Ytmclalhjnjghnaa
