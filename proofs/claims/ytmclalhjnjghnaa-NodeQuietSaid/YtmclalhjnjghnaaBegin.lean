/- The node of hwkeep.one: all is so of it at the start; and whatever it is asked. -/
import Derived.Test.YtmclalhjnjghnaaAsked
namespace Go.Proofs.Ytmclalhjnjghnaa
open Go.RowKit Hw

theorem watch_eq {n : Hw.Node} {id : ByteArray} {e : Int} {l : List Peer} (h1 : sq id n.c.id = false) (h2 : add n.peers id n.c.cap e n.now = (l, 0)) : watch n id e = ({ n with peers := l }, 0) := by
  unfold watch
  rw [if_neg (by rw [h1]; decide), h2, if_pos rfl]

theorem add_peer_ok {id : ByteArray} {E : Int} (hid : idOk id = true) (h1 : 0 ≤ E) (h2 : E ≤ 16777216) : PeerOk (addPeer id 4 E 0) := by
  have hw : winCheck 4 [E] = 0 := by
    refine win_of (by omega) (by omega) (by show (1 : Int) ≤ 4; omega) (listCheck_of (by show 1 ≤ 64; omega) fun x hx => ?_)
    simp at hx
    rw [hx]
    unfold valOk
    simp
    omega
  exact ⟨hid, (show gateCheck ⟨0, 0, 0⟩ = 0 by decide +kernel), hw, by show (0 : Int) ≤ 0; omega, by show (0 : Int) ≤ 1073741824; omega⟩

def I3 : List ByteArray := [nm 0, nm 1, nm 2]

theorem I3_ok : idOk (nm 0) = true ∧ idOk (nm 1) = true ∧ idOk (nm 2) = true ∧ slt (nm 0) (nm 1) = true ∧ slt (nm 0) (nm 2) = true ∧ slt (nm 1) (nm 2) = true ∧ sq (nm 0) (ByteArray.mk #[97]) = false ∧ sq (nm 1) (ByteArray.mk #[97]) = false ∧ sq (nm 2) (ByteArray.mk #[97]) = false := by decide +kernel

theorem ones_peers (every least : Int) : (ones every least 3).peers = [addPeer (nm 0) 4 (1 + within every 50) 0, addPeer (nm 1) 4 (1 + within every 50) 0, addPeer (nm 2) 4 (1 + within every 50) 0] := by
  have hE := within_in (n := every) (k := 50) (by omega)
  obtain ⟨i0, i1, i2, s01, s02, s12, a0, a1, a2⟩ := I3_ok
  have hv : valOk (1 + within every 50) = true := by unfold valOk; simp; omega
  have p0 := add_peer_ok (E := 1 + within every 50) i0 (by omega) (by omega)
  have p1 := add_peer_ok (E := 1 + within every 50) i1 (by omega) (by omega)
  have hno : ¬ ((4 : Int) < 1 ∨ (64 : Int) < 4 ∨ valOk (1 + within every 50) = false ∨ (0 : Int) < 0 ∨ (1073741824 : Int) < 0) := by
    rw [hv]
    simp
  have step : ∀ k l l', (ones every least k).peers = l → add l (nm k) 4 (1 + within every 50) 0 = (l', 0) → sq (nm k) (ByteArray.mk #[97]) = false → (ones every least (k + 1)).peers = l' := by
    intro k l l' h1 h2 h3
    obtain ⟨-, g2, g3, -, -⟩ := ones_same every least k
    show (watch (ones every least k) (nm k) (1 + within every 50)).1.peers = l'
    rw [watch_eq (l := l') (by rw [g2]; exact h3) (by rw [h1, g2, g3]; exact h2)]
  have e0 : (ones every least 0).peers = [] := rfl
  have e1 := step 0 _ [addPeer (nm 0) 4 (1 + within every 50) 0] e0 (add_yes (by decide +kernel) (by rw [i0]; rfl) hno rfl (by decide)) a0
  have q1 : place [addPeer (nm 0) 4 (1 + within every 50) 0] (nm 1) = 1 := by simp [place, addPeer, s01]
  have c1 : peersCheck [addPeer (nm 0) 4 (1 + within every 50) 0] = 0 := (check_iff _).2 ⟨by simp, ⟨p0, fun q hq => (by cases hq), trivial⟩⟩
  have c2 : peersCheck [addPeer (nm 0) 4 (1 + within every 50) 0, addPeer (nm 1) 4 (1 + within every 50) 0] = 0 := (check_iff _).2 ⟨by simp, ⟨p0, fun q hq => (by cases hq), p1, fun q hq => (by injection hq with hq; rw [← hq]; exact s01), trivial⟩⟩
  have e2 := step 1 _ [addPeer (nm 0) 4 (1 + within every 50) 0, addPeer (nm 1) 4 (1 + within every 50) 0] e1 (by
    rw [add_yes c1 (by rw [i1]; rfl) hno (by simp [found, q1]) (by simp), q1]
    rfl) a1
  have q2 : place [addPeer (nm 0) 4 (1 + within every 50) 0, addPeer (nm 1) 4 (1 + within every 50) 0] (nm 2) = 2 := by simp [place, addPeer, s02, s12]
  exact step 2 _ _ e2 (by
    rw [add_yes c2 (by rw [i2]; rfl) hno (by simp [found, q2]) (by simp), q2]
    rfl) a2

theorem ones_good (every least : Int) : Good I3 (ones every least 3) := by
  have hE := within_in (n := every) (k := 50) (by omega)
  have hL := within_in (n := least) (k := 20) (by omega)
  obtain ⟨g1, g2, g3, g4, g5⟩ := ones_same every least 3
  have hp := ones_peers every least
  obtain ⟨i0, i1, i2, s01, s02, s12, -, -, -⟩ := I3_ok
  have p0 := add_peer_ok (E := 1 + within every 50) i0 (by omega) (by omega)
  have p1 := add_peer_ok (E := 1 + within every 50) i1 (by omega) (by omega)
  have p2 := add_peer_ok (E := 1 + within every 50) i2 (by omega) (by omega)
  have hall : ∀ p ∈ (ones every least 3).peers, p.last = 0 ∧ p.cap = 4 ∧ p.vals.length = 1 := by
    intro p hm
    rw [hp] at hm
    simp only [List.mem_cons, List.not_mem_nil, or_false] at hm
    rcases hm with rfl | rfl | rfl <;> exact ⟨rfl, rfl, rfl⟩
  refine ⟨⟨by rw [g2]; show 1 ≤ 1 + within every 50; omega, by rw [g2]; show 1 + within every 50 ≤ 16777216; omega, by rw [g3]; decide, by rw [g3]; decide, ?_, by rw [g5]; decide, by rw [g5]; decide, ?_, ?_, ?_, by rw [g2]; show 1 ≤ 1 + within least 20; omega, by rw [g2]; show 1 + within least 20 ≤ 16777216; omega, by rw [hp]; rfl⟩, ⟨by rw [g1]; simp, by rw [g1]; simp, by rw [g1]; simp, by rw [g1]; simp⟩, fun s hs => by rw [g1] at hs; simp at hs⟩
  · rw [g4, g3]
    simp
  · rw [hp]
    refine (check_iff _).2 ⟨by simp, p0, by simp, p1, fun q hq => ?_, p2, fun q hq => ?_, trivial⟩
    · injection hq with hq
      rw [← hq]
      exact s01
    · injection hq with hq
      rw [← hq]
      exact s12
  · intro p hm
    rw [(hall p hm).1, g3]
    omega
  · intro p hm
    rw [g2]
    exact ⟨(hall p hm).2.1, by rw [(hall p hm).2.2]; exact Nat.le_refl 1⟩

/-- What was asked first. -/
def isHeard (c : List Int) : Bool := decide (0 < c.length) && within (askAt c 0) 5 == 1

theorem H_bad (c : List Int) : (decode (ByteArray.mk #[72] ++ askId c)).2 ≠ 0 := by
  have hs : (ByteArray.mk #[72] ++ askId c).size = 2 := by
    rw [ByteArray.size_append, askId_size]
    rfl
  unfold decode
  rw [if_neg (by omega)]
  split
  · decide
  · rw [if_pos (by omega)]
    decide

theorem asked_good {I : List ByteArray} {n : Hw.Node} (h : Good I n) (c : List Int) : Good I (asked n c).1 ∧ (∀ x ∈ (asked n c).2, x.suspect = true ∧ isHeard c = false ∨ x.suspect = false ∧ isHeard c = true ∧ x.id = askId c) := by
  have hm := within_in (n := askAt c 0) (k := 5) (by omega)
  have hh : within (askAt c 0) 5 ≠ 1 → isHeard c = false := fun e => by
    unfold isHeard
    rw [show (within (askAt c 0) 5 == 1) = false by simpa using e, Bool.and_false]
  unfold asked
  split
  · rename_i h0
    obtain ⟨g1, g2⟩ := good_tick h (1 + within (askAt c 1) 60)
    exact ⟨g1, fun x hx => .inl ⟨g2 x hx, hh (by omega)⟩⟩
  · split
    · rename_i h1
      have hH : isHeard c = true := by
        unfold isHeard
        rw [h1]
        by_cases hc : 0 < c.length
        · simp [hc]
        · exfalso
          have : c = [] := List.length_eq_zero_iff.1 (by omega)
          rw [this] at h1
          revert h1
          decide +kernel
      have h30 := within_in (n := askAt c 2) (k := 30) (by omega)
      obtain ⟨g1, g2⟩ := good_hear h (encode ⟨askId c, 0, 1 + within (askAt c 2) 30⟩).1
      have hidok : idOk (askId c) = true := by
        unfold askId nm4
        split <;> decide +kernel
      have hb : beatCheck ⟨askId c, 0, 1 + within (askAt c 2) 30⟩ = 0 := by
        unfold beatCheck
        rw [if_neg (by rw [hidok]; decide), if_neg]
        show ¬ ((0 : Int) < 0 ∨ (2147483648 : Int) ≤ 0 ∨ 1 + within (askAt c 2) 30 < 1 ∨ 2147483648 ≤ 1 + within (askAt c 2) 30)
        omega
      rw [decode_encode hb] at g2
      exact ⟨g1, fun x hx => .inr ⟨(g2 x hx).1, hH, (g2 x hx).2⟩⟩
    · rename_i h1
      split
      · obtain ⟨g1, g2⟩ := good_join h (askId c) (1 + within (askAt c 2) 12)
        exact ⟨g1, fun x hx => .inl ⟨g2 x hx, hh h1⟩⟩
      · split
        · exact ⟨good_part h _ _, by simp⟩
        · obtain ⟨g1, g2⟩ := good_hear h (ByteArray.mk #[72] ++ askId c)
          refine ⟨g1, fun x hx => ?_⟩
          have hz : (nhear n (ByteArray.mk #[72] ++ askId c)).2.1 = [] := by
            unfold nhear
            rw [if_pos (H_bad c)]
          have hx' : x ∈ (nhear n (ByteArray.mk #[72] ++ askId c)).2.1 := hx
          rw [hz] at hx'
          cases hx'

/-- The node behind so many turns. -/
def askedAll (n : Hw.Node) (L : List (List Int)) (k : Nat) : Hw.Node := (L.take k).foldl (fun n c => (asked n c).1) n

theorem askedAll_succ (n : Hw.Node) (L : List (List Int)) (k : Nat) (hk : k < L.length) : askedAll n L (k + 1) = (asked (askedAll n L k) L[k]).1 := by
  unfold askedAll
  rw [List.take_succ_eq_append_getElem hk, List.foldl_append]
  rfl

theorem askedAll_good {I : List ByteArray} {n : Hw.Node} (h : Good I n) (L : List (List Int)) : ∀ k, Good I (askedAll n L k) := by
  intro k
  unfold askedAll
  induction L.take k generalizing n with
  | nil => exact h
  | cons c t ih => exact ih (asked_good h c).1

/-- A slice of slices of numbers. -/
def ListsR (w : World) (A : Option Addr) (L : List (List Int)) : Prop :=
  0 < L.length → ∃ b off, A = some ⟨b, off, none⟩ ∧ ∀ k (h : k < L.length), ∃ A' c', w.cell? ⟨b, off + k, none⟩ = some (.slice A' (L[k]).length c') ∧ Ints w A' L[k] ∧ (L[k]).length ≤ 17592186044416

theorem ListsR.below {w w' : World} {A : Option Addr} {L : List (List Int)} (h : ListsR w A L) (hb : Below w.heap.size w w') : ListsR w' A L := fun h0 => by
  obtain ⟨b, off, e, hc⟩ := h h0
  exact ⟨b, off, e, fun k hk => by
    obtain ⟨A', c', h1, h2, h3⟩ := hc k hk
    exact ⟨A', c', bsome hb h1, h2.below hb, h3⟩⟩

theorem ListsR.take {w : World} {A : Option Addr} {L : List (List Int)} (h : ListsR w A L) (k : Nat) : ListsR w A (L.take k) := fun h0 => by
  obtain ⟨b, off, e, hc⟩ := h (by simp at h0; omega)
  refine ⟨b, off, e, fun j hj => ?_⟩
  obtain ⟨A', c', h1, h2, h3⟩ := hc j (by simp at hj; omega)
  have e2 : (L.take k)[j] = L[j]'(by simp at hj; omega) := List.getElem_take
  rw [e2]
  exact ⟨A', c', h1, h2, h3⟩

theorem take_min {α : Type} (L : List α) (k : Nat) : min (L.length : Int) (k : Int) = ((L.take k).length : Int) := by
  rw [List.length_take]
  omega

/-- Where a node stands in memory that is new. -/
def NewAt (w0 w : World) (b : Nat) (n : Hw.Node) : Prop := ∃ vs, NodeAt w b vs n ∧ (∀ q, some q = vs.ownBlock → w0.heap.size ≤ q) ∧ Below w0.heap.size w0 w

theorem NewAt.below {w0 w w' : World} {b : Nat} {n : Hw.Node} (h : NewAt w0 w b n) (hb : Below w.heap.size w w') : NewAt w0 w' b n := by
  obtain ⟨vs, h1, h2, h3⟩ := h
  exact ⟨vs, h1.below hb, h2, h3.trans (hb.mono h3.size)⟩

theorem NewAt.post {w0 w w' : World} {b : Nat} {vs vs' : Value} {n' : Hw.Node} (hs : ∀ q, some q = vs.ownBlock → w0.heap.size ≤ q) (hb : Below w0.heap.size w0 w) (hbl : w0.heap.size ≤ b) (hn : NodeAt w' b vs' n') (hv : VsTo vs vs' w) (ht : Touch (NodeS b vs) w w') : NewAt w0 w' b n' := by
  refine ⟨vs', hn, fun q hq => ?_, Touch.below hb ht hb.size fun k hk => ?_⟩
  · rcases hv q hq with e | e
    · exact hs q e
    · exact Nat.le_trans hb.size e
  · rintro (e | e)
    · omega
    · have := hs k e
      omega

theorem askedAll_zero (n : Hw.Node) (L : List (List Int)) : askedAll n L 0 = n := rfl

theorem own_len {w : World} {B n s : Nat} {e : TypeId} {v : Value} {xs : List Value} (h : w.ownsRow B e s v n xs) : n ≤ 9223372036854775807 := by
  rcases h.2 with ⟨_, e2⟩ | ⟨g, cap, cur, _, _, _, e4, e5, _⟩
  · omega
  · simp only [maxLen] at e5
    omega

/-- One note of a row of notes. -/
theorem note_at {w : World} {B m c : Nat} {A : Option Addr} {l : List Note} (h : w.ownsRow B 74 3 (.slice A m c) l.length (notesCells l)) {k : Nat} (hk : k < l.length) : ∃ g, A = some ⟨g, 0, none⟩ ∧ B ≤ g ∧ m = l.length ∧
    w.cell? ⟨g, k * 3, none⟩ = some (.string (l[k]).id) ∧ w.cell? ⟨g, k * 3 + 1, none⟩ = some (.int .i64 (l[k]).theta) ∧ w.cell? ⟨g, k * 3 + 2, none⟩ = some (.bool (l[k]).suspect) := by
  have hget : ∀ (l : List Note) (k j : Nat) (hk : k < l.length) (_ : j < 3), (notesCells l)[k * 3 + j]? = (noteCells l[k])[j]? := by
    intro l
    induction l with
    | nil => intro k j hk; simp at hk
    | cons s t ih =>
      intro k j hk hj
      show (noteCells s ++ notesCells t)[k * 3 + j]? = _
      cases k with
      | zero =>
        rw [List.getElem?_append_left (by show 0 * 3 + j < 3; omega)]
        simp
      | succ k =>
        rw [List.getElem?_append_right (by show 3 ≤ (k + 1) * 3 + j; omega), show (k + 1) * 3 + j - (noteCells s).length = k * 3 + j by show (k + 1) * 3 + j - 3 = k * 3 + j; omega, ih k j (by simpa using hk) hj]
        simp
  rcases h.2 with ⟨e, e2⟩ | ⟨g, cap, cur, e, hB, _⟩
  · omega
  · injection e with e1 e2 e3
    subst e1 e3
    have hcell : ∀ j u, j < 3 → (noteCells l[k])[j]? = some u → w.cell? ⟨g, k * 3 + j, none⟩ = some u := by
      intro j u hj hu
      have hc := h.cells (g := g) rfl (k * 3 + j) u (by rw [hget l k j hk hj]; exact hu)
      rw [add_lit, Nat.zero_add] at hc
      exact hc
    exact ⟨g, rfl, hB, e2, hcell 0 _ (by omega) rfl, hcell 1 _ (by omega) rfl, hcell 2 _ (by omega) rfl⟩

end Go.Proofs.Ytmclalhjnjghnaa
