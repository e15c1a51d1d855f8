/- The contract of slices.Insert for one peer more, wherever it is laid. -/
import Derived.Test.YtmclalhjnjghnaaInsertb
namespace Go.Proofs.Ytmclalhjnjghnaa
open Go.RowKit Hw

theorem cellsOf_append : ∀ (l l' : List Peer) (vs vs' : List Value), vs.length = l.length → cellsOf (l ++ l') (vs ++ vs') = cellsOf l vs ++ cellsOf l' vs'
  | [], l', [], vs', _ => by simp [cellsOf]
  | [], _, _ :: _, _, h => by simp at h
  | _ :: _, _, [], _, h => by simp at h
  | q :: l, l', u :: vs, vs', h => by
    have ih := cellsOf_append l l' vs vs' (by simpa using h)
    simp only [List.cons_append, cellsOf]
    rw [ih]
    simp

theorem cellsOf_take (l : List Peer) (vs : List Value) (i : Nat) (h : vs.length = l.length) (hi : i ≤ l.length) : (cellsOf l vs).take (i * 7) = cellsOf (l.take i) (vs.take i) := by
  have e := cellsOf_append (l.take i) (l.drop i) (vs.take i) (vs.drop i) (by simp [h])
  rw [List.take_append_drop, List.take_append_drop] at e
  rw [e]
  exact List.take_left' (by rw [cellsOf_length _ _ (by simp [h])]; simp; omega)

theorem cellsOf_drop (l : List Peer) (vs : List Value) (i : Nat) (h : vs.length = l.length) (hi : i ≤ l.length) : (cellsOf l vs).drop (i * 7) = cellsOf (l.drop i) (vs.drop i) := by
  have e := cellsOf_append (l.take i) (l.drop i) (vs.take i) (vs.drop i) (by simp [h])
  rw [List.take_append_drop, List.take_append_drop] at e
  rw [e]
  exact List.drop_left' (by rw [cellsOf_length _ _ (by simp [h])]; simp; omega)

theorem cellsOf_one : ∀ (l : List Peer) (vs : List Value), (∀ u ∈ vs, ∃ A n c, u = .slice A n c) → ∀ u ∈ cellsOf l vs, u.oneCell' = true
  | [], _, _, u, hu => by simp [cellsOf] at hu
  | _ :: _, [], _, u, hu => by simp [cellsOf] at hu
  | p :: l, v :: vs, h, u, hu => by
    simp only [cellsOf, List.mem_append] at hu
    rcases hu with hu | hu
    · obtain ⟨A, n, c, rfl⟩ := h v (by simp)
      exact peer_one p A n c u hu
    · exact cellsOf_one l vs (fun u hu => h u (by simp [hu])) u hu

theorem OwnP.vs_form {w : World} {B : Nat} {l : List Peer} {vs : List Value} (h1 : vs.length = l.length) (h3 : ∀ (k : Nat) (u : Value) (p : Peer), vs[k]? = some u → l[k]? = some p → w.ownsRow B 3 1 u p.vals.length (ints p.vals)) :
    ∀ u ∈ vs, ∃ A n c, u = .slice A n c := by
  intro u hu
  obtain ⟨k, hk, rfl⟩ := List.getElem_of_mem hu
  obtain ⟨A, c, e, -⟩ := own_form (h3 k vs[k] (l[k]'(by omega)) (List.getElem?_eq_getElem hk) (List.getElem?_eq_getElem (by omega)))
  exact ⟨A, _, c, e⟩

theorem insertAt_get {α : Type} (l : List α) (i k : Nat) (p : α) (hi : i ≤ l.length) : (insertAt l i p)[k]? = if k < i then l[k]? else if k = i then some p else l[k - 1]? := by
  unfold insertAt
  rw [List.getElem?_append]
  have hl : (l.take i).length = i := by simp; omega
  rw [hl]
  by_cases h1 : k < i
  · simp [h1]
  · rw [if_neg h1, if_neg h1]
    by_cases h2 : k = i
    · subst h2; simp
    · rw [if_neg h2]
      obtain ⟨m, hm⟩ : ∃ m, k - i = m + 1 := ⟨k - i - 1, by omega⟩
      rw [hm, List.getElem?_cons_succ, List.getElem?_drop]
      congr 1
      omega

/-- A row into which one peer has been laid. -/
theorem OwnP.inserted {w w' : World} {B : Nat} {v v' u : Value} {l : List Peer} {p : Peer} {vs : List Value} {i : Nat} (hi : i ≤ l.length) (h1 : vs.length = l.length) (h2 : w.ownsRow B 40 7 v l.length (cellsOf l vs))
    (h3 : ∀ (k : Nat) (u : Value) (p : Peer), vs[k]? = some u → l[k]? = some p → w.ownsRow B 3 1 u p.vals.length (ints p.vals)) (hu : w.ownsRow B 3 1 u p.vals.length (ints p.vals))
    (hown : w'.ownsRow B 40 7 v' (l.length + 1) ((cellsOf l vs).take (i * 7) ++ peerCells p u ++ (cellsOf l vs).drop (i * 7))) (hg : w.grownBy w' v.ownBlock) : OwnP w' B v' (insertAt l i p) := by
  have hlen : (insertAt l i p).length = l.length + 1 := by simp [insertAt]; omega
  refine ⟨insertAt vs i u, by simp [insertAt, h1], ?_, fun k y q hy hq => ?_⟩
  · rw [hlen]
    have e : cellsOf (insertAt l i p) (insertAt vs i u) = (cellsOf l vs).take (i * 7) ++ peerCells p u ++ (cellsOf l vs).drop (i * 7) := by
      unfold insertAt
      rw [cellsOf_append _ _ _ _ (by simp [h1]), cellsOf_take l vs i h1 hi, cellsOf_drop l vs i h1 hi]
      simp [cellsOf]
    rw [e]
    exact hown
  · have hr : w.ownsRow B 3 1 y q.vals.length (ints q.vals) := by
      rw [insertAt_get _ _ _ _ (by omega)] at hy
      rw [insertAt_get _ _ _ _ hi] at hq
      split at hy
      · rename_i hk
        rw [if_pos hk] at hq
        exact h3 k y q hy hq
      · rename_i hk
        rw [if_neg hk] at hq
        split at hy
        · rename_i hk2
          rw [if_pos hk2] at hq
          injection hy with hy
          injection hq with hq
          subst hy hq
          exact hu
        · rename_i hk2
          rw [if_neg hk2] at hq
          exact h3 _ y q hy hq
    exact hr.kept hg (own_ne hr h2 (by decide))

/-- slices.Insert of one peer into peers of the call's own. -/
theorem insert_any (A : Option Addr) (c : Nat) (l : List Peer) (p : Peer) (A' : Option Addr) (c' : Nat) (i gv B : Nat) (w : World) (h : OwnP w B (.slice A l.length c) l) (hl : l.length ≤ 5) (hi : i ≤ l.length) (hB : B ≤ w.heap.size)
    (hy : w.heap[gv]? = some (.cells (peerCells p (.slice A' p.vals.length c')).toArray 40 (0, 0))) (hne : some gv ≠ A.map (·.block)) (hu : w.ownsRow B 3 1 (.slice A' p.vals.length c') p.vals.length (ints p.vals)) :
    Calls Try.prog 86 #[.slice A l.length c, .int .i64 i, .slice (some ⟨gv, 0, none⟩) 1 1] w
      fun e w' => (∃ v, e = .returned v ∧ OwnP w' B v (insertAt l i p)) ∧ w.grownBy w' (A.map (·.block)) := by
  obtain ⟨vs, h1, h2, h3⟩ := h
  rcases Nat.lt_or_ge i l.length with hlt | hge
  · rcases h2.2 with ⟨_, e2⟩ | ⟨g, cap, cur, e, hBg, hg, hnc, hcm, hcs, htake⟩
    · omega
    · injection e with e1 _ e3
      subst e1 e3
      have hxs : (cur.toList.drop (i * 7)).take ((l.length - i) * 7) = (cellsOf l vs).drop (i * 7) := by
        rw [← htake, List.drop_take]
        congr 1
        omega
      have hx1 : ∀ u ∈ (cur.toList.drop (i * 7)).take ((l.length - i) * 7), u.oneCell' = true := by
        rw [hxs]
        intro u hu
        exact cellsOf_one l vs (OwnP.vs_form h1 h3) u (List.mem_of_mem_drop hu)
      have ht1 : cur.toList.take (i * 7) = (cellsOf l vs).take (i * 7) := by
        rw [← htake, List.take_take]
        congr 1
        omega
      have hyl : (peerCells p (.slice A' p.vals.length c')).length = 7 := rfl
      by_cases hroom : l.length < c
      · refine (insert_room g c l.length i cur _ gv w hg hcs hroom hcm hlt hl hy (by simpa using hne) hyl (peer_one _ _ _ _) hx1).mono ?_
        rintro e w' ⟨⟨cur', rfl, q1, q2, q3⟩, q4⟩
        refine ⟨⟨_, rfl, OwnP.inserted hi h1 h2 h3 hu ⟨?_, .inr ⟨g, c, cur', rfl, hBg, q1, by omega, hcm, q2, ?_⟩⟩ q4⟩, q4⟩
        · rw [List.length_append, List.length_append, List.length_take, List.length_drop, cellsOf_length _ _ h1, hyl]
          omega
        · rw [q3, ht1, htake]
      · refine (insert_grow g c l.length i cur _ gv w hg hcs (by omega) hlt hl hy hyl (peer_one _ _ _ _) hx1).mono ?_
        rintro e w' ⟨⟨v, rfl, q1⟩, q4⟩
        have q5 : w.grownBy w' (some g) := ⟨q4.os, q4.tape, q4.output, q4.size, fun k hk _ => q4.block k hk⟩
        refine ⟨⟨_, rfl, OwnP.inserted hi h1 h2 h3 hu ?_ q5⟩, q5⟩
        rw [ht1, htake] at q1
        exact own_base q1 hB
  · obtain rfl : i = l.length := by omega
    refine (insert_end A c l.length (cellsOf l vs) _ gv B w h2 hl hB hy rfl (peer_one _ _ _ _)).mono ?_
    rintro e w' ⟨⟨v, rfl, q1⟩, q4⟩
    refine ⟨⟨_, rfl, OwnP.inserted hi h1 h2 h3 hu ?_ (by rw [ownBlock_slice]; exact q4)⟩, q4⟩
    have e1 : (cellsOf l vs).take (l.length * 7) = cellsOf l vs := List.take_of_length_le (by rw [cellsOf_length _ _ h1]; omega)
    have e2 : (cellsOf l vs).drop (l.length * 7) = [] := List.drop_eq_nil_of_le (by rw [cellsOf_length _ _ h1]; omega)
    rw [e1, e2, List.append_nil]
    exact q1

end Go.Proofs.Ytmclalhjnjghnaa
