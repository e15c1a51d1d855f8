/- The contract of peers.Drop. -/
import Derived.Test.YtmclalhjnjghnaaDel
namespace Go.Proofs.Ytmclalhjnjghnaa
open Go.RowKit Hw

theorem eraseIdx_get {α : Type} (l : List α) (i k : Nat) : (l.eraseIdx i)[k]? = if k < i then l[k]? else l[k + 1]? := by
  rw [List.getElem?_eraseIdx]

theorem eraseIdx_td {α : Type} (l : List α) (i : Nat) : l.eraseIdx i = l.take i ++ l.drop (i + 1) := List.eraseIdx_eq_take_drop_succ l i

/-- A row out of which one peer has been taken. -/
theorem OwnP.erased {w w' : World} {B : Nat} {v v' : Value} {l : List Peer} {vs : List Value} {i : Nat} (hi : i < l.length) (h1 : vs.length = l.length) (h2 : w.ownsRow B 40 7 v l.length (cellsOf l vs))
    (h3 : ∀ (k : Nat) (u : Value) (p : Peer), vs[k]? = some u → l[k]? = some p → w.ownsRow B 3 1 u p.vals.length (ints p.vals))
    (hown : w'.ownsRow B 40 7 v' (l.length - 1) ((cellsOf l vs).take (i * 7) ++ (cellsOf l vs).drop ((i + 1) * 7))) (hg : w.grownBy w' v.ownBlock) : OwnP w' B v' (l.eraseIdx i) := by
  have hlen : (l.eraseIdx i).length = l.length - 1 := by rw [List.length_eraseIdx, if_pos hi]
  refine ⟨vs.eraseIdx i, by rw [List.length_eraseIdx, if_pos (by omega), hlen, h1], ?_, fun k y q hy hq => ?_⟩
  · rw [hlen]
    have e : cellsOf (l.eraseIdx i) (vs.eraseIdx i) = (cellsOf l vs).take (i * 7) ++ (cellsOf l vs).drop ((i + 1) * 7) := by
      rw [eraseIdx_td, eraseIdx_td, cellsOf_append _ _ _ _ (by simp [h1]), cellsOf_take l vs i h1 (by omega), cellsOf_drop l vs (i + 1) h1 (by omega)]
    rw [e]
    exact hown
  · have hr : w.ownsRow B 3 1 y q.vals.length (ints q.vals) := by
      rw [eraseIdx_get] at hy hq
      split at hy
      · rename_i hk
        rw [if_pos hk] at hq
        exact h3 k y q hy hq
      · rename_i hk
        rw [if_neg hk] at hq
        exact h3 _ y q hy hq
    exact hr.kept hg (own_ne hr h2 (by decide))

theorem found_lt {l : List Peer} {id : ByteArray} (h : found l id = true) : place l id < l.length := by
  unfold found at h
  split at h
  · rename_i p hp
    exact (List.getElem?_eq_some_iff.1 hp).1
  · cases h

/-- slices.Delete of one peer out of peers of the call's own. -/
theorem delP_any (A : Option Addr) (c : Nat) (l : List Peer) (i B : Nat) (w : World) (h : OwnP w B (.slice A l.length c) l) (hi : i < l.length) :
    Calls Try.prog 88 #[.slice A l.length c, .int .i64 i, .int .i64 (i + 1)] w
      fun e w' => (∃ v, e = .returned v ∧ OwnP w' B v (l.eraseIdx i)) ∧ w.grownBy w' (A.map (·.block)) := by
  obtain ⟨vs, h1, h2, h3⟩ := h
  rcases h2.2 with ⟨_, e2⟩ | ⟨g, cap, cur, e, hBg, hg, hnc, hcm, hcs, htake⟩
  · omega
  · injection e with e1 _ e3
    subst e1 e3
    have hxs : (cur.toList.drop ((i + 1) * 7)).take ((l.length - (i + 1)) * 7) = (cellsOf l vs).drop ((i + 1) * 7) := by
      rw [← htake, List.drop_take]
      congr 1
      omega
    have hx1 : ∀ u ∈ (cur.toList.drop ((i + 1) * 7)).take ((l.length - (i + 1)) * 7), u.oneCell' = true := by
      rw [hxs]
      intro u hu
      exact cellsOf_one l vs (OwnP.vs_form h1 h3) u (List.mem_of_mem_drop hu)
    have ht1 : cur.toList.take (i * 7) = (cellsOf l vs).take (i * 7) := by
      rw [← htake, List.take_take]
      congr 1
      omega
    refine (delP_cells g c l.length i cur w hg hcs hnc hcm hi hx1).mono ?_
    rintro e w' ⟨⟨cur', rfl, q1, q2, q3⟩, q4⟩
    refine ⟨⟨_, rfl, OwnP.erased hi h1 h2 h3 ⟨?_, .inr ⟨g, c, cur', rfl, hBg, q1, by omega, hcm, q2, ?_⟩⟩ q4⟩, q4⟩
    · rw [List.length_append, List.length_take, List.length_drop, cellsOf_length _ _ h1]
      omega
    · rw [q3, ht1, hxs]

theorem drop_bad {l : List Peer} {id : ByteArray} (h : peersCheck l ≠ 0) : drop l id = ([], peersCheck l) := by
  unfold drop; rw [if_pos h]
theorem drop_none {l : List Peer} {id : ByteArray} (h : peersCheck l = 0) (h1 : found l id = false) : drop l id = ([], 4) := by
  unfold drop; rw [if_neg (by simp [h]), if_pos h1]
theorem drop_yes {l : List Peer} {id : ByteArray} (h : peersCheck l = 0) (h1 : found l id = true) : drop l id = (l.eraseIdx (place l id), 0) := by
  unfold drop; rw [if_neg (by simp [h]), if_neg (by simp [h1])]

set_option maxHeartbeats 2000000 in
theorem drop_any (A : Option Addr) (c : Nat) (l : List Peer) (id : ByteArray) (w : World) (h : PeersR w A l) :
    Calls Try.prog 23 #[.slice A l.length c, .string id] w (AddPost w (drop l id)) := by
  have Hh := Lib.hid h
  clear h
  by_cases hp : peersCheck l = 0
  · have hpb : (peersCheck l != 0) = false := by simp [hp]
    obtain ⟨hl, ho⟩ := (check_iff l).1 hp
    have Hm := Lib.hid (ordered_mono ho id)
    have Hv := Lib.hid (fun (k : Nat) (p : Peer) (hk : l[k]? = some p) => win_len (ho.ok p (List.mem_of_getElem? hk)).win)
    have Hp := Lib.hid hp
    have hpl : (place l id : Int) ≤ 6 := by have := place_le l id; omega
    clear hp ho
    cases hf : found l id with
    | false =>
      have Hf := Lib.hid hf
      go_enter Try.func23, Try.ntmps23
      go_wp2_with (first
        | (go_at_call 47; refine (check_any A c l _ Hh.out).mono ?_; rintro e w1 ⟨rfl, hb1⟩)
        | (go_at_call 85; refine (find_any A c l id _ (Hh.out.below hb1) hl Hm.out).mono ?_; rintro e w3 ⟨rfl, hb3⟩))
      go_ret2
      rw [drop_none Hp.out Hf.out]
      exact ⟨⟨_, rfl, OwnP.nil _ _⟩, hb1.trans (hb3.mono hb1.size)⟩
    | true =>
      have Hf := Lib.hid hf
      have Hlt := Lib.hid (found_lt hf)
      go_enter Try.func23, Try.ntmps23
      go_wp2_with (first
        | (go_at_call 47; refine (check_any A c l _ Hh.out).mono ?_; rintro e w1 ⟨rfl, hb1⟩)
        | (go_at_call 85; refine (find_any A c l id _ (Hh.out.below hb1) hl Hm.out).mono ?_; rintro e w3 ⟨rfl, hb3⟩)
        | (go_at_call 87; refine (copied_any A c l _ ((Hh.out.below hb1).below hb3) hl Hv.out).mono ?_; rintro e w4 ⟨⟨v4, rfl, ho4⟩, hb4⟩; obtain ⟨A4, c4, rfl, hblk⟩ := ho4.form; have Ho4 := Lib.hid ho4; have Hblk := Lib.hid hblk; clear ho4 hblk)
        | (go_at_call 88; refine (delP_any A4 c4 l (place l id) _ _ Ho4.out Hlt.out).mono ?_; rintro e w5 ⟨⟨v5, rfl, ho5⟩, hg5⟩; have Ho5 := Lib.hid ho5; clear ho5))
      go_ret2
      rw [drop_yes Hp.out Hf.out]
      have hb13 := hb1.trans (hb3.mono hb1.size)
      have hb14 := hb13.trans (hb4.mono hb13.size)
      exact ⟨⟨_, rfl, Ho5.out.base hb13.size⟩, hb14.grown hg5 hb14.size (fun k hk => by have := Hblk.out k hk; have := hb13.size; omega)⟩
  · have hpb : (peersCheck l != 0) = true := by simp [hp]
    go_enter Try.func23, Try.ntmps23
    go_wp2_with (go_at_call 47; refine (check_any A c l _ Hh.out).mono ?_; rintro e w1 ⟨rfl, hb1⟩)
    go_ret2
    rw [drop_bad hp]
    exact ⟨⟨_, rfl, OwnP.nil _ _⟩, hb1⟩

end Go.Proofs.Ytmclalhjnjghnaa
