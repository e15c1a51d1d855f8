/- Contracts of roomy for peers, and of copied. -/
import Derived.Test.YtmclalhjnjghnaaRoomy
import Derived.StillTailTactics
namespace Go.Proofs.Ytmclalhjnjghnaa
open Go.RowKit Hw

/-- The peer that stands behind a copied row. -/
def spare : Peer := ⟨ByteArray.empty, ⟨0, 0, 0⟩, 0, [], 77⟩

abbrev spareCells : List Value := peerCells spare (.slice none 0 0)

/-- The cells of peers that are read, with the slices that stand in them. -/
theorem PeersR.cells {w : World} {A : Option Addr} {l : List Peer} (h : PeersR w A l) : ∃ vs : List Value, vs.length = l.length ∧
    (0 < l.length → ∃ ad, A = some ad ∧ ∀ j u, (cellsOf l vs)[j]? = some u → w.cell? (ad.add j) = some u) ∧
    (∀ (k : Nat) (u : Value) (p : Peer), vs[k]? = some u → l[k]? = some p → ∃ A' c', u = .slice A' p.vals.length c' ∧ Ints w A' p.vals ∧ p.vals.length ≤ c') := by
  rcases Nat.eq_zero_or_pos l.length with h0 | h0
  · have e : l = [] := List.eq_nil_of_length_eq_zero h0
    subst e
    exact ⟨[], rfl, fun h => by simp at h, by simp⟩
  · obtain ⟨b, off, rfl, hp⟩ := h h0
    refine ⟨(List.range l.length).map (fun k => (w.cell? ⟨b, off + k * 7 + 5, none⟩).getD undef), by simp, fun _ => ⟨_, rfl, fun j u hu => ?_⟩, fun k u p hu hpk => ?_⟩
    · have hlen := cellsOf_length l ((List.range l.length).map (fun k => (w.cell? ⟨b, off + k * 7 + 5, none⟩).getD undef)) (by simp)
      have hj := (List.getElem?_eq_some_iff.1 hu).1
      rw [hlen] at hj
      have hk : j / 7 < l.length := by omega
      have hjj : j = j / 7 * 7 + j % 7 := by omega
      have hm : j % 7 < 7 := Nat.mod_lt _ (by omega)
      rw [hjj, cellsOf_get l _ (j / 7) (j % 7) (by simp) hk hm] at hu
      rw [add_lit, show off + j = off + j / 7 * 7 + j % 7 by omega]
      obtain ⟨A', c', g0, g1, g2, g3, g4, g5, g6, -, -⟩ := hp (j / 7) hk
      have hv : ((List.range l.length).map (fun k => (w.cell? ⟨b, off + k * 7 + 5, none⟩).getD undef))[j / 7]'(by simpa using hk) = .slice A' l[j / 7].vals.length c' := by
        simp [g5]
      rw [hv] at hu
      generalize j % 7 = r at hm hu
      obtain rfl | rfl | rfl | rfl | rfl | rfl | rfl : r = 0 ∨ r = 1 ∨ r = 2 ∨ r = 3 ∨ r = 4 ∨ r = 5 ∨ r = 6 := by omega
      all_goals (simp only [peerCells, List.getElem?_cons_zero, List.getElem?_cons_succ, Option.some.injEq] at hu; subst hu; assumption)
    · have hk := (List.getElem?_eq_some_iff.1 hpk).1
      have hpe := (List.getElem?_eq_some_iff.1 hpk).2
      obtain ⟨A', c', g0, g1, g2, g3, g4, g5, g6, gi, gl⟩ := hp k hk
      rw [List.getElem?_map, List.getElem?_range hk] at hu
      simp [g5] at hu
      subst hu
      rw [hpe] at gi gl
      exact ⟨A', c', by rw [hpe], gi, gl⟩

theorem into_below {w w' : World} {A : Option Addr} {news : List Value} (hb : Below w.heap.size w w') (h : ∃ ad, A = some ad ∧ ∀ j u, news[j]? = some u → w.cell? (ad.add j) = some u) :
    ∃ ad, A = some ad ∧ ∀ j u, news[j]? = some u → w'.cell? (ad.add j) = some u := by
  obtain ⟨ad, e, hc⟩ := h
  exact ⟨ad, e, news_below hb hc⟩

/-- Peers in a block of the call's own, with three spare ones behind them. -/
def RoomP (w : World) (B : Nat) (v : Value) (l : List Peer) (vs : List Value) : Prop :=
  ∃ g, v = .slice (some ⟨g, 0, none⟩) l.length (l.length + 3) ∧ B ≤ g ∧ w.heap[g]? = some (.cells (cellsOf l vs ++ (spareCells ++ (spareCells ++ spareCells))).toArray 40 (0, 0))

/-- The head of a row is laid anew, cell by cell. -/
def RowTo (W0 W : World) (g : Nat) (t : TypeId) (a n : Nat) (xs : List Value) : Prop :=
  ∃ cur : Array Value, W.heap[g]? = some (.cells cur t (0, 0)) ∧ cur.size = n ∧ cur.toList.take a = xs ∧ ∀ k, k ≠ g → W.heap[k]? = W0.heap[k]?

theorem RowTo.step {W0 W : World} {g a n : Nat} {t : TypeId} {xs : List Value} (h : RowTo W0 W g t a n xs) (ha : a < n) (v : Value) : RowTo W0 (W.setCell ⟨g, a, none⟩ v) g t (a + 1) n (xs ++ [v]) := by
  obtain ⟨cur, h1, h2, h3, h4⟩ := h
  refine ⟨cur.setIfInBounds a v, heap_setCell_same W _ _ cur t _ h1, by simp [h2], ?_, fun k hk => ?_⟩
  · rw [Array.toList_setIfInBounds, take_set_succ _ _ _ (by simp [h2]; exact ha), h3]
  · rw [heap_setCell_other W _ k v hk, h4 k hk]

theorem RowTo.seven {W : World} {g a n : Nat} {t : TypeId} {cur : Array Value} {xs : List Value} (h1 : W.heap[g]? = some (.cells cur t (0, 0))) (h2 : cur.size = n) (h3 : cur.toList.take a = xs) (ha : a + 7 ≤ n) (v0 v1 v2 v3 v4 v5 v6 : Value) :
    RowTo W (((((((W.setCell ⟨g, a, none⟩ v0).setCell ⟨g, a + 1, none⟩ v1).setCell ⟨g, a + 2, none⟩ v2).setCell ⟨g, a + 3, none⟩ v3).setCell ⟨g, a + 4, none⟩ v4).setCell ⟨g, a + 5, none⟩ v5).setCell ⟨g, a + 6, none⟩ v6) g t (a + 7) n
      (xs ++ [v0, v1, v2, v3, v4, v5, v6]) := by
  have h0 : RowTo W W g t a n xs := ⟨cur, h1, h2, h3, fun _ _ => rfl⟩
  have := ((((((h0.step (by omega) v0).step (by omega) v1).step (by omega) v2).step (by omega) v3).step (by omega) v4).step (by omega) v5).step (by omega) v6
  simpa using this

set_option maxRecDepth 100000 in
set_option maxHeartbeats 2000000 in
theorem roomyp_any (A : Option Addr) (c : Nat) (l : List Peer) (vs : List Value) (w : World) (hvs : vs.length = l.length) (h : 0 < l.length → ∃ ad, A = some ad ∧ ∀ j u, (cellsOf l vs)[j]? = some u → w.cell? (ad.add j) = some u)
    (h1 : ∀ u ∈ cellsOf l vs, u.oneCell' = true) (hl : l.length ≤ 1759218604441) :
    Calls Try.prog 82 #[.slice A l.length c, .agg spareCells.toArray] w fun e w' => (∃ v, e = .returned v ∧ RoomP w' w.heap.size v l vs) ∧ Below w.heap.size w w' := by
  obtain ⟨i0, hi0, hz0, hz1, hz2⟩ := info_parts info40
  obtain ⟨N, hN⟩ : ∃ N : Nat, N = l.length + 3 := ⟨_, rfl⟩
  have hw3 : IntKind.i64.wrap ((l.length : Int) + 3) = (N : Int) := (IntWalk.i64_in _ (by omega)).trans (by omega)
  have hN0 : (0 : Int) ≤ (N : Int) := by omega
  have HN := Lib.hid hN
  have Hh := Lib.hid h
  have H1 := Lib.hid h1
  have Hvs := Lib.hid hvs
  have hcl := cellsOf_length l vs hvs
  clear h h1 hvs hN
  go_enter Try.func82, Try.ntmps82
  go_wp2_with (first
    | (refine wpList_make_own _ rfl _ _ 22 rfl w.heap.size 40 i0 _ 7 Try.underlying22 hi0 hz0 hz1 .i64 .i64 (N : Int) N ?a1 ?a2 ?a3 ?a4 ?a5 ?a6 ?_; (case a1 => rfl); (case a2 => rfl); (case a3 => rfl); (case a4 => (rw [hz2]; have := HN.out; omega)); (case a5 => (have := HN.out; simp only [maxLen]; omega)); (case a6 => simp); intro w1 ho1 hg1; obtain ⟨cur, hcur, hcs⟩ := owns_zero ho1; have Hc := Lib.hid hcur; have Hg1 := Lib.hid hg1; clear ho1 hcur hg1)
    | (at_builtin; refine wpList_append_into rfl (.tmp 10) (.tmp 11) 22 rfl 40 i0 Try.underlying22 hi0 (w.heap.size + 1) 0 N l.length c A (by simp [Act.eval]) rfl cur ?b0 (cellsOf l vs) ?b1 ?b2 H1.out ?b3 ?b4 ?_; (case b0 => (have := Hc.out; simpa using this)); (case b1 => (rw [hz1]; exact hcl)); (case b2 => exact fun h0 => into_below (((Below.refl _ _).alloc (Nat.le_refl _) _).trans ((below_grown Hg1.out).mono (by simp))) (Hh.out h0)); (case b3 => (have := HN.out; omega)); (case b4 => (rw [hcl, hcs, hz1, HN.out]; omega)); intro w2 hw2 hg2; have Hw2 := Lib.hid hw2; have Hg2 := Lib.hid hg2; clear hw2 hg2)
    | fail)
  go_loopw [6, 13] (fun _ i wr => ∃ (k : Nat) (cur' : Array Value), k ≤ 3 ∧ i = .int .i64 k ∧ Hid (wr.heap[w.heap.size]? = some (.cells spareCells.toArray 40 (0, 0))) ∧ Hid (wr.heap[w.heap.size + 1]? = some (.cells cur' 40 (0, 0))) ∧
    cur'.size = (l.length + 3) * 7 ∧ Hid (cur'.toList.take ((l.length + k) * 7) = cellsOf l vs ++ (List.replicate k spareCells).flatten) ∧ Below w.heap.size w wr) (fun _ i _ => 3 - (intOf i).toNat)
  case atStart =>
    have h0 : Below w.heap.size w (w.alloc (.cells spareCells.toArray 40)) := (Below.refl _ _).alloc (Nat.le_refl _) _
    have h1 := below_grown Hg1.out
    have h2 : Below (w.alloc (.cells spareCells.toArray 40)).heap.size (w.alloc (.cells spareCells.toArray 40)) w2 := h1.grown Hg2.out h1.size (fun k hk => by cases hk; simp)
    have hz : 0 * i0.size = 0 := by simp
    have e := Hw2.out.out
    rw [hz] at e
    refine ⟨0, _, by omega, rfl, (h2.block _ (by simp)).trans (heap_alloc_new _ _), e, ?_, ?_, h0.trans (h2.mono (by simp))⟩
    · have := HN.out
      simp [hcl]
      omega
    · show List.take _ _ = _
      simp [hcl]
  case round =>
    obtain ⟨k, cur', hk, rfl, HS, HC, hcs', HT, hb⟩ := hrel
    have hkw : IntKind.i64.wrap ((k : Int) + 1) = (k : Int) + 1 := IntWalk.i64_in _ (by omega)
    have Hb := Lib.hid hb
    clear hb
    by_cases hlt : k < 3
    · have q : ∀ j, j < 7 → wr.cell? ⟨w.heap.size + 1, (l.length + k) * 7 + j, none⟩ = some (cur'.getD ((l.length + k) * 7 + j) undef) := fun j hj => by
        have hj2 : (l.length + k) * 7 + j < cur'.size := by rw [hcs']; omega
        rw [cell_of_row wr _ _ cur' 40 (0, 0) HC.out, Array.getElem?_eq_getElem hj2]
        simp [Array.getD, hj2]
      have f : ∀ j, wr.frozen? ⟨w.heap.size + 1, j, none⟩ = false := fun j => frozen_of_row wr _ _ cur' 40 HC.out
      have q0 : wr.cell? ⟨w.heap.size + 1, (l.length + k) * 7, none⟩ = some (cur'.getD ((l.length + k) * 7) undef) := q 0 (by omega)
      have q1 := q 1 (by omega)
      have q2 := q 2 (by omega)
      have q3 := q 3 (by omega)
      have q4 := q 4 (by omega)
      have q5 := q 5 (by omega)
      have q6 := q 6 (by omega)
      have s := fun j => cell_of_row wr w.heap.size j _ 40 (0, 0) HS.out
      have s0 := s 0
      have s1 := s 1
      have s2 := s 2
      have s3 := s 3
      have s4 := s 4
      have s5 := s 5
      have s6 := s 6
      simp [spare] at s0 s1 s2 s3 s4 s5 s6
      clear q s
      have hlt' : (k : Int) < 3 := by omega
      have hkw2 : IntKind.i64.wrap ((l.length : Int) + (k : Int)) = (l.length : Int) + (k : Int) := IntWalk.i64_in _ (by omega)
      have hi1 : (0 : Int) ≤ (l.length : Int) + (k : Int) := by omega
      have hi2 : (l.length : Int) + (k : Int) < (N : Int) := by have := HN.out; omega
      go_wp2_with fail
      go_still_tail 11, (by kernel_rfl)
      change wpList _ _ _ _ _ wr.drew
      rw [show ((l.length : Int) + (k : Int)).toNat = l.length + k by omega]
      go_wp2_with fail
      have hR := RowTo.seven HC.out hcs' HT.out (by omega) (.string ByteArray.empty) (.int .i64 0) (.int .i64 0) (.int .i64 0) (.int .i64 0) (.slice none 0 0) (.int .i64 77)
      have hB : Below w.heap.size w (((((((wr.setCell ⟨w.heap.size + 1, (l.length + k) * 7, none⟩ (.string ByteArray.empty)).setCell ⟨w.heap.size + 1, (l.length + k) * 7 + 1, none⟩ (.int .i64 0)).setCell ⟨w.heap.size + 1, (l.length + k) * 7 + 2, none⟩ (.int .i64 0)).setCell ⟨w.heap.size + 1, (l.length + k) * 7 + 3, none⟩ (.int .i64 0)).setCell ⟨w.heap.size + 1, (l.length + k) * 7 + 4, none⟩ (.int .i64 0)).setCell ⟨w.heap.size + 1, (l.length + k) * 7 + 5, none⟩ (.slice none 0 0)).setCell ⟨w.heap.size + 1, (l.length + k) * 7 + 6, none⟩ (.int .i64 77)) := (((((((Hb.out.setCell (by simp) _).setCell (by simp) _).setCell (by simp) _).setCell (by simp) _).setCell (by simp) _).setCell (by simp) _).setCell (by simp) _)
      generalize (((((((wr.setCell ⟨w.heap.size + 1, (l.length + k) * 7, none⟩ (.string ByteArray.empty)).setCell ⟨w.heap.size + 1, (l.length + k) * 7 + 1, none⟩ (.int .i64 0)).setCell ⟨w.heap.size + 1, (l.length + k) * 7 + 2, none⟩ (.int .i64 0)).setCell ⟨w.heap.size + 1, (l.length + k) * 7 + 3, none⟩ (.int .i64 0)).setCell ⟨w.heap.size + 1, (l.length + k) * 7 + 4, none⟩ (.int .i64 0)).setCell ⟨w.heap.size + 1, (l.length + k) * 7 + 5, none⟩ (.slice none 0 0)).setCell ⟨w.heap.size + 1, (l.length + k) * 7 + 6, none⟩ (.int .i64 77)) = W at hR hB ⊢
      have HR := Lib.hid hR
      have HB := Lib.hid hB
      clear hR hB
      go_roundw
      case rel =>
        obtain ⟨cur2, e1, e2, e3, e4⟩ := HR.out
        refine ⟨k + 1, cur2, by omega, by go_num, (e4 _ (by omega)).trans HS.out, e1, e2, ?_, HB.out.drew⟩
        show List.take _ _ = _
        rw [show (l.length + (k + 1)) * 7 = (l.length + k) * 7 + 7 by omega, e3, List.append_assoc, List.replicate_succ']
        simp [spare]
      case measure => simp [intOf]; omega
    · have hk3 : k = 3 := by omega
      subst hk3
      go_wp2_with fail
      go_ret
      refine ⟨⟨.slice (some ⟨w.heap.size + 1, 0, none⟩) l.length N, rfl, w.heap.size + 1, by rw [HN.out], by omega, ?_⟩, Hb.out⟩
      have e : cur' = (cellsOf l vs ++ (spareCells ++ (spareCells ++ spareCells))).toArray := by
        have h3 := HT.out
        rw [List.take_of_length_le (by simp [hcs'])] at h3
        apply Array.ext'
        rw [h3]
        simp [List.replicate]
      rw [← e]
      exact HC.out

end Go.Proofs.Ytmclalhjnjghnaa
