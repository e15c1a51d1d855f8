/- The contract of slices.Insert for one peer more. -/
import Derived.Test.YtmclalhjnjghnaaRowLaws
namespace Go.Proofs.Ytmclalhjnjghnaa
open Go.RowKit Hw

theorem ownBlock_slice (A : Option Addr) (n c : Nat) : (Value.slice A n c).ownBlock = A.map (·.block) := by cases A <;> rfl

set_option maxRecDepth 100000 in
set_option maxHeartbeats 1000000 in
/-- At the end of the row. -/
theorem insert_end (A : Option Addr) (c n : Nat) (xs ys : List Value) (gv : Nat) (B : Nat) (w : World) (h : w.ownsRow B 40 7 (.slice A n c) n xs) (hn : n ≤ 5) (hB : B ≤ w.heap.size)
    (hy : w.heap[gv]? = some (.cells ys.toArray 40 (0, 0))) (hyl : ys.length = 7) (hy1 : ∀ u ∈ ys, u.oneCell' = true) :
    Calls Try.prog 86 #[.slice A n c, .int .i64 n, .slice (some ⟨gv, 0, none⟩) 1 1] w
      fun e w' => (∃ v, e = .returned v ∧ w'.ownsRow B 40 7 v (n + 1) (xs ++ ys)) ∧ w.grownBy w' (A.map (·.block)) := by
  obtain ⟨i0, hi0, hz0, hz1, hz2⟩ := info_parts info40
  have hnews : ∀ j u, ys[j]? = some u → w.cell? ((⟨gv, 0, none⟩ : Addr).add j) = some u := by
    intro j u hu
    rw [add_lit, cell_of_row w gv (0 + j) ys.toArray 40 (0, 0) hy]
    simpa using hu
  have hc : n ≤ c := by
    obtain ⟨A', c', e, h1, -⟩ := own_form h
    injection e with _ _ e3
    omega
  have Hn := Lib.hid hnews
  have H := Lib.hid h
  have Hyl := Lib.hid hyl
  clear hnews h hyl hy
  go_enter Try.func86, Try.ntmps86
  go_wp2_with ((at_builtin; go_loud (refine wpList_append_own_at _ rfl (.tmp 23) (.tmp 24) 22 rfl B 40 i0 _ 7 80 Try.underlying22 hi0 hz0 hz1 hz2 rfl (by omega) (.slice A n c) n xs rfl H.out ⟨gv, 0, none⟩ 1 1 ys rfl (by rw [Hyl.out]) Hn.out hy1 (by simp only [maxLen]; omega) (by omega) hB ?_); intro v2 w2 hown2 hgrow2 _ _; have Hown2 := Lib.hid hown2; clear hown2))
  all_goals
    rw [ownBlock_slice] at hgrow2
    go_ret
    exact ⟨⟨_, rfl, Hown2.out⟩, hgrow2⟩

theorem rowcells {w : World} {g : Nat} {cur : Array Value} {t : TypeId} (hg : w.heap[g]? = some (.cells cur t (0, 0))) (off k : Nat) : ∀ j u, ((cur.toList.drop off).take k)[j]? = some u → w.cell? ((⟨g, off, none⟩ : Addr).add j) = some u := by
  intro j u hu
  rw [List.getElem?_take] at hu
  split at hu
  · rw [List.getElem?_drop] at hu
    rw [add_lit, cell_of_row w g _ cur t (0, 0) hg]
    simpa using hu
  · cases hu

theorem rowcells' {w : World} {g : Nat} {ys : List Value} {t : TypeId} (hg : w.heap[g]? = some (.cells ys.toArray t (0, 0))) : ∀ j u, ys[j]? = some u → w.cell? ((⟨g, 0, none⟩ : Addr).add j) = some u := by
  intro j u hu
  rw [add_lit, cell_of_row w g (0 + j) ys.toArray t (0, 0) hg]
  simpa using hu

theorem news_grown {w w' : World} (hb : w.grownBy w' none) {ad : Addr} {news : List Value} (h : ∀ j u, news[j]? = some u → w.cell? (ad.add j) = some u) :
    ∀ j u, news[j]? = some u → w'.cell? (ad.add j) = some u := fun j u hu => hb.cell (h j u hu) (by simp)

set_option maxRecDepth 100000 in
set_option maxHeartbeats 4000000 in
/-- Within the row, where it must grow. -/
theorem insert_grow (g cap n i : Nat) (cur : Array Value) (ys : List Value) (gv : Nat) (w : World) (hg : w.heap[g]? = some (.cells cur 40 (0, 0))) (hcur : cur.size = cap * 7) (hcap : n = cap) (hi : i < n) (hn : n ≤ 5)
    (hy : w.heap[gv]? = some (.cells ys.toArray 40 (0, 0))) (hyl : ys.length = 7) (hy1 : ∀ u ∈ ys, u.oneCell' = true) (hx1 : ∀ u ∈ (cur.toList.drop (i * 7)).take ((n - i) * 7), u.oneCell' = true) :
    Calls Try.prog 86 #[.slice (some ⟨g, 0, none⟩) n cap, .int .i64 i, .slice (some ⟨gv, 0, none⟩) 1 1] w
      fun e w' => (∃ v, e = .returned v ∧ w'.ownsRow w.heap.size 40 7 v (n + 1) (cur.toList.take (i * 7) ++ ys ++ (cur.toList.take (n * 7)).drop (i * 7))) ∧ Below w.heap.size w w' := by
  obtain ⟨i0, hi0, hz0, hz1, hz2⟩ := info_parts info40
  subst hcap
  have hd : ((i : Int) == (n : Int)) = false := by simp; omega
  have hii : (i : Int) < (n : Int) := by omega
  have Hg := Lib.hid hg
  have Hy := Lib.hid hy
  have Hcur := Lib.hid hcur
  have Hyl := Lib.hid hyl
  clear hg hy hcur hyl
  go_enter Try.func86, Try.ntmps86
  go_wp2_with (first
    | (at_builtin; (refine wpList_append_zeros (by rfl) (.tmp 34) (.tmp 39) 22 3 (by rfl) 40 i0 _ .i64 .i64 Try.underlying22 Try.underlying3 hi0 hz0 (by rw [hz1]; rfl) ⟨g, 0, none⟩ i n (n + 1 - i) (n + 1) _ (by rfl) (by rfl) (by omega) (by omega) ((cur.toList.drop 0).take (i * 7)) (by have := Hcur.out; rw [hz1]; simp; omega) (rowcells Hg.out 0 (i * 7)) (by omega) (by omega) (by omega) (by omega) (by omega) ?_); intro w1 cap1 rest1 hh1 hr1 hc1 hm1 hgr1; rw [hz1] at hr1; have Hr1 := Lib.hid hr1; have hc2 : (i : Int) < (cap1 : Int) := (by omega); have hc3 : (i : Int) + 1 < (cap1 : Int) := (by omega); clear hr1)
    | ((refine wpList_copy_cells (o := ⟨some 45, _, _, _, _, _⟩) (by rfl) (.tmp 43) (.tmp 44) 22 22 (by rfl) 40 i0 Try.underlying22 hi0 w.heap.size (i * 7) (n + 1 - i) (cap1 - i) ⟨gv, 0, none⟩ 1 1 (by rfl) (by rfl) _ 40 (by exact hh1.out) ys (by rw [hz1, Hyl.out]; omega) (by exact news_grown hgr1 (rowcells' Hy.out)) (by have q1 := Hyl.out; have q2 := Hr1.out; have q3 := Hcur.out; simp; omega) hy1 ?_); intro w2 hh2 hgr2))
  have k1 : IntKind.i64.wrap ((i : Int) + 1) = (i : Int) + 1 := IntWalk.i64_in _ (by omega)
  have k2 : (0 : Int) ≤ (i : Int) + 1 := by omega
  have k3 : ((i : Int) + 1).toNat = i + 1 := by omega
  have k4 : (i : Int) + 1 ≤ (n : Int) + 1 := by omega
  have k5 : (n : Int) + 1 ≤ (cap1 : Int) := by omega
  have k6 : (0 : Int) ≤ (i : Int) := by omega
  have k7 : (i : Int) ≤ (n : Int) := by omega
  have k8 : ¬ cap1 = i + 1 := by omega
  have k9 : ¬ n = i := by omega
  go_still_tail 8, (by kernel_rfl)
  change wpList _ _ _ _ _ w2.drew
  have hgne : g ≠ w.heap.size := by
    have := (Array.getElem?_eq_some_iff.1 Hg.out).1
    omega
  have hgl := (Array.getElem?_eq_some_iff.1 Hg.out).1
  have hw2g : w2.drew.heap[g]? = some (.cells cur 40 (0, 0)) := by
    have e1 := hgr1.block g hgl (by simp)
    have e2 := hgr2.block g (Nat.lt_of_lt_of_le hgl hgr1.size) (by simpa using hgne)
    exact e2.trans (e1.trans Hg.out)
  refine wpList_copy_cells (o := ⟨some 54, _, _, _, _, _⟩) (by rfl) (.tmp 50) (.tmp 53) 22 22 (by rfl) 40 i0 Try.underlying22 hi0 _ _ _ _ _ _ _ (by rfl) (by rfl) _ 40 (by exact hh2.out) ((cur.toList.drop (i * 7)).take ((n - i) * 7)) ?_ ?_ ?_ ?_ ?_
  · have := Hcur.out
    rw [hz1]
    simp
    omega
  · exact rowcells hw2g (i * 7) ((n - i) * 7)
  · have q1 := Hyl.out
    have q2 := Hr1.out
    have q3 := Hcur.out
    simp
    omega
  · intro u hu
    exact hx1 u hu
  · intro w3 hh3 hgr3
    clear k1 k2 k3 k4 k5 k6 k7 k8 k9 hw2g
    go_wp2_with fail
    go_ret
    have q0 : cur.toList.length = n * 7 := by simpa using Hcur.out
    have qt := ins_take cur.toList rest1 ys i n cap1 hi q0 Hyl.out Hr1.out hc1
    have ql := ins_len cur.toList rest1 ys i n cap1 hi q0 Hyl.out Hr1.out hc1
    refine ⟨⟨_, rfl, ?_, .inr ⟨w.heap.size, cap1, _, rfl, Nat.le_refl _, hh3.out, hc1, hm1, ?_, ?_⟩⟩, ?_⟩
    · have q1 := Hyl.out
      have q2 := Hcur.out
      simp; omega
    · exact ql
    · rw [← List.append_assoc]
      exact qt
    · have b1 : Below w.heap.size w w1 := (Below.refl _ _).grown hgr1 (Nat.le_refl _) (by simp)
      have b2 : Below w.heap.size w w2 := b1.grown hgr2 b1.size (by simp)
      exact (b2.drew).grown hgr3 b2.size (by simp)

end Go.Proofs.Ytmclalhjnjghnaa
