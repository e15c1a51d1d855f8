/- The contract of slices.Insert for one peer more, within a row that has room. -/
import Derived.Test.YtmclalhjnjghnaaInsert
import Derived.Lib.Overlaps
namespace Go.Proofs.Ytmclalhjnjghnaa
open Go.RowKit Hw

/-- Moved up by one within the row, and the new one laid in. -/
theorem room_take {α : Type} (cur ys : List α) (i n c : Nat) (hi : i < n) (hcur : cur.length = c * 7) (hy : ys.length = 7) (hc : n < c) :
    ((((cur.take ((i + 1) * 7) ++ (cur.drop (i * 7)).take ((n - i) * 7) ++ cur.drop ((i + 1) * 7 + ((cur.drop (i * 7)).take ((n - i) * 7)).length)).take (i * 7) ++ ys ++
      (cur.take ((i + 1) * 7) ++ (cur.drop (i * 7)).take ((n - i) * 7) ++ cur.drop ((i + 1) * 7 + ((cur.drop (i * 7)).take ((n - i) * 7)).length)).drop (i * 7 + ys.length))).take ((n + 1) * 7)) =
      cur.take (i * 7) ++ ys ++ (cur.take (n * 7)).drop (i * 7) := by
  have hcs : ((cur.drop (i * 7)).take ((n - i) * 7)).length = (n - i) * 7 := by simp; omega
  have hd : (cur.take (n * 7)).drop (i * 7) = (cur.drop (i * 7)).take ((n - i) * 7) := by
    rw [List.drop_take]
    congr 1
    omega
  rw [hd]
  generalize hC : (cur.drop (i * 7)).take ((n - i) * 7) = C at *
  generalize hL : cur.take ((i + 1) * 7) ++ C ++ cur.drop ((i + 1) * 7 + C.length) = L
  have hlen : L.length = c * 7 := by rw [← hL, spl_len _ _ _ (by omega), hcur]
  have h1 : L.take (i * 7) = cur.take (i * 7) := by
    rw [← hL, List.append_assoc, List.take_append_of_le_length (by simp; omega), List.take_take]
    congr 1
    omega
  have h2 : (L.drop (i * 7 + ys.length)).take C.length = C := by
    rw [← hL, List.append_assoc, hy]
    have : i * 7 + 7 = (cur.take ((i + 1) * 7)).length := by simp; omega
    rw [this, List.drop_left, List.take_left]
  rw [List.take_append, List.take_of_length_le (by simp; omega)]
  have e : (n + 1) * 7 - (L.take (i * 7) ++ ys).length = C.length := by simp; omega
  rw [e, h2, h1]

theorem room_len {α : Type} (cur ys : List α) (i n c : Nat) (hi : i < n) (hcur : cur.length = c * 7) (hy : ys.length = 7) (hc : n < c) :
    (((cur.take ((i + 1) * 7) ++ (cur.drop (i * 7)).take ((n - i) * 7) ++ cur.drop ((i + 1) * 7 + ((cur.drop (i * 7)).take ((n - i) * 7)).length)).take (i * 7) ++ ys ++
      (cur.take ((i + 1) * 7) ++ (cur.drop (i * 7)).take ((n - i) * 7) ++ cur.drop ((i + 1) * 7 + ((cur.drop (i * 7)).take ((n - i) * 7)).length)).drop (i * 7 + ys.length))).length = c * 7 := by
  have hcs : ((cur.drop (i * 7)).take ((n - i) * 7)).length = (n - i) * 7 := by simp; omega
  have hl := spl_len cur ((cur.drop (i * 7)).take ((n - i) * 7)) ((i + 1) * 7) (by omega)
  rw [spl_len _ _ _ (by omega), hl, hcur]

set_option maxRecDepth 100000 in
set_option maxHeartbeats 2000000 in
theorem insert_room (g cap n i : Nat) (cur : Array Value) (ys : List Value) (gv : Nat) (w : World) (hg : w.heap[g]? = some (.cells cur 40 (0, 0))) (hcur : cur.size = cap * 7) (hcap : n < cap) (hm : cap ≤ maxLen) (hi : i < n) (hn : n ≤ 5)
    (hy : w.heap[gv]? = some (.cells ys.toArray 40 (0, 0))) (hne : gv ≠ g) (hyl : ys.length = 7) (hy1 : ∀ u ∈ ys, u.oneCell' = true) (hx1 : ∀ u ∈ (cur.toList.drop (i * 7)).take ((n - i) * 7), u.oneCell' = true) :
    Calls Try.prog 86 #[.slice (some ⟨g, 0, none⟩) n cap, .int .i64 i, .slice (some ⟨gv, 0, none⟩) 1 1] w
      fun e w' => (∃ cur', e = .returned (.slice (some ⟨g, 0, none⟩) (n + 1) cap) ∧ w'.heap[g]? = some (.cells cur' 40 (0, 0)) ∧ cur'.size = cap * 7 ∧
        cur'.toList.take ((n + 1) * 7) = cur.toList.take (i * 7) ++ ys ++ (cur.toList.take (n * 7)).drop (i * 7)) ∧ w.grownBy w' (some g) := by
  obtain ⟨i0, hi0, hz0, hz1, hz2⟩ := info_parts info40
  have hd : ((i : Int) == (n : Int)) = false := by simp; omega
  have hii : (i : Int) < (n : Int) := by omega
  have hcc : (n : Int) < (cap : Int) := by omega
  have Hg := Lib.hid hg
  have Hy := Lib.hid hy
  have Hcur := Lib.hid hcur
  have Hyl := Lib.hid hyl
  have Hm := Lib.hid hm
  have hm' : cap ≤ 9223372036854775807 := by simp only [maxLen] at hm; omega
  clear hg hy hcur hyl hm
  go_enter Try.func86, Try.ntmps86
  go_wp2_with fail
  have hsz : ∀ w, (Go.sizeOf 40).run Try.prog w = .ok 7 w := fun W => by simp [sizeOf, typeInfo, hi0, hz1]
  have hov : ∀ lb cb, (callFunc 130 #[.slice (some ⟨gv, 0, none⟩) 1 1, .slice (some ⟨g, (i + 1) * 7, none⟩) lb cb]).run Try.prog w = .ok (.value (.bool false)) w := by
    intro lb cb
    rw [run_callFunc_extern Try.func130 (by kernel_rfl) (by kernel_rfl) (by kernel_rfl) (e := Extern.SlicesOverlaps.overlaps #[22, 22] #[4]) (by kernel_rfl)]
    rw [Lib.run_overlaps_apart w 22 4 40 Try.underlying22 7 hsz ⟨gv, 0, none⟩ ⟨g, (i + 1) * 7, none⟩ 1 1 lb cb hne 40 40 ys.toArray.size cur.size
      (by simp [World.shape?, Hy.out]) (by simp [World.shape?, Hg.out]) (by have := Hcur.out; omega) (by simp [World.frozen?, Hy.out]) (by simp [World.frozen?, Hy.out])]
    rfl
  rw [hov]
  rw [Oper.upon_value]
  clear hov hsz
  go_wp2_with fail
  have k1 : IntKind.i64.wrap ((i : Int) + 1) = (i : Int) + 1 := IntWalk.i64_in _ (by omega)
  have k2 : (0 : Int) ≤ (i : Int) + 1 := by omega
  have k3 : ((i : Int) + 1).toNat = i + 1 := by omega
  have k4 : (i : Int) + 1 ≤ (n : Int) + 1 := by omega
  have k5 : (n : Int) + 1 ≤ (cap : Int) := by omega
  have k6 : (0 : Int) ≤ (i : Int) := by omega
  have k7 : (i : Int) ≤ (n : Int) + 1 := by omega
  have k8 : ¬ cap = i + 1 := by omega
  have k9 : ¬ cap = i := by omega
  go_still_tail 8, (by kernel_rfl)
  change wpList _ _ _ _ _ w.drew
  have hgl := (Array.getElem?_eq_some_iff.1 Hg.out).1
  refine wpList_copy_cells (o := ⟨some 77, _, _, _, _, _⟩) (by rfl) (.tmp 73) (.tmp 76) 22 22 (by rfl) 40 i0 Try.underlying22 hi0 g ((i + 1) * 7) _ _ ⟨g, i * 7, none⟩ _ _ (by rfl) (by rfl) cur 40 (by exact Hg.out) ((cur.toList.drop (i * 7)).take ((n - i) * 7)) ?_ ?_ ?_ ?_ ?_
  · have := Hcur.out
    rw [hz1]
    simp
    omega
  · exact rowcells (w := w.drew) Hg.out (i * 7) ((n - i) * 7)
  · have q3 := Hcur.out
    simp
    omega
  · intro u hu
    exact hx1 u hu
  · intro w3 hh3 hgr3
    have hgr3' : w.grownBy w3 (some g) := ⟨hgr3.os, hgr3.tape, hgr3.output, hgr3.size, hgr3.block⟩
    have hy3 : w3.heap[gv]? = some (.cells ys.toArray 40 (0, 0)) := (hgr3.block gv (Array.getElem?_eq_some_iff.1 Hy.out).1 (by simpa using hne)).trans Hy.out
    have Hy3 := Lib.hid hy3
    clear k1 k2 k3 k4 k5 k8 hy3 hgr3
    have hcc2 : (i : Int) < (cap : Int) := by omega
    go_wp2_with ((refine wpList_copy_cells (o := ⟨some 82, _, _, _, _, _⟩) (by rfl) (.tmp 80) (.tmp 81) 22 22 (by rfl) 40 i0 Try.underlying22 hi0 g (i * 7) _ _ ⟨gv, 0, none⟩ 1 1 (by rfl) (by rfl) _ 40 (by exact hh3.out) ys (by rw [hz1, Hyl.out]; omega) (by exact rowcells' Hy3.out) (by have q1 := Hyl.out; have q2 := Hcur.out; simp; omega) hy1 ?_; intro w4 hh4 hgr4))
    go_ret
    have q0 : cur.toList.length = cap * 7 := by simpa using Hcur.out
    have qt := room_take cur.toList ys i n cap hi q0 Hyl.out hcap
    have ql := room_len cur.toList ys i n cap hi q0 Hyl.out hcap
    refine ⟨⟨rfl, _, hh4.out, ql, ?_⟩, ⟨hgr4.os.trans hgr3'.os, hgr4.tape.trans hgr3'.tape, hgr4.output.trans hgr3'.output, Nat.le_trans hgr3'.size hgr4.size, fun k hk hne => (hgr4.block k (Nat.lt_of_lt_of_le hk hgr3'.size) hne).trans (hgr3'.block k hk hne)⟩⟩
    rw [← List.append_assoc]
    exact qt

end Go.Proofs.Ytmclalhjnjghnaa
