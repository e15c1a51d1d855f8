/- The contracts of slices.Delete of one element: peers, subs, strings. -/
import Derived.Test.YtmclalhjnjghnaaDelLaws
namespace Go.Proofs.Ytmclalhjnjghnaa
open Go.RowKit Hw


set_option maxRecDepth 100000 in
set_option maxHeartbeats 2000000 in
theorem delP_cells (g cap n i : Nat) (cur : Array Value) (w : World) (hg : w.heap[g]? = some (.cells cur 40 (0, 0))) (hcur : cur.size = cap * 7) (hcap : n ≤ cap) (hm : cap ≤ maxLen) (hi : i < n)
    (hx1 : ∀ u ∈ (cur.toList.drop ((i + 1) * 7)).take ((n - (i + 1)) * 7), u.oneCell' = true) :
    Calls Try.prog 88 #[.slice (some ⟨g, 0, none⟩) n cap, .int .i64 i, .int .i64 (i + 1)] w
      fun e w' => (∃ cur', e = .returned (.slice (some ⟨g, 0, none⟩) (n - 1) cap) ∧ w'.heap[g]? = some (.cells cur' 40 (0, 0)) ∧ cur'.size = cap * 7 ∧
        cur'.toList.take ((n - 1) * 7) = cur.toList.take (i * 7) ++ (cur.toList.drop ((i + 1) * 7)).take ((n - (i + 1)) * 7)) ∧ w.grownBy w' (some g) := by
  obtain ⟨i0, hi0, hz0, hz1, hz2⟩ := info_parts info40
  have hii : (i : Int) < (n : Int) := by omega
  have hi1 : (i : Int) + 1 ≤ (n : Int) := by omega
  have hcc : (n : Int) ≤ (cap : Int) := by omega
  have hm' : cap ≤ 9223372036854775807 := by simp only [maxLen] at hm; omega
  have hm'' : (cap : Int) ≤ 9223372036854775807 := by omega
  have hd : ((i : Int) == (i : Int) + 1) = false := by simp; omega
  have Hg := Lib.hid hg
  have Hcur := Lib.hid hcur
  have Hm := Lib.hid hm
  clear hg hcur hm
  have k1 : IntKind.i64.wrap ((i : Int) + 1) = (i : Int) + 1 := IntWalk.i64_in _ (by omega)
  have k2 : (0 : Int) ≤ (i : Int) + 1 := by omega
  have k3 : ((i : Int) + 1).toNat = i + 1 := by omega
  have k6 : (0 : Int) ≤ (i : Int) := by omega
  have k7 : (i : Int) ≤ (n : Int) := by omega
  have k8 : (i : Int) ≤ (cap : Int) := by omega
  have k9 : (i : Int) + 1 ≤ (cap : Int) := by omega
  go_enter Try.func88, Try.ntmps88
  go_wp2_with fail
  go_still_tail 6, (by kernel_rfl)
  change wpList _ _ _ _ _ w.drew
  obtain ⟨ad, hA, hnews⟩ : ∃ ad : Addr, (if cap = i + 1 then some ({ block := g, off := 0 } : Addr) else some { block := g, off := (i + 1) * 7 }) = some ad ∧
      ∀ j u, ((cur.toList.drop ((i + 1) * 7)).take ((n - (i + 1)) * 7))[j]? = some u → w.cell? (ad.add j) = some u := by
    by_cases hq : cap = i + 1
    · have h0 : n - (i + 1) = 0 := by omega
      exact ⟨_, if_pos hq, fun j u hu => by simp [h0] at hu⟩
    · refine ⟨_, if_neg hq, ?_⟩
      exact rowcells Hg.out _ _
  rw [hA]
  have Hn := Lib.hid hnews
  clear hA hnews
  refine wpList_append_within (o := ⟨some 26, _, _, _, _, _⟩) (by rfl) (.tmp 22) (.tmp 25) 22 (by rfl) 40 i0 Try.underlying22 hi0 g i cap (n - (i + 1)) _ (n - 1) ad (by rfl) (by rfl) cur (by exact Hg.out) ((cur.toList.drop ((i + 1) * 7)).take ((n - (i + 1)) * 7)) ?_ ?_ hx1 ?_ ?_ ?_ ?_
  · have := Hcur.out
    rw [hz1]
    simp
    omega
  · exact Hn.out
  · omega
  · omega
  · have := Hcur.out
    rw [hz1]
    simp
    omega
  · intro w2 hh2 hg2
    have hg2' : w.grownBy w2 (some g) := ⟨hg2.os, hg2.tape, hg2.output, hg2.size, hg2.block⟩
    rw [hz1] at hh2
    have q1 : ((n : Int) - 1) = ((n - 1 : Nat) : Int) := by omega
    clear k1 k2 k3 k6 k7 k8 k9 hg2 Hn q1
    have k1 : ((n - 1 : Nat) : Int) ≤ (n : Int) := by omega
    have k2 : ((n - 1 : Nat) : Int) < (cap : Int) := by omega
    have k3 : n - (n - 1) = 1 := by omega
    have q5 := Hcur.out
    go_wp2_with ((refine wpList_clear_cells (o := ⟨none, _, _, _, _, _⟩) (by rfl) (.tmp 31) 22 (by rfl) 40 i0 _ Try.underlying22 hi0 hz0 g ((n - 1) * 7) 1 _ (by rfl) _ (by exact hh2.out) (by omega) [.string ByteArray.empty, .int .i64 0, .int .i64 0, .int .i64 0, .int .i64 0, .slice none 0 0, .int .i64 0] zeros7 (by simp; omega) (by simp [Value.oneCell']) ?_; intro w3 hh3 hg3))
    go_ret
    have q6 : ((cur.toList.drop ((i + 1) * 7)).take ((n - (i + 1)) * 7)).length = (n - (i + 1)) * 7 := by simp; omega
    have q7 : cur.toList.length = cap * 7 := by simpa using q5
    refine ⟨⟨rfl, _, hh3.out, ?_, ?_⟩, grown2 hg2' hg3⟩
    · have := del_len cur.toList [.string ByteArray.empty, .int .i64 0, .int .i64 0, .int .i64 0, .int .i64 0, .slice none 0 0, .int .i64 0] ((cur.toList.drop ((i + 1) * 7)).take ((n - (i + 1)) * 7)) (i * 7) _ ((n - 1) * 7) q6 (by omega) (by simp; omega)
      simpa [q5] using this
    · exact del_take cur.toList [.string ByteArray.empty, .int .i64 0, .int .i64 0, .int .i64 0, .int .i64 0, .slice none 0 0, .int .i64 0] _ (i * 7) ((n - (i + 1)) * 7) ((n - 1) * 7) q6 (by omega) (by omega)

set_option maxRecDepth 100000 in
set_option maxHeartbeats 2000000 in
theorem delSub_cells (g cap n i : Nat) (cur : Array Value) (w : World) (hg : w.heap[g]? = some (.cells cur 85 (0, 0))) (hcur : cur.size = cap * 3) (hcap : n ≤ cap) (hm : cap ≤ maxLen) (hi : i < n)
    (hx1 : ∀ u ∈ (cur.toList.drop ((i + 1) * 3)).take ((n - (i + 1)) * 3), u.oneCell' = true) :
    Calls Try.prog 109 #[.slice (some ⟨g, 0, none⟩) n cap, .int .i64 i, .int .i64 (i + 1)] w
      fun e w' => (∃ cur', e = .returned (.slice (some ⟨g, 0, none⟩) (n - 1) cap) ∧ w'.heap[g]? = some (.cells cur' 85 (0, 0)) ∧ cur'.size = cap * 3 ∧
        cur'.toList.take ((n - 1) * 3) = cur.toList.take (i * 3) ++ (cur.toList.drop ((i + 1) * 3)).take ((n - (i + 1)) * 3)) ∧ w.grownBy w' (some g) := by
  obtain ⟨i0, hi0, hz0, hz1, hz2⟩ := info_parts info85
  have hii : (i : Int) < (n : Int) := by omega
  have hi1 : (i : Int) + 1 ≤ (n : Int) := by omega
  have hcc : (n : Int) ≤ (cap : Int) := by omega
  have hm' : cap ≤ 9223372036854775807 := by simp only [maxLen] at hm; omega
  have hm'' : (cap : Int) ≤ 9223372036854775807 := by omega
  have hd : ((i : Int) == (i : Int) + 1) = false := by simp; omega
  have Hg := Lib.hid hg
  have Hcur := Lib.hid hcur
  have Hm := Lib.hid hm
  clear hg hcur hm
  have k1 : IntKind.i64.wrap ((i : Int) + 1) = (i : Int) + 1 := IntWalk.i64_in _ (by omega)
  have k2 : (0 : Int) ≤ (i : Int) + 1 := by omega
  have k3 : ((i : Int) + 1).toNat = i + 1 := by omega
  have k6 : (0 : Int) ≤ (i : Int) := by omega
  have k7 : (i : Int) ≤ (n : Int) := by omega
  have k8 : (i : Int) ≤ (cap : Int) := by omega
  have k9 : (i : Int) + 1 ≤ (cap : Int) := by omega
  go_enter Try.func109, Try.ntmps109
  go_wp2_with fail
  go_still_tail 6, (by kernel_rfl)
  change wpList _ _ _ _ _ w.drew
  obtain ⟨ad, hA, hnews⟩ : ∃ ad : Addr, (if cap = i + 1 then some ({ block := g, off := 0 } : Addr) else some { block := g, off := (i + 1) * 3 }) = some ad ∧
      ∀ j u, ((cur.toList.drop ((i + 1) * 3)).take ((n - (i + 1)) * 3))[j]? = some u → w.cell? (ad.add j) = some u := by
    by_cases hq : cap = i + 1
    · have h0 : n - (i + 1) = 0 := by omega
      exact ⟨_, if_pos hq, fun j u hu => by simp [h0] at hu⟩
    · refine ⟨_, if_neg hq, ?_⟩
      exact rowcells Hg.out _ _
  rw [hA]
  have Hn := Lib.hid hnews
  clear hA hnews
  refine wpList_append_within (o := ⟨some 26, _, _, _, _, _⟩) (by rfl) (.tmp 22) (.tmp 25) 82 (by rfl) 85 i0 Try.underlying82 hi0 g i cap (n - (i + 1)) _ (n - 1) ad (by rfl) (by rfl) cur (by exact Hg.out) ((cur.toList.drop ((i + 1) * 3)).take ((n - (i + 1)) * 3)) ?_ ?_ hx1 ?_ ?_ ?_ ?_
  · have := Hcur.out
    rw [hz1]
    simp
    omega
  · exact Hn.out
  · omega
  · omega
  · have := Hcur.out
    rw [hz1]
    simp
    omega
  · intro w2 hh2 hg2
    have hg2' : w.grownBy w2 (some g) := ⟨hg2.os, hg2.tape, hg2.output, hg2.size, hg2.block⟩
    rw [hz1] at hh2
    have q1 : ((n : Int) - 1) = ((n - 1 : Nat) : Int) := by omega
    clear k1 k2 k3 k6 k7 k8 k9 hg2 Hn q1
    have k1 : ((n - 1 : Nat) : Int) ≤ (n : Int) := by omega
    have k2 : ((n - 1 : Nat) : Int) < (cap : Int) := by omega
    have k3 : n - (n - 1) = 1 := by omega
    have q5 := Hcur.out
    go_wp2_with ((refine wpList_clear_cells (o := ⟨none, _, _, _, _, _⟩) (by rfl) (.tmp 31) 82 (by rfl) 85 i0 _ Try.underlying82 hi0 hz0 g ((n - 1) * 3) 1 _ (by rfl) _ (by exact hh2.out) (by omega) [.string ByteArray.empty, .int .i64 0, .bool false] zeros3 (by simp; omega) (by simp [Value.oneCell']) ?_; intro w3 hh3 hg3))
    go_ret
    have q6 : ((cur.toList.drop ((i + 1) * 3)).take ((n - (i + 1)) * 3)).length = (n - (i + 1)) * 3 := by simp; omega
    have q7 : cur.toList.length = cap * 3 := by simpa using q5
    refine ⟨⟨rfl, _, hh3.out, ?_, ?_⟩, grown2 hg2' hg3⟩
    · have := del_len cur.toList [.string ByteArray.empty, .int .i64 0, .bool false] ((cur.toList.drop ((i + 1) * 3)).take ((n - (i + 1)) * 3)) (i * 3) _ ((n - 1) * 3) q6 (by omega) (by simp; omega)
      simpa [q5] using this
    · exact del_take cur.toList [.string ByteArray.empty, .int .i64 0, .bool false] _ (i * 3) ((n - (i + 1)) * 3) ((n - 1) * 3) q6 (by omega) (by omega)

set_option maxRecDepth 100000 in
set_option maxHeartbeats 2000000 in
theorem delS_cells (g cap n i : Nat) (cur : Array Value) (w : World) (hg : w.heap[g]? = some (.cells cur 9 (0, 0))) (hcur : cur.size = cap * 1) (hcap : n ≤ cap) (hm : cap ≤ maxLen) (hi : i < n)
    (hx1 : ∀ u ∈ (cur.toList.drop ((i + 1) * 1)).take ((n - (i + 1)) * 1), u.oneCell' = true) :
    Calls Try.prog 111 #[.slice (some ⟨g, 0, none⟩) n cap, .int .i64 i, .int .i64 (i + 1)] w
      fun e w' => (∃ cur', e = .returned (.slice (some ⟨g, 0, none⟩) (n - 1) cap) ∧ w'.heap[g]? = some (.cells cur' 9 (0, 0)) ∧ cur'.size = cap * 1 ∧
        cur'.toList.take ((n - 1) * 1) = cur.toList.take (i * 1) ++ (cur.toList.drop ((i + 1) * 1)).take ((n - (i + 1)) * 1)) ∧ w.grownBy w' (some g) := by
  obtain ⟨i0, hi0, hz0, hz1, hz2⟩ := info_parts info9
  have hii : (i : Int) < (n : Int) := by omega
  have hi1 : (i : Int) + 1 ≤ (n : Int) := by omega
  have hcc : (n : Int) ≤ (cap : Int) := by omega
  have hm' : cap ≤ 9223372036854775807 := by simp only [maxLen] at hm; omega
  have hm'' : (cap : Int) ≤ 9223372036854775807 := by omega
  have hd : ((i : Int) == (i : Int) + 1) = false := by simp; omega
  have Hg := Lib.hid hg
  have Hcur := Lib.hid hcur
  have Hm := Lib.hid hm
  clear hg hcur hm
  have k1 : IntKind.i64.wrap ((i : Int) + 1) = (i : Int) + 1 := IntWalk.i64_in _ (by omega)
  have k2 : (0 : Int) ≤ (i : Int) + 1 := by omega
  have k3 : ((i : Int) + 1).toNat = i + 1 := by omega
  have k6 : (0 : Int) ≤ (i : Int) := by omega
  have k7 : (i : Int) ≤ (n : Int) := by omega
  have k8 : (i : Int) ≤ (cap : Int) := by omega
  have k9 : (i : Int) + 1 ≤ (cap : Int) := by omega
  go_enter Try.func111, Try.ntmps111
  go_wp2_with fail
  go_still_tail 6, (by kernel_rfl)
  change wpList _ _ _ _ _ w.drew
  obtain ⟨ad, hA, hnews⟩ : ∃ ad : Addr, (if cap = i + 1 then some ({ block := g, off := 0 } : Addr) else some { block := g, off := i + 1 }) = some ad ∧
      ∀ j u, ((cur.toList.drop ((i + 1) * 1)).take ((n - (i + 1)) * 1))[j]? = some u → w.cell? (ad.add j) = some u := by
    by_cases hq : cap = i + 1
    · have h0 : n - (i + 1) = 0 := by omega
      exact ⟨_, if_pos hq, fun j u hu => by simp [h0] at hu⟩
    · refine ⟨_, if_neg hq, ?_⟩
      have hh := rowcells Hg.out ((i + 1) * 1) ((n - (i + 1)) * 1)
      simpa using hh
  rw [hA]
  have Hn := Lib.hid hnews
  clear hA hnews
  refine wpList_append_within (o := ⟨some 26, _, _, _, _, _⟩) (by rfl) (.tmp 22) (.tmp 25) 48 (by rfl) 9 i0 Try.underlying48 hi0 g i cap (n - (i + 1)) _ (n - 1) ad (by rfl) (by rfl) cur (by exact Hg.out) ((cur.toList.drop ((i + 1) * 1)).take ((n - (i + 1)) * 1)) ?_ ?_ hx1 ?_ ?_ ?_ ?_
  · have := Hcur.out
    rw [hz1]
    simp
    omega
  · exact Hn.out
  · omega
  · omega
  · have := Hcur.out
    rw [hz1]
    simp
    omega
  · intro w2 hh2 hg2
    have hg2' : w.grownBy w2 (some g) := ⟨hg2.os, hg2.tape, hg2.output, hg2.size, hg2.block⟩
    rw [hz1] at hh2
    have q1 : ((n : Int) - 1) = ((n - 1 : Nat) : Int) := by omega
    clear k1 k2 k3 k6 k7 k8 k9 hg2 Hn q1
    have k1 : ((n - 1 : Nat) : Int) ≤ (n : Int) := by omega
    have k2 : ((n - 1 : Nat) : Int) < (cap : Int) := by omega
    have k3 : n - (n - 1) = 1 := by omega
    have q5 := Hcur.out
    go_wp2_with ((refine wpList_clear_cells (o := ⟨none, _, _, _, _, _⟩) (by rfl) (.tmp 31) 48 (by rfl) 9 i0 _ Try.underlying48 hi0 hz0 g (n - 1) 1 _ (by rfl) _ (by exact hh2.out) (by omega) [.string ByteArray.empty] zeros1 (by simp; omega) (by simp [Value.oneCell']) ?_; intro w3 hh3 hg3))
    go_ret
    have q6 : ((cur.toList.drop ((i + 1) * 1)).take ((n - (i + 1)) * 1)).length = (n - (i + 1)) * 1 := by simp; omega
    have q7 : cur.toList.length = cap * 1 := by simpa using q5
    refine ⟨⟨rfl, _, hh3.out, ?_, ?_⟩, grown2 hg2' hg3⟩
    · have := del_len cur.toList [.string ByteArray.empty] ((cur.toList.drop ((i + 1) * 1)).take ((n - (i + 1)) * 1)) (i * 1) _ (n - 1) q6 (by omega) (by simp; omega)
      simpa [q5] using this
    · simpa only [Nat.mul_one] using del_take cur.toList [.string ByteArray.empty] _ (i * 1) ((n - (i + 1)) * 1) (n - 1) q6 (by omega) (by omega)

end Go.Proofs.Ytmclalhjnjghnaa
