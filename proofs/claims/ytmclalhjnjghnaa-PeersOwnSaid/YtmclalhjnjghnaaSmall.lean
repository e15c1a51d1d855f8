/- What peers.Add, peers.Drop and peers.Hear answer is small. -/
import Derived.Test.YtmclalhjnjghnaaOwn
namespace Go.Proofs.Ytmclalhjnjghnaa
open Go.RowKit Hw

/-- At most six peers, each with at most 64 values. -/
def Small (l : List Peer) : Prop := l.length ≤ 6 ∧ ∀ p ∈ l, p.vals.length ≤ 64

theorem small_nil : Small [] := ⟨by simp, by simp⟩

theorem small_check {l : List Peer} (h : peersCheck l = 0) : Small l := by
  obtain ⟨hl, ho⟩ := (check_iff l).1 h
  exact ⟨hl, fun p hp => win_len (ho.ok p hp).win⟩

theorem small_add (l : List Peer) (id : ByteArray) (size first now : Int) : Small (add l id size first now).1 := by
  unfold add
  split
  · exact small_nil
  · rename_i h0
    have hs := small_check (by simpa using h0 : peersCheck l = 0)
    repeat' (first | exact small_nil | split)
    rename_i h1 h2 h3 h4
    have hlen : (insertAt l (place l id) (addPeer id size first now)).length = l.length + 1 := by
      have := place_le l id
      simp [insertAt]
      omega
    refine ⟨by have := hs.1; simp only; rw [hlen]; omega, fun p hp => ?_⟩
    simp only [insertAt, List.mem_append, List.mem_cons] at hp
    rcases hp with hp | rfl | hp
    · exact hs.2 p (List.mem_of_mem_take hp)
    · simp [addPeer]
    · exact hs.2 p (List.mem_of_mem_drop hp)

theorem small_drop (l : List Peer) (id : ByteArray) : Small (drop l id).1 := by
  unfold drop
  split
  · exact small_nil
  · rename_i h0
    have hs := small_check (by simpa using h0 : peersCheck l = 0)
    split
    · exact small_nil
    · exact ⟨Nat.le_trans (List.length_eraseIdx_le _ _) hs.1, fun p hp => hs.2 p (List.mem_of_mem_eraseIdx hp)⟩

theorem pushed_len (cap : Int) (l : List Int) (n : Int) (hc : cap ≤ 64) (h0 : 1 ≤ cap) (hl : (l.length : Int) ≤ cap) : (pushed cap l n).length ≤ 64 := by
  unfold pushed
  split
  · simp
    omega
  · simp
    omega

theorem win_cap {cap : Int} {l : List Int} (h : winCheck cap l = 0) : 1 ≤ cap ∧ cap ≤ 64 ∧ (l.length : Int) ≤ cap := by
  unfold winCheck at h
  split at h
  · cases h
  · split at h
    · cases h
    · exact ⟨by omega, by omega, by omega⟩

theorem small_hear (l : List Peer) (b : Beat) (now : Int) : Small (hear l b now).1 := by
  unfold hear
  split
  · exact small_nil
  · rename_i h0
    have hc : peersCheck l = 0 := by simpa using h0
    have hs := small_check hc
    obtain ⟨_, ho⟩ := (check_iff l).1 hc
    repeat' (first | exact small_nil | split)
    rename_i p hp _ _
    refine ⟨by simpa using hs.1, fun q hq => ?_⟩
    rcases List.mem_or_eq_of_mem_set hq with hq | rfl
    · exact hs.2 q hq
    · have hm := List.mem_of_getElem? hp
      obtain ⟨c1, c2, c3⟩ := win_cap (ho.ok p hm).win
      unfold heard
      simp only
      split
      · exact pushed_len _ _ _ c2 c1 c3
      · exact hs.2 p hm

end Go.Proofs.Ytmclalhjnjghnaa
