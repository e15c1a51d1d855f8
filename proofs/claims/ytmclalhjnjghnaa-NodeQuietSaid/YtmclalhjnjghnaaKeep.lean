/- Plain laws of nodes that are asked by turns: the configuration stays, thresholds and drops are bounded. -/
import Derived.Test.YtmclalhjnjghnaaBegin
namespace Go.Proofs.Ytmclalhjnjghnaa
open Go.RowKit Hw

/-- All thresholds are small. -/
def Low (n : Hw.Node) : Prop := ∀ s ∈ n.subs, s.theta ≤ 12

theorem told_low {n : Hw.Node} (h : Low n) : Low (told n).1 := by
  intro s hm
  obtain ⟨s0, h0, rfl⟩ := List.mem_map.1 (show s ∈ n.subs.map _ from hm)
  exact h s0 h0

/-- What a turn keeps. -/
structure Kept (n n' : Hw.Node) : Prop where
  c : n'.c = n.c
  d : n'.drops ≤ n.drops + 1
  low : Low n → Low n'
  now : n.now ≤ n'.now
  now2 : n'.now ≤ n.now + 60

theorem Kept.refl (n : Hw.Node) : Kept n n := ⟨rfl, by omega, fun h => h, Int.le_refl _, by omega⟩

theorem tick_kept (n : Hw.Node) {t : Int} (h0 : 0 ≤ t) (h1 : t ≤ 60) : Kept n (tick n t).1 := by
  unfold tick
  split
  · exact Kept.refl n
  · split
    · exact Kept.refl n
    · exact ⟨rfl, by show n.drops ≤ n.drops + 1; omega, fun h => told_low (n := ticked n t) h, by show n.now ≤ n.now + t; omega, by show n.now + t ≤ n.now + 60; omega⟩

theorem dropped_kept (n : Hw.Node) : Kept n (dropped n) := ⟨rfl, by show min (n.drops + 1) 1073741824 ≤ n.drops + 1; omega, fun h => h, Int.le_refl _, by show n.now ≤ n.now + 60; omega⟩

theorem nhear_kept (n : Hw.Node) (s : ByteArray) : Kept n (nhear n s).1 := by
  unfold nhear
  split
  · exact dropped_kept n
  · split
    · exact dropped_kept n
    · split
      · exact ⟨rfl, by show min (n.drops + 1) 1073741824 ≤ n.drops + 1; omega, fun h => h, Int.le_refl _, by show n.now ≤ n.now + 60; omega⟩
      · exact ⟨rfl, by show n.drops ≤ n.drops + 1; omega, fun h => told_low (n := { n with peers := (hear n.peers (decode s).1 n.now).1 }) h, Int.le_refl _, by show n.now ≤ n.now + 60; omega⟩

theorem njoin_kept (n : Hw.Node) (id : ByteArray) {theta : Int} (ht : theta ≤ 12) : Kept n (njoin n id theta).1 := by
  unfold njoin
  split
  · exact Kept.refl n
  · split
    · exact Kept.refl n
    · split
      · exact Kept.refl n
      · split
        · exact Kept.refl n
        · refine ⟨rfl, by show n.drops ≤ n.drops + 1; omega, fun h => told_low (n := { n with subs := n.subs ++ [⟨id, theta, false⟩] }) fun s hs => ?_, Int.le_refl _, by show n.now ≤ n.now + 60; omega⟩
          rcases List.mem_append.1 hs with hs | hs
          · exact h s hs
          · simp at hs
            rw [hs]
            exact ht

theorem npart_kept (n : Hw.Node) (id : ByteArray) (theta : Int) : Kept n (npart n id theta).1 := by
  unfold npart
  split
  · exact Kept.refl n
  · exact ⟨rfl, by show n.drops ≤ n.drops + 1; omega, fun h s hs => h s ((List.eraseIdx_sublist _ _).subset hs), Int.le_refl _, by show n.now ≤ n.now + 60; omega⟩

theorem asked_kept (n : Hw.Node) (c : List Int) : Kept n (asked n c).1 := by
  have h60 := within_in (n := askAt c 1) (k := 60) (by omega)
  have h12 := within_in (n := askAt c 2) (k := 12) (by omega)
  unfold asked
  split
  · exact tick_kept n (by omega) (by omega)
  · split
    · exact nhear_kept n _
    · split
      · exact njoin_kept n _ (by omega)
      · split
        · exact npart_kept n _ _
        · exact nhear_kept n _

theorem askedAll_kept (n : Hw.Node) (L : List (List Int)) : ∀ k, k ≤ L.length → (askedAll n L k).c = n.c ∧ (askedAll n L k).drops ≤ n.drops + k ∧ (Low n → Low (askedAll n L k)) ∧ (askedAll n L k).now ≤ n.now + 60 * k
  | 0, _ => ⟨rfl, by show n.drops ≤ n.drops + (0 : Nat); omega, fun h => h, by show n.now ≤ _; omega⟩
  | k + 1, h => by
    obtain ⟨h1, h2, h3, h4⟩ := askedAll_kept n L k (by omega)
    have hk := asked_kept (askedAll n L k) L[k]
    rw [askedAll_succ n L k (by omega)]
    exact ⟨hk.c.trans h1, by have := hk.d; omega, fun h => hk.low (h3 h), by have := hk.now2; omega⟩

end Go.Proofs.Ytmclalhjnjghnaa
