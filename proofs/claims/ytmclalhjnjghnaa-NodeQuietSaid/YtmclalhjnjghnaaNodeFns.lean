/- Contracts of slices.Equal of subs; what rows of the caller's own keep behind a node's step. -/
import Derived.Test.YtmclalhjnjghnaaKeep
import Derived.Deep.QuietTactic
import Derived.BigQuiet
namespace Go.Proofs.Ytmclalhjnjghnaa
open Go.RowKit Hw

theorem own_touch {S : Nat → Prop} {w w' : World} {B : Nat} {e : TypeId} {s : Nat} {v : Value} {n : Nat} {xs : List Value} (h : w.ownsRow B e s v n xs) (ht : Touch S w w') (hs : ∀ k, B ≤ k → ¬ S k) : w'.ownsRow B e s v n xs := by
  obtain ⟨h1, h2 | ⟨g, cap, cur, e1, e2, e3, e4⟩⟩ := h
  · exact ⟨h1, .inl h2⟩
  · exact ⟨h1, .inr ⟨g, cap, cur, e1, e2, (ht.block g (Array.getElem?_eq_some_iff.1 e3).1 (hs g e2)).trans e3, e4⟩⟩

theorem NodeAt.vs_lt {w : World} {b : Nat} {vs : Value} {n : Hw.Node} (h : NodeAt w b vs n) : ∀ k, some k = vs.ownBlock → k < w.heap.size := by
  obtain ⟨vp, -, -, e3⟩ := h
  intro k hk
  rcases e3.2 with ⟨e, _⟩ | ⟨g, cap, cur, e, _, e3, _⟩
  · rw [e] at hk
    cases hk
  · rw [e] at hk
    injection hk with hk
    rw [hk]
    exact (Array.getElem?_eq_some_iff.1 e3).1

theorem NodeAt.apart {w : World} {b : Nat} {vs : Value} {n : Hw.Node} (h : NodeAt w b vs n) : ∀ k, w.heap.size ≤ k → ¬ NodeS b vs k := by
  intro k hk
  rintro (e | e)
  · have := h.lt
    omega
  · have := h.vs_lt k e
    omega

theorem equal_subs (A A' : Option Addr) (c c' : Nat) (l : List Sub) (w : World) (h : SubsR w A l) (h' : SubsR w A' l) (hl : l.length ≤ 8) :
    Calls Try.prog 50 #[.slice A l.length c, .slice A' l.length c'] w fun e w' => e = .returned (.bool true) ∧ Below w.heap.size w w' := by
  have H := Lib.hid h
  have H' := Lib.hid h'
  clear h h'
  go_enter Try.func50, Try.ntmps50
  go_wp2_with fail
  go_loopw [5, 13] (fun _ i wr => ∃ k : Nat, k ≤ l.length ∧ i = .int .i64 k ∧ Hid (Below w.heap.size w wr)) (fun _ i _ => l.length - (intOf i).toNat)
  case atStart => exact ⟨0, Nat.zero_le _, rfl, Below.refl _ _⟩
  case round =>
    obtain ⟨k, hk, rfl, HB⟩ := hrel
    by_cases hlt : k < l.length
    · obtain ⟨b, off, rfl, hc⟩ := (H.out.below HB.out) (by omega)
      obtain ⟨b', off', rfl, hc'⟩ := (H'.out.below HB.out) (by omega)
      obtain ⟨q0, q1, q2⟩ := hc k hlt
      obtain ⟨r0, r1, r2⟩ := hc' k hlt
      have hkk : (k : Int) < (l.length : Int) := by omega
      have hk0 : (0 : Int) ≤ (k : Int) := by omega
      have hkw : IntKind.i64.wrap ((k : Int) + 1) = (k : Int) + 1 := IntWalk.i64_in _ (by omega)
      clear hc hc'
      generalize l[k] = s at q0 q1 q2 r0 r1 r2
      have hsame : (s.id.toList == s.id.toList) = true := by simp
      go_wp2_with fail
      go_quiet (fail)
      go_wp2_with fail
      go_roundw
      case rel => exact ⟨k + 1, by omega, by go_num, below_drewN HB.out _⟩
      case measure => simp [intOf]; omega
    · have hkk : ¬ (k : Int) < (l.length : Int) := by omega
      go_wp2_with fail
      go_ret
      exact ⟨rfl, HB.out⟩

end Go.Proofs.Ytmclalhjnjghnaa
