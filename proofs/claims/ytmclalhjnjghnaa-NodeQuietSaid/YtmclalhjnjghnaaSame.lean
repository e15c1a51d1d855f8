/- Contracts of the comparisons: slices.Equal of numbers, SameWin, SamePeer, SamePeers: what reads alike is the same. -/
import Derived.Test.YtmclalhjnjghnaaHear
import Derived.Deep.QuietTactic
namespace Go.Proofs.Ytmclalhjnjghnaa
open Go.RowKit Hw

theorem equal_same (A A' : Option Addr) (c c' : Nat) (l : List Int) (w : World) (h : Ints w A l) (h' : Ints w A' l) (hl : l.length ≤ 17592186044416) :
    Calls Try.prog 77 #[.slice A l.length c, .slice A' l.length c'] w fun e w' => e = .returned (.bool true) ∧ Below w.heap.size w w' := by
  go_enter Try.func77, Try.ntmps77
  go_wp2_with fail
  go_loopw [5, 13] (fun _ i wr => ∃ k : Nat, k ≤ l.length ∧ i = .int .i64 k ∧ Below w.heap.size w wr) (fun _ i _ => l.length - (intOf i).toNat)
  case atStart => exact ⟨0, Nat.zero_le _, rfl, Below.refl _ _⟩
  case round =>
    obtain ⟨k, hk, rfl, hb⟩ := hrel
    by_cases hlt : k < l.length
    · obtain ⟨b, off, rfl, hc⟩ := (h.below hb) (by omega)
      obtain ⟨b', off', rfl, hc'⟩ := (h'.below hb) (by omega)
      have q := hc k hlt
      have q' := hc' k hlt
      have hkk : (k : Int) < (l.length : Int) := by omega
      have hk0 : (0 : Int) ≤ (k : Int) := by omega
      clear hc hc'
      have Hb := Lib.hid hb
      clear hb
      go_wp2_with fail
      go_quiet (fail)
      go_wp2_with fail
      go_roundw
      case rel => exact ⟨k + 1, by omega, by go_num, below_drewN Hb.out _⟩
      case measure => simp [intOf]; omega
    · have hk2 : k = l.length := by omega
      subst hk2
      go_wp2_with fail
      go_ret
      exact ⟨rfl, hb⟩

theorem samewin_same (cap : Int) (A A' : Option Addr) (c c' : Nat) (l : List Int) (w : World) (h : Ints w A l) (h' : Ints w A' l) (hl : l.length ≤ 17592186044416) :
    Calls Try.prog 110 #[.agg #[.int .i64 cap, .slice A l.length c], .agg #[.int .i64 cap, .slice A' l.length c']] w fun e w' => e = .returned (.bool true) ∧ Below w.heap.size w w' := by
  have H := Lib.hid h
  have H' := Lib.hid h'
  clear h h'
  go_enter Try.func110, Try.ntmps110
  go_wp2_with (go_at_call 77; refine (equal_same A A' c c' l _ (H.out.below (((Below.refl _ _).alloc (Nat.le_refl _) _).alloc (by simp) _)) (H'.out.below (((Below.refl _ _).alloc (Nat.le_refl _) _).alloc (by simp) _)) hl).mono ?_; rintro e w1 ⟨rfl, hb1⟩; obtain ⟨c0, f0, c1, f1, z1, hb2⟩ := keep2 hb1; clear hb1)
  go_ret
  exact ⟨rfl, hb2⟩

theorem sq_self (a : ByteArray) : (a.toList == a.toList) = true := by simp

theorem samepeer_same (p : Peer) (A A' : Option Addr) (c c' : Nat) (w : World) (h : Ints w A p.vals) (h' : Ints w A' p.vals) (hl : p.vals.length ≤ 17592186044416) :
    Calls Try.prog 54 #[.agg (peerCells p (.slice A p.vals.length c)).toArray, .agg (peerCells p (.slice A' p.vals.length c')).toArray] w fun e w' => e = .returned (.bool true) ∧ Below w.heap.size w w' := by
  have H := Lib.hid h
  have H' := Lib.hid h'
  clear h h'
  go_enter Try.func54, Try.ntmps54
  go_wp2_with (go_at_call 110; refine (samewin_same p.cap A A' c c' p.vals _ (H.out.below (((Below.refl _ _).alloc (Nat.le_refl _) _).alloc (by simp) _)) (H'.out.below (((Below.refl _ _).alloc (Nat.le_refl _) _).alloc (by simp) _)) hl).mono ?_; rintro e w1 ⟨rfl, hb1⟩; obtain ⟨c0, f0, c1, f1, z1, hb2⟩ := keep2 hb1; clear hb1; have d0 := c0 6; have d1 := c1 6; simp at d0 d1; clear c0 c1)
  go_ret
  exact ⟨rfl, hb2⟩

theorem equalfunc_same (A A' : Option Addr) (c c' : Nat) (l : List Peer) (w : World) (h : PeersR w A l) (h' : PeersR w A' l) (hl : l.length ≤ 17592186044416) (hv : ∀ (k : Nat) (p : Peer), l[k]? = some p → p.vals.length ≤ 17592186044416) :
    Calls Try.prog 91 #[.slice A l.length c, .slice A' l.length c', .func (.func 54) #[] #[]] w fun e w' => e = .returned (.bool true) ∧ Below w.heap.size w w' := by
  have HV := Lib.hid hv
  clear hv
  go_enter Try.func91, Try.ntmps91
  go_wp2_with fail
  go_loopw [7, 8, 9, 17] (fun _ _ _ i wr => ∃ k : Nat, k ≤ l.length ∧ i = .int .i64 k ∧ Below w.heap.size w wr) (fun _ _ _ i _ => l.length - (intOf i).toNat)
  case atStart => exact ⟨0, Nat.zero_le _, rfl, Below.refl _ _⟩
  case round =>
    obtain ⟨k, hk, rfl, hb⟩ := hrel
    by_cases hlt : k < l.length
    · obtain ⟨b, off, rfl, hp⟩ := (h.below hb) (by omega)
      obtain ⟨b', off', rfl, hp'⟩ := (h'.below hb) (by omega)
      obtain ⟨A1, c1, h0, h1, h2, h3, h4, h5, h6, hi, -⟩ := hp k hlt
      obtain ⟨A2, c2, g0, g1, g2, g3, g4, g5, g6, gi, -⟩ := hp' k hlt
      have zb := blt h0
      have zb' := blt g0
      have hv := HV.out k l[k] (List.getElem?_eq_getElem hlt)
      have hkk : (k : Int) < (l.length : Int) := by omega
      have hk0 : (0 : Int) ≤ (k : Int) := by omega
      have hkw : IntKind.i64.wrap ((k : Int) + 1) = (k : Int) + 1 := IntWalk.i64_in _ (by omega)
      clear hp hp'
      have Hb := Lib.hid hb
      have Hi := Lib.hid hi
      have Gi := Lib.hid gi
      clear hb hi gi
      go_wp2_with (go_at_call 54; refine (samepeer_same l[k] A1 A2 c1 c2 _ (Hi.out.below (((Below.refl _ _).alloc (Nat.le_refl _) _).alloc (by simp) _)) (Gi.out.below (((Below.refl _ _).alloc (Nat.le_refl _) _).alloc (by simp) _)) hv).mono ?_; rintro e w1 ⟨rfl, hb1⟩; obtain ⟨d0, f0, d1, f1, z1, hb2⟩ := keep2 hb1; clear hb1)
      go_roundw
      case rel => exact ⟨k + 1, by omega, by go_num, Hb.out.trans (hb2.mono Hb.out.size)⟩
      case measure => simp [intOf]; omega
    · have hk2 : k = l.length := by omega
      subst hk2
      go_wp2_with fail
      go_ret
      exact ⟨rfl, hb⟩

theorem samepeers_same (A A' : Option Addr) (c c' : Nat) (l : List Peer) (w : World) (h : PeersR w A l) (h' : PeersR w A' l) (hl : l.length ≤ 17592186044416) (hv : ∀ (k : Nat) (p : Peer), l[k]? = some p → p.vals.length ≤ 17592186044416) :
    Calls Try.prog 25 #[.slice A l.length c, .slice A' l.length c'] w fun e w' => e = .returned (.bool true) ∧ Below w.heap.size w w' := by
  go_enter Try.func25, Try.ntmps25
  go_wp2_with (go_at_call 91; refine (equalfunc_same A A' c c' l _ h h' hl hv).mono ?_; rintro e w1 ⟨rfl, hb1⟩)
  go_ret
  exact ⟨rfl, hb1⟩

end Go.Proofs.Ytmclalhjnjghnaa
