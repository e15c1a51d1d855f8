/- The contract of the law's own peersBegun: it says true. -/
import Derived.Test.YtmclalhjnjghnaaSpoilt
namespace Go.Proofs.Ytmclalhjnjghnaa
open Go.RowKit Hw

theorem add_begun : add [] ⟨#[97]⟩ 2 5 7 = ([addPeer ⟨#[97]⟩ 2 5 7], 0) := by
  rw [add_yes (by decide) (by decide) (by decide) (by decide) (by decide)]
  rfl

theorem lit_ints (w : World) (n : Int) : Ints (w.alloc (.cells #[.int .i64 n] 3)) (some ⟨w.heap.size, 0, none⟩) [n] := fun _ => by
  refine ⟨_, 0, rfl, fun j hj => ?_⟩
  obtain rfl : j = 0 := by simp at hj; omega
  rw [World.cell?_alloc_new]
  rfl

theorem begun_any (w : World) : Calls Try.prog 20 #[] w fun e w' => e = .returned (.bool true) ∧ Below w.heap.size w w' := by
  have Ha := Lib.hid add_begun
  go_enter Try.func20, Try.ntmps20
  go_upto_region 2 with (go_at_call 22; refine (add_any none 0 [] ⟨#[97]⟩ 2 5 7 _ (fun h => by simp at h)).mono ?_; rintro e w1 ⟨⟨v, rfl, ho⟩, hb1⟩; rw [Ha.out] at ho; rw [Ha.out]; have Ho := Lib.hid ho; have Hb1 := Lib.hid hb1; clear ho hb1)
  obtain ⟨A, c, rfl, -⟩ := Ho.out.form
  obtain ⟨b, off, rfl, hp⟩ := Ho.out.reads (by simp)
  obtain ⟨A', c', h0, h1, h2, h3, h4, h5, h6, hi, -⟩ := hp 0 (by simp)
  simp [addPeer] at h0 h1 h2 h3 h4 h5 h6
  have Hi := Lib.hid hi
  have zb := blt h0
  clear hp hi
  go_wp2_with (go_at_call 54; refine (samepeer_same (addPeer ⟨#[97]⟩ 2 5 7) A' (some ⟨w1.heap.size, 0, none⟩) c' 1 _ (Hi.out.below ((Below.refl _ _).alloc (Nat.le_refl _) _)) (lit_ints w1 5) ?a1).mono ?_; (case a1 => simp [addPeer]); rintro e w2 ⟨rfl, hb2⟩; have Hb2 := Lib.hid hb2; clear hb2)
  go_ret
  exact ⟨rfl, Hb1.out.trans ((((Below.refl _ _).alloc (Nat.le_refl _) _).trans (Hb2.out.mono (by simp))).mono Hb1.out.size)⟩

end Go.Proofs.Ytmclalhjnjghnaa
