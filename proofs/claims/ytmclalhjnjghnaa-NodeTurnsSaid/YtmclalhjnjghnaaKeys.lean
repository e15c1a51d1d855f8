/- Keys of maps that are structs and arrays: what they read as. -/
import Derived.Test.YtmclalhjnjghnaaProg
import Derived.Maps.Keyed
import Derived.DeepKeys4
import Derived.WideKeyPair
import Derived.KernelRfl
import Derived.WalkArith
namespace Go.Proofs.Ytmclalhjnjghnaa
open Go.RowKit Go.Maps

/-- The key of a sub. -/
abbrev whoV (id : ByteArray) (th : Int) : Value := .agg #[.string id, .int .i64 th]

theorem laidOut2 : laidOutB Try.prog = true := by kernel_rfl
theorem whoType : Try.prog.keyTypeAt 3 81 = true := by kernel_rfl
theorem whoType2 : Try.prog.keyType 81 = true := by kernel_rfl

set_option maxRecDepth 100000 in
theorem whoK : Keyed Try.prog 81 := Keyed.of_law (deep_law_laid laidOut2 (m := 3) (by omega) (of_decide_eq_true (by kernel_rfl)) whoType (by kernel_rfl))

set_option maxRecDepth 100000 in
theorem whoKey {id : ByteArray} {th : Int} (h : id.size ≤ 100) (h1 : 0 ≤ th) (h2 : th ≤ 1000) : ∃ kl, keyOf Try.prog 81 (whoV id th) = some kl := by
  have hwf : (Lit.int .i64 th).wf = true := WalkArith.wf_i64 (by omega)
  have hsz : id.size ≤ maxLen := by unfold maxLen; omega
  have hc : Try.prog.cellsOf 81 = 2 := by kernel_rfl
  have h9 : Try.prog.cellsOf 9 = 1 := by kernel_rfl
  have h3 : Try.prog.cellsOf 3 = 1 := by kernel_rfl
  obtain ⟨m, hm⟩ : ∃ m, Try.prog.types.size + 1 = m + 2 := ⟨_, rfl⟩
  have hform : (whoV id th).formed Try.prog 81 = true := by simp [Value.formed, Try.underlying81, hc]
  unfold keyOf
  simp only [Try.underlying81, whoType2, hform, Bool.and_self, if_true, hm]
  unfold Program.keyLits
  simp only [Try.underlying81, Value.cells]
  rw [if_pos (by rw [hc]; exact ⟨rfl, by decide +kernel⟩)]
  simp only [List.mapM_cons, List.mapM_nil]
  simp [h9, h3, Program.keyLits, Try.underlying9, Try.underlying3, hsz, hwf]

theorem pairArr : WideMaps.ArrKey Try.prog 126 3 2 := ⟨Try.underlying126, by kernel_rfl, by kernel_rfl, by kernel_rfl⟩

/-- The key of two numbers. -/
abbrev pairV (a b : Int) : Value := .agg #[.int .i64 a, .int .i64 b]

theorem pairK : Keyed Try.prog 126 := Keyed.of_law pairArr.law

theorem pairKey {a b : Int} (ha : 0 ≤ a ∧ a ≤ 1000) (hb : 0 ≤ b ∧ b ≤ 1000) : ∃ kl, keyOf Try.prog 126 (pairV a b) = some kl :=
  ⟨_, WideMaps.keyOf_pair pairArr Try.underlying3 ⟨_, rfl⟩ (WalkArith.wf_i64 (by omega)) (WalkArith.wf_i64 (by omega))⟩

end Go.Proofs.Ytmclalhjnjghnaa
