/- What an argument that is a slice of slices of numbers reads as. -/
import Derived.Test.YtmclalhjnjghnaaFrame
import Derived.Test.YtmclalhjnjghnaaBegin
namespace Go.Proofs.Ytmclalhjnjghnaa
open Go.RowKit Hw Go.ChangeShapes Go.WideShapes Go.ChangeAt Go.Deep Go.Joins

theorem bytes36 : Try.prog.bytesOf 36 = 24 := by kernel_rfl

section
variable {H : Type} {enc : TypeId × Value → H} {w : World} {base : Nat} {held : Bool}

set_option maxRecDepth 100000 in
theorem lists_read {a0 : Option Addr} {len cap : Nat} {d : DataW H} {ps : List MemPlace} (h : DataW.Trod enc Try.prog w base (fun _ => true) held 71 (.slice a0 len cap) d ps) (hw : ∀ k ∈ d.weights Try.prog 71, k ≤ reachBytes) :
    ∃ L : List (List Int), len = L.length ∧ ListsR w a0 L ∧ L.length ≤ cap ∧ L.length ≤ 17592186044416 := by
  obtain ⟨fuel, hf⟩ := h
  rcases open_slice Try.underlying71 hf with ⟨e, _⟩ | ⟨a, len', cap', m, n, D, Pl, e, _, hl, hm, hmm, hx, hel⟩
  · simp [Value.cells] at e
    obtain ⟨rfl, rfl, rfl⟩ := e
    exact ⟨[], rfl, fun h0 => by simp at h0, by simp, by simp⟩
  · simp [Value.cells] at e
    obtain ⟨rfl, rfl, rfl⟩ := e
    simp only [if_true] at hmm
    subst hmm
    obtain ⟨rfl, rfl⟩ := Prod.mk.inj hx
    have hb := hw ((len + (m - len)) * 24) (by
      simp only [DataW.weights, Try.underlying71, bytes36, List.length_map, List.length_range]
      exact List.mem_cons.2 (.inl rfl))
    have hD : ∀ i, i < len → ∀ k ∈ (D i).weights Try.prog 36, k ≤ reachBytes := fun i hi k hk => hw k (by
      simp only [DataW.weights, Try.underlying71]
      refine List.mem_cons.2 (.inr (List.mem_append.2 (.inl (weights_mem_all (d := D i) ?_ hk))))
      exact List.mem_map.2 ⟨i, List.mem_range.2 hi, rfl⟩)
    have hall : ∀ i, i < len → ∃ xs : List Int, ∃ (A : Option Addr) (c : Nat), w.cell? (a.add i) = some (.slice A xs.length c) ∧ Ints w A xs ∧ xs.length ≤ 17592186044416 := by
      intro i hi
      obtain ⟨cs', h1, h2⟩ := hel i (by omega)
      obtain ⟨A, xs, c, rfl, hI, hc, hb2⟩ := ints_read h2 (hD i hi)
      rw [cells36] at h1
      have := (World.cells?_some h1).2.2 0 (by omega)
      have e0 : (a.add (i * 1)).add 0 = a.add i := by rw [Nat.mul_one]; simp [Addr.add]
      rw [e0] at this
      exact ⟨xs, A, c, this, hI, hb2⟩
    have : Inhabited (List Int) := ⟨[]⟩
    obtain ⟨F, hF⟩ := choose_lt hall
    have hlen : ((List.range len).map F).length = len := by simp
    refine ⟨(List.range len).map F, hlen.symm, fun h0 => ?_, by rw [hlen]; omega, by rw [hlen]; simp only [reachBytes] at hb; omega⟩
    rw [hlen] at h0
    obtain ⟨A, c, hc, _⟩ := hF 0 h0
    obtain ⟨b, off, spot⟩ := a
    have hspot : spot = none := by
      simp [Addr.add] at hc
      exact World.cell?_spot hc
    subst hspot
    refine ⟨b, off, rfl, fun k hk => ?_⟩
    rw [hlen] at hk
    have e : ((List.range len).map F)[k]'(by rw [hlen]; exact hk) = F k := by simp
    rw [e]
    obtain ⟨A, c, hc, hI, hb2⟩ := hF k hk
    rw [add_lit] at hc
    exact ⟨A, c, hc, hI, hb2⟩

end
end Go.Proofs.Ytmclalhjnjghnaa
