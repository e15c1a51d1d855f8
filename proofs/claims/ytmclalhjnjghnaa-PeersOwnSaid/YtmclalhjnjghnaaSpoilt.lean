/- The contract of spoilt: peers are spoilt, with all their lists. -/
import Derived.Test.YtmclalhjnjghnaaSpoil
namespace Go.Proofs.Ytmclalhjnjghnaa
open Go.RowKit Hw

/-- Peers that may be spoilt, with all their lists. -/
def SpP (w : World) (B E : Nat) (v : Value) : Prop :=
  v = .slice none 0 0 ∨ ∃ g n c cur, v = .slice (some ⟨g, 0, none⟩) n c ∧ B ≤ g ∧ g < E ∧ n ≤ c ∧ c ≤ maxLen ∧ w.heap[g]? = some (.cells cur 40 (0, 0)) ∧ cur.size = c * 7 ∧
    ∀ k, k < n → ∃ (p : Peer) (V : Value), (∀ j, j < 7 → cur[k * 7 + j]? = (peerCells p V)[j]?) ∧ Rw w B E 3 1 V

set_option maxRecDepth 100000 in
set_option maxHeartbeats 2000000 in
theorem spoilt_any (v : Value) (B E : Nat) (w : World) (h : SpP w B E v) (hB : B ≤ w.heap.size) :
    Calls Try.prog 27 #[v] w fun e w' => e = .returned (.tuple #[]) ∧ Spoils B E w w' := by
  rcases h with rfl | ⟨g, n, c, cur, rfl, h1, h2, h3, h4, h5, h6, h7⟩
  · go_enter Try.func27, Try.ntmps27
    go_wp2_with fail
    go_loopw [3, 6] (fun _ i wr => i = .int .i64 0 ∧ wr = w) (fun _ _ _ => 0)
    case atStart => exact ⟨rfl, rfl⟩
    case round =>
      obtain ⟨rfl, rfl⟩ := hrel
      go_wp2_with (go_at_call 92; refine (spoilp_any _ _ B E _ (.inl rfl) hB).mono ?_; rintro e w1 ⟨rfl, hs1⟩)
      exact bodyPost_end (v := .tuple #[]) (by simp [results, Try.results27]) rfl ⟨rfl, hs1⟩
  · have hcm : c ≤ 9223372036854775807 := h4
    have H5 := Lib.hid h5
    have H7 := Lib.hid h7
    have H4 := Lib.hid h4
    have H3 := Lib.hid h3
    have H6 := Lib.hid h6
    have zg := (Array.getElem?_eq_some_iff.1 h5).1
    clear h4 h5 h7
    go_enter Try.func27, Try.ntmps27
    go_wp2_with fail
    go_loopw [3, 6] (fun _ i wr => ∃ k : Nat, k ≤ n ∧ i = .int .i64 k ∧ Hid (wr.heap[g]? = some (.cells cur 40 (0, 0))) ∧ Hid (Spoils B E w wr)) (fun _ i _ => n - (intOf i).toNat)
    case atStart => exact ⟨0, Nat.zero_le _, rfl, H5.out, Spoils.refl _ _ _⟩
    case round =>
      obtain ⟨k, hk, rfl, HC, HS⟩ := hrel
      have hB2 : B ≤ wr.heap.size := Nat.le_trans hB HS.out.low.size
      by_cases hlt : k < n
      · obtain ⟨p, V, hp, hV⟩ := H7.out k hlt
        have hcc := fun j (hj : j < 7) => (cell_of_row wr g (k * 7 + j) cur 40 (0, 0) HC.out).trans (hp j hj)
        have c0 : wr.cell? ⟨g, k * 7, none⟩ = some (.string p.id) := hcc 0 (by omega)
        have c1 : wr.cell? ⟨g, k * 7 + 1, none⟩ = some (.int .i64 p.gate.inc) := hcc 1 (by omega)
        have c2 : wr.cell? ⟨g, k * 7 + 2, none⟩ = some (.int .i64 p.gate.seq) := hcc 2 (by omega)
        have c3 : wr.cell? ⟨g, k * 7 + 3, none⟩ = some (.int .i64 p.gate.drops) := hcc 3 (by omega)
        have c4 : wr.cell? ⟨g, k * 7 + 4, none⟩ = some (.int .i64 p.cap) := hcc 4 (by omega)
        have c5 : wr.cell? ⟨g, k * 7 + 5, none⟩ = some V := hcc 5 (by omega)
        have c6 : wr.cell? ⟨g, k * 7 + 6, none⟩ = some (.int .i64 p.last) := hcc 6 (by omega)
        have HVr := Lib.hid (hV.keep HS.out)
        have hVf : ∃ A m d, V = .slice A m d := by
          rcases hV with h | ⟨g', n', c', cur', e, _⟩
          · exact ⟨_, _, _, h⟩
          · exact ⟨_, _, _, e⟩
        obtain ⟨A, m, d, rfl⟩ := hVf
        have hkw : IntKind.i64.wrap ((k : Int) + 1) = (k : Int) + 1 := IntWalk.i64_in _ (by omega)
        have hkc : (k : Int) < (n : Int) := by omega
        have hk0 : (0 : Int) ≤ (k : Int) := by omega
        clear hcc hp hV
        go_wp2_with (go_at_call 79; refine (spoili_any (.slice A m d) 9 B E _ (HVr.out.keep (Spoils.below (E := E) hB2 ((Below.refl _ _).alloc (Nat.le_refl _) _)))).mono ?_; rintro e w1 ⟨rfl, hs1, ho1⟩; have Hs1 := Lib.hid hs1; have Ho1 := Lib.hid ho1; clear hs1 ho1)
        go_roundw
        case rel =>
          refine ⟨k + 1, by omega, by go_num, Ho1.out g 40 cur ?_ (by decide), (HS.out.trans (Spoils.below hB2 ((Below.refl _ _).alloc (Nat.le_refl _) _))).trans Hs1.out⟩
          exact (Below.heap_alloc _ _ _ (blt c0)).trans HC.out
        case measure => simp [intOf]; omega
      · have hkc : k = n := by omega
        subst hkc
        go_wp2_with (go_at_call 92; refine (spoilp_any _ _ B E _ (.inr ⟨g, k, c, cur, rfl, h1, h2, H3.out, H4.out, HC.out, H6.out⟩) hB2).mono ?_; rintro e w1 ⟨rfl, hs1⟩)
        exact bodyPost_end (v := .tuple #[]) (by simp [results, Try.results27]) rfl ⟨rfl, HS.out.trans hs1⟩

end Go.Proofs.Ytmclalhjnjghnaa
