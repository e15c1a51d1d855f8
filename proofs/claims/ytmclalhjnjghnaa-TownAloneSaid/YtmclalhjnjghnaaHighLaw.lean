/- Plain laws of levels: who is silent for long enough is suspected at any threshold; who is silent no longer than each of the window's values is not suspected. -/
import Derived.Test.YtmclalhjnjghnaaBaseN
namespace Go.Proofs.Ytmclalhjnjghnaa
open Go.RowKit Hw

theorem sums_le {M : Int} (hM : 0 ≤ M) : ∀ (l : List Int), (∀ x ∈ l, 0 ≤ x ∧ x ≤ M) → sumOf l ≤ l.length * M ∧ sqOf l ≤ l.length * (M * M)
  | [], _ => by simp [sumOf, sqOf]
  | x :: t, h => by
    obtain ⟨h1, h2⟩ := sums_le hM t fun y hy => h y (List.mem_cons_of_mem _ hy)
    obtain ⟨h3, h4⟩ := h x List.mem_cons_self
    rw [sum_cons, sq_cons, List.length_cons]
    have h5 : x * x ≤ M * M := Int.mul_le_mul h4 h4 h3 hM
    have e : ∀ z : Int, ((t.length + 1 : Nat) : Int) * z = z + t.length * z := fun z => by
      rw [Int.natCast_add, Int.add_mul]
      simp
      omega
    rw [e, e]
    omega

theorem spread_le {l : List Int} {least M : Int} (h1 : 1 ≤ least) (h2 : least ≤ M) (h : ∀ x ∈ l, 0 ≤ x ∧ x ≤ M) : spread l least ≤ (l.length : Int) * l.length * (M * M) := by
  have hM : 0 ≤ M := by omega
  obtain ⟨-, hq⟩ := sums_le hM l h
  have hn : (0 : Int) ≤ l.length := Int.natCast_nonneg _
  have hMM : 0 ≤ M * M := Int.mul_nonneg hM hM
  have hnn : 0 ≤ (l.length : Int) * l.length := Int.mul_nonneg hn hn
  have hnq : (l.length : Int) * sqOf l ≤ (l.length : Int) * (l.length * (M * M)) := Int.mul_le_mul_of_nonneg_left hq hn
  have hss : 0 ≤ sumOf l * sumOf l := by
    rcases Int.le_total 0 (sumOf l) with h0 | h0
    · exact Int.mul_nonneg h0 h0
    · exact Int.mul_nonneg_of_nonpos_of_nonpos h0 h0
  have hll : least * least ≤ M * M := Int.mul_le_mul h2 h2 (by omega) hM
  have h3 : (l.length : Int) * l.length * (least * least) ≤ (l.length : Int) * l.length * (M * M) := Int.mul_le_mul_of_nonneg_left hll hnn
  have h4 : (l.length : Int) * l.length * least * least = (l.length : Int) * l.length * (least * least) := by rw [Int.mul_assoc ((l.length : Int) * l.length)]
  have h5 : (l.length : Int) * (l.length * (M * M)) = (l.length : Int) * l.length * (M * M) := by rw [Int.mul_assoc]
  have h6 : 0 ≤ (l.length : Int) * l.length * (M * M) := Int.mul_nonneg hnn hMM
  rw [spread_eq, statSpread]
  split <;> omega

/-- Long silence. -/
theorem level_high {cap least since M K : Int} {l : List Int} {theta : Nat} (hw : winCheck cap l = 0) (l1 : 1 ≤ least) (l2 : least ≤ 16777216) (h1 : 1 ≤ l.length) (hM : least ≤ M) (h : ∀ x ∈ l, x ≤ M)
    (hK : 1 ≤ K) (hs : K * M + M ≤ since) (s2 : since ≤ 1073741824) (hth : ((2 ^ theta : Nat) : Int) ≤ K * K) : (theta : Int) ≤ (levelOf cap l least since).1 := by
  obtain ⟨-, hv⟩ := list_ok (win_list hw)
  have hv' : ∀ x ∈ l, 0 ≤ x ∧ x ≤ M := fun x hx => ⟨(hv x hx).1, h x hx⟩
  have hM0 : 0 ≤ M := by omega
  have hKM : 0 < K * M := Int.mul_pos (by omega) (by omega)
  obtain ⟨hsum, -⟩ := sums_le hM0 l hv'
  have hsp := spread_le l1 hM hv'
  obtain ⟨p1, -⟩ := spread_in (win_list hw) (by omega) l1 l2
  rw [levelOf_ok hw l1 l2 h1 (by omega) s2]
  have hn : (1 : Int) ≤ l.length := by omega
  have hd1 : (l.length : Int) * (K * M + M) ≤ (l.length : Int) * since := Int.mul_le_mul_of_nonneg_left hs (by omega)
  rw [Int.mul_add] at hd1
  have hd : (l.length : Int) * (K * M) ≤ (l.length : Int) * since - sumOf l := by omega
  have hnKM : 0 < (l.length : Int) * (K * M) := Int.mul_pos (by omega) hKM
  rw [if_neg (by omega)]
  generalize hD : (l.length : Int) * since - sumOf l = D at hd
  have hDD : ((l.length : Int) * (K * M)) * ((l.length : Int) * (K * M)) ≤ D * D := Int.mul_le_mul hd hd (by omega) (by omega)
  have hKK : 0 ≤ K * K := Int.mul_nonneg (by omega) (by omega)
  have hsp2 : (K * K) * spread l least ≤ (K * K) * ((l.length : Int) * l.length * (M * M)) := Int.mul_le_mul_of_nonneg_left hsp hKK
  have e : (K * K) * ((l.length : Int) * l.length * (M * M)) = ((l.length : Int) * (K * M)) * ((l.length : Int) * (K * M)) := by
    simp only [Int.mul_assoc, Int.mul_comm, Int.mul_left_comm]
  have hall : (K * K) * spread l least ≤ spread l least + D * D := by omega
  have hdiv : K * K ≤ (spread l least + D * D) / spread l least := (Int.le_ediv_iff_mul_le (by omega)).2 hall
  show (theta : Int) ≤ ((((spread l least + D * D) / spread l least).toNat.log2 : Nat) : Int)
  have h2 : 2 ^ theta ≤ ((spread l least + D * D) / spread l least).toNat := by omega
  have hne : ((spread l least + D * D) / spread l least).toNat ≠ 0 := by
    have : 0 < 2 ^ theta := Nat.two_pow_pos _
    omega
  exact Int.ofNat_le.2 ((Nat.le_log2 hne).2 h2)

/-- Short silence. -/
theorem level_low {cap least since : Int} {l : List Int} (hw : winCheck cap l = 0) (l1 : 1 ≤ least) (l2 : least ≤ 16777216) (h1 : 1 ≤ l.length) (h : ∀ x ∈ l, since ≤ x) (s1 : 0 ≤ since) (s2 : since ≤ 1073741824) : levelOf cap l least since = (0, 0) := by
  have hsum : ∀ (l : List Int), (∀ x ∈ l, since ≤ x) → (l.length : Int) * since ≤ sumOf l := by
    intro l
    induction l with
    | nil => intro _; simp [sumOf]
    | cons x t ih =>
      intro h
      have h3 := ih fun y hy => h y (List.mem_cons_of_mem _ hy)
      have h4 := h x List.mem_cons_self
      rw [sum_cons, List.length_cons]
      have e : ((t.length + 1 : Nat) : Int) * since = since + t.length * since := by
        rw [Int.natCast_add, Int.add_mul]
        simp
        omega
      omega
  have := hsum l h
  rw [levelOf_ok hw l1 l2 h1 s1 s2, if_pos (by omega)]

end Go.Proofs.Ytmclalhjnjghnaa
