/- Contracts of wide numbers: Add, Len, Cmp, Up, prod.Mul and root.Halvings. -/
import Derived.Test.YtmclalhjnjghnaaBits
import Derived.Deep.QuietTactic
namespace Go.Proofs.Ytmclalhjnjghnaa
open Go.RowKit Hw Go.Lib

/-- A number of 128 bits. -/
def wideV (T : Nat) : Value := .agg #[.int .u64 ((T / 18446744073709551616 : Nat) : Int), .int .u64 ((T % 18446744073709551616 : Nat) : Int)]

theorem add64_run (x y c : Int) (hx : 0 ≤ x) (hy : 0 ≤ y) (hc : c = 0 ∨ c = 1) (w : World) : (callFunc 147 #[.int .u64 x, .int .u64 y, .int .u64 c]).run Try.prog w = .ok (.value (.tuple #[.int .u64 ((x + y + c) % 18446744073709551616), .int .u64 ((x + y + c) / 18446744073709551616)])) w := by
  obtain ⟨n, rfl⟩ := Int.eq_ofNat_of_zero_le hx
  obtain ⟨m, rfl⟩ := Int.eq_ofNat_of_zero_le hy
  rcases hc with rfl | rfl
  · have : (callFunc 147 #[.int .u64 (n : Int), .int .u64 (m : Int), .int .u64 0]).run Try.prog w = .ok (.value (.tuple #[.int .u64 (Int.ofNat ((n + m + 0) % Extern.MathBitsCarry.m64)), .int .u64 (Int.ofNat ((n + m + 0) / Extern.MathBitsCarry.m64))])) w := by kernel_rfl
    rw [this]
    simp [Extern.MathBitsCarry.m64]
  · have : (callFunc 147 #[.int .u64 (n : Int), .int .u64 (m : Int), .int .u64 1]).run Try.prog w = .ok (.value (.tuple #[.int .u64 (Int.ofNat ((n + m + 1) % Extern.MathBitsCarry.m64)), .int .u64 (Int.ofNat ((n + m + 1) / Extern.MathBitsCarry.m64))])) w := by kernel_rfl
    rw [this]
    simp [Extern.MathBitsCarry.m64]

set_option maxRecDepth 100000 in
theorem prodmul_any (x y : Nat) (hx : x < 18446744073709551616) (hy : y < 18446744073709551616) (w : World) : Calls Try.prog 125 #[.int .u64 x, .int .u64 y] w fun e w' => e = .returned (wideV (x * y)) ∧ Below w.heap.size w w' := by
  go_enter Try.func125, Try.ntmps125
  go_wp2_with (go_at_call 148; refine (mul64_any x y hx hy _).mono ?_; rintro e w1 ⟨rfl, rfl⟩)
  exact bodyPost_ret (v := wideV (x * y)) (by simp [results, Try.results125, go_sem, wideV]) rfl ⟨rfl, (Below.refl _ _).alloc (Nat.le_refl _) _⟩

set_option maxRecDepth 100000 in
set_option maxHeartbeats 1000000 in
theorem wadd_any (S T : Nat) (h : S + T < 340282366920938463463374607431768211456) (w : World) : Calls Try.prog 124 #[wideV S, wideV T] w fun e w' => e = .returned (.tuple #[wideV (S + T), .int .i64 0]) ∧ Below w.heap.size w w' := by
  obtain ⟨c, hc⟩ : ∃ c : Int, ((S : Int) % 18446744073709551616 + (T : Int) % 18446744073709551616 + 0) / 18446744073709551616 = c := ⟨_, rfl⟩
  have hc01 : c = 0 ∨ c = 1 := by omega
  have r1 := add64_run ((S : Int) % 18446744073709551616) ((T : Int) % 18446744073709551616) 0 (by omega) (by omega) (.inl rfl)
  have r2 := add64_run ((S : Int) / 18446744073709551616) ((T : Int) / 18446744073709551616) c (by omega) (by omega) hc01
  rw [hc] at r1
  have hz : ((S : Int) / 18446744073709551616 + (T : Int) / 18446744073709551616 + c) / 18446744073709551616 = 0 := by omega
  rw [hz] at r2
  have hl : ((S : Int) % 18446744073709551616 + (T : Int) % 18446744073709551616 + 0) % 18446744073709551616 = ((S + T : Nat) : Int) % 18446744073709551616 := by omega
  have hh : ((S : Int) / 18446744073709551616 + (T : Int) / 18446744073709551616 + c) % 18446744073709551616 = ((S + T : Nat) : Int) / 18446744073709551616 := by omega
  rw [hl] at r1
  rw [hh] at r2
  generalize hx : ((S + T : Nat) : Int) % 18446744073709551616 = lo at r1
  generalize hy : ((S + T : Nat) : Int) / 18446744073709551616 = hi at r2
  have HX := Lib.hid hx
  have HY := Lib.hid hy
  clear hc hz hl hh hx hy hc01
  unfold wideV
  go_enter Try.func124, Try.ntmps124
  go_wp2_with fail
  refine bodyPost_ret (v := .tuple #[.agg #[.int .u64 hi, .int .u64 lo], .int .i64 0]) (by simp [results, Try.results124, go_sem]) rfl ⟨?_, ?_⟩
  · rw [← HX.out, ← HY.out]
    simp
  · repeat (first | exact (Below.refl _ _) | refine Below.setCell ?_ (by simp) _ | refine Below.alloc ?_ (by simp <;> omega) _)

def wlen (T : Nat) : Nat := if 0 < T / 18446744073709551616 then 64 + Lib.bitLen (T / 18446744073709551616) else Lib.bitLen (T % 18446744073709551616)

theorem bitLen_le64 (x : Nat) : Lib.bitLen x ≤ 64 := by
  have : ∀ f x, Lib.bitLenAux f x ≤ f := by
    intro f
    induction f with
    | zero => intro x; exact Nat.le_refl _
    | succ f ih =>
      intro x
      unfold Lib.bitLenAux
      split
      · omega
      · have := ih (x / 2)
        omega
  exact this 64 x

set_option maxRecDepth 100000 in
theorem wlen_any (T : Nat) (h : T < 340282366920938463463374607431768211456) (w : World) : Calls Try.prog 149 #[wideV T] w fun e w' => e = .returned (.int .i64 (wlen T)) ∧ Below w.heap.size w w' := by
  have hb := bitLen_le64 (T / 18446744073709551616)
  have hw : wrap64 (64 + (Lib.bitLen (T / 18446744073709551616) : Int)) = 64 + (Lib.bitLen (T / 18446744073709551616) : Int) := IntWalk.wrap64_in _ (by omega)
  unfold wideV
  go_enter Try.func149, Try.ntmps149
  go_wp2_with (go_at_call 161; refine (len64_any _ _ (by omega) (by omega)).mono ?_; rintro e w1 ⟨rfl, rfl⟩)
  · go_ret
    refine ⟨ret_int ?_, (Below.refl _ _).alloc (Nat.le_refl _) _⟩
    unfold wlen
    rw [if_pos (by omega)]
    try rw [hw]
    push_cast
    rfl
  · go_ret
    refine ⟨ret_int ?_, (Below.refl _ _).alloc (Nat.le_refl _) _⟩
    unfold wlen
    rw [if_neg (by omega)]
    rfl

set_option maxRecDepth 100000 in
set_option maxHeartbeats 1000000 in
theorem wcmp_any (S T : Nat) (w : World) : Calls Try.prog 150 #[wideV S, wideV T] w fun e w' => e = .returned (.int .i64 (if S = T then 0 else if S < T then -1 else 1)) ∧ Below w.heap.size w w' := by
  unfold wideV
  by_cases h1 : S = T
  · rw [if_pos h1]
    subst h1
    go_enter Try.func150, Try.ntmps150
    go_wp2_with fail
    all_goals
      go_ret
      exact ⟨rfl, ((Below.refl _ _).alloc (Nat.le_refl _) _).alloc (by simp) _⟩
  · rw [if_neg h1]
    by_cases h2 : S < T
    · rw [if_pos h2]
      go_enter Try.func150, Try.ntmps150
      go_wp2_with fail
      all_goals first
        | (exfalso; omega)
        | (go_ret; exact ⟨rfl, ((Below.refl _ _).alloc (Nat.le_refl _) _).alloc (by simp) _⟩)
    · rw [if_neg h2]
      go_enter Try.func150, Try.ntmps150
      go_wp2_with fail
      all_goals first
        | (exfalso; omega)
        | (go_ret; exact ⟨rfl, ((Below.refl _ _).alloc (Nat.le_refl _) _).alloc (by simp) _⟩)

theorem up_high {S k : Nat} (h1 : S < 9223372036854775808) (h64 : 64 ≤ k) (h : S * 2 ^ k < 340282366920938463463374607431768211456) :
    IntKind.u64.wrap ((S : Int) % 18446744073709551616 * 2 ^ (k - 64)) = ((S * 2 ^ k / 18446744073709551616 : Nat) : Int) ∧ (0 : Int) = ((S * 2 ^ k % 18446744073709551616 : Nat) : Int) := by
  have e : S * 2 ^ k = S * 2 ^ (k - 64) * 18446744073709551616 := by
    rw [Nat.mul_assoc, show (18446744073709551616 : Nat) = 2 ^ 64 by rfl, ← Nat.pow_add]
    congr 2
    omega
  rw [e] at h ⊢
  rw [Nat.mul_div_cancel _ (by omega), Nat.mul_mod_left]
  have e2 : (S : Int) % 18446744073709551616 * 2 ^ (k - 64) = ((S * 2 ^ (k - 64) : Nat) : Int) := by
    rw [show (S : Int) % 18446744073709551616 = (S : Int) by omega]
    push_cast
    rfl
  rw [e2, IntKind.wrap_u64]
  exact ⟨by omega, rfl⟩

theorem or_zero {x : Nat} (hx : x < 18446744073709551616) : bits BinOp.or IntKind.u64 0 (x : Int) = (x : Int) := by
  have := bits_or_u64_nat 0 x (by omega) hx
  simpa using this

theorem up_low {S k : Nat} (h1 : S < 9223372036854775808) (h64 : ¬ 64 ≤ k) :
    bits BinOp.or IntKind.u64 (IntKind.u64.wrap ((S : Int) / 18446744073709551616 * 2 ^ k)) ((S : Int) % 18446744073709551616 / 2 ^ (64 - k)) = ((S * 2 ^ k / 18446744073709551616 : Nat) : Int) ∧
      IntKind.u64.wrap ((S : Int) % 18446744073709551616 * 2 ^ k) = ((S * 2 ^ k % 18446744073709551616 : Nat) : Int) := by
  have e0 : (S : Int) / 18446744073709551616 = 0 := by omega
  have e1 : (S : Int) % 18446744073709551616 = (S : Int) := by omega
  have hp : 0 < 2 ^ k := Nat.two_pow_pos k
  have e2 : S * 2 ^ k / 18446744073709551616 = S / 2 ^ (64 - k) := by
    rw [show (18446744073709551616 : Nat) = 2 ^ (64 - k) * 2 ^ k by rw [← Nat.pow_add, show 64 - k + k = 64 by omega]]
    exact Nat.mul_div_mul_right _ _ hp
  rw [e0, e1, e2, Int.zero_mul]
  constructor
  · have e3 : (S : Int) / 2 ^ (64 - k) = ((S / 2 ^ (64 - k) : Nat) : Int) := by push_cast; rfl
    have hle : S / 2 ^ (64 - k) ≤ S := Nat.div_le_self _ _
    rw [e3, show IntKind.u64.wrap 0 = 0 by rw [IntKind.wrap_u64]; rfl, or_zero (by omega)]
  · have e3 : (S : Int) * 2 ^ k = ((S * 2 ^ k : Nat) : Int) := by push_cast; rfl
    rw [e3, IntKind.wrap_u64]
    omega

set_option maxRecDepth 100000 in
set_option maxHeartbeats 1000000 in
theorem wup_any (S k : Nat) (h1 : S < 9223372036854775808) (hk : k ≤ 127) (h : S * 2 ^ k < 340282366920938463463374607431768211456) (w : World) : Calls Try.prog 151 #[wideV S, .int .i64 k] w fun e w' => e = .returned (wideV (S * 2 ^ k)) ∧ Below w.heap.size w w' := by
  have hbb : ∀ c1 c2, Below w.heap.size w ((w.alloc (.cells c1 181)).alloc (.cells c2 181)) := fun c1 c2 => ((Below.refl _ _).alloc (Nat.le_refl _) _).alloc (by simp) _
  have HBB := Lib.hid hbb
  clear hbb
  by_cases h64 : 64 ≤ k
  · have hki : (64 : Int) ≤ (k : Int) := by omega
    obtain ⟨e1, e2⟩ := up_high h1 h64 h
    have E1 := Lib.hid e1
    have E2 := Lib.hid e2
    clear e1 e2
    unfold wideV
    go_enter Try.func151, Try.ntmps151
    go_wp2_with fail
    refine bodyPost_ret (v := .agg #[.int .u64 (IntKind.u64.wrap ((S : Int) % 18446744073709551616 * 2 ^ (k - 64))), .int .u64 0]) (by simp [results, Try.results151, go_sem]) rfl ⟨?_, HBB.out _ _⟩
    rw [E1.out, ← E2.out]
  · have hki : ¬ (64 : Int) ≤ (k : Int) := by omega
    obtain ⟨e1, e2⟩ := up_low (k := k) h1 h64
    have E1 := Lib.hid e1
    have E2 := Lib.hid e2
    clear e1 e2
    unfold wideV
    go_enter Try.func151, Try.ntmps151
    go_wp2_with fail
    go_region
    go_wp2_with fail
    refine bodyPost_ret (v := .agg #[.int .u64 (bits BinOp.or IntKind.u64 (IntKind.u64.wrap ((S : Int) / 18446744073709551616 * 2 ^ k)) ((S : Int) % 18446744073709551616 / 2 ^ (64 - k))), .int .u64 (IntKind.u64.wrap ((S : Int) % 18446744073709551616 * 2 ^ k))]) (by simp [results, Try.results151, go_sem]) rfl ⟨?_, (HBB.out _ _).drew⟩
    rw [E1.out, E2.out]

end Go.Proofs.Ytmclalhjnjghnaa
