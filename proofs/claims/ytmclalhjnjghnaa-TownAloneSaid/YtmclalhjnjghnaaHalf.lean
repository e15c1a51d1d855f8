/- The contract of root.Halvings: how often a number can be halved, in parts of another one. The contract of root.Halvings, joined. -/
import Derived.Test.YtmclalhjnjghnaaWide
import Derived.Deep.RegionWith
namespace Go.Proofs.Ytmclalhjnjghnaa
open Go.RowKit Hw Go.Lib

theorem bitLen_in : ∀ x : Nat, x < 18446744073709551616 → x < 2 ^ Lib.bitLen x ∧ (x ≠ 0 → 2 ^ Lib.bitLen x ≤ 2 * x) := by
  intro x
  induction x using Nat.strongRecOn with
  | _ x ih =>
    intro hx
    by_cases h0 : x = 0
    · subst h0
      exact ⟨by decide, fun h => absurd rfl h⟩
    · have hb := Lib.bitLen_half x h0 hx
      obtain ⟨i1, i2⟩ := ih (x / 2) (by omega) (by omega)
      rw [hb, Nat.pow_add]
      refine ⟨by omega, fun _ => ?_⟩
      by_cases h1 : x / 2 = 0
      · have : x = 1 := by omega
        subst this
        decide
      · have := i2 h1
        omega

theorem wlen_in {T : Nat} (h : T < 340282366920938463463374607431768211456) : T < 2 ^ wlen T ∧ (T ≠ 0 → 2 ^ wlen T ≤ 2 * T) ∧ wlen T ≤ 128 := by
  unfold wlen
  split
  · rename_i hp
    obtain ⟨a, b⟩ := bitLen_in (T / 18446744073709551616) (by omega)
    have c := b (by omega)
    have d := bitLen_le64 (T / 18446744073709551616)
    rw [Nat.pow_add]
    generalize 2 ^ Lib.bitLen (T / 18446744073709551616) = X at a c ⊢
    refine ⟨?_, fun _ => ?_, by omega⟩ <;> omega
  · rename_i hp
    obtain ⟨a, b⟩ := bitLen_in (T % 18446744073709551616) (by omega)
    have d := bitLen_le64 (T % 18446744073709551616)
    refine ⟨by omega, fun h0 => ?_, by omega⟩
    have := b (by omega)
    omega

theorem halve_eq {T n : Nat} (hT : T < 340282366920938463463374607431768211456) (hn : 1 ≤ n) (h : n ≤ T) :
    wlen n ≤ wlen T ∧ (n * 2 ^ (wlen T - wlen n) < 340282366920938463463374607431768211456) ∧ (if T < n * 2 ^ (wlen T - wlen n) then 1 ≤ wlen T - wlen n ∧ wlen T - wlen n - 1 = (T / n).log2 else wlen T - wlen n = (T / n).log2) := by
  obtain ⟨a1, a2, a3⟩ := wlen_in hT
  obtain ⟨b1, b2, b3⟩ := wlen_in (T := n) (by omega)
  have a2 := a2 (by omega)
  have b2 := b2 (by omega)
  generalize wlen T = la at *
  generalize wlen n = lb at *
  have hlb : lb ≤ la := by
    have : 2 ^ lb < 2 ^ (la + 1) := by rw [Nat.pow_succ]; omega
    have := (Nat.pow_lt_pow_iff_right (a := 2) (by omega)).1 this
    omega
  have hq : 1 ≤ T / n := Nat.div_pos h (by omega)
  have hq0 : T / n ≠ 0 := by omega
  obtain ⟨L, hL⟩ : ∃ L, (T / n).log2 = L := ⟨_, rfl⟩
  have l1 : 2 ^ L ≤ T / n := by rw [← hL]; exact Nat.log2_self_le hq0
  have l2 : T / n < 2 ^ (L + 1) := by rw [← hL]; exact Nat.lt_log2_self
  have m1 : n * 2 ^ L ≤ T := by
    have := (Nat.le_div_iff_mul_le (by omega)).1 l1
    rwa [Nat.mul_comm]
  have m2 : T < n * 2 ^ (L + 1) := by
    have := (Nat.div_lt_iff_lt_mul (by omega)).1 l2
    rwa [Nat.mul_comm]
  have hk1 : L ≤ la - lb := by
    have h1 : 2 ^ lb * 2 ^ L ≤ 2 * n * 2 ^ L := Nat.mul_le_mul_right _ b2
    have h2 : 2 ^ (lb + L) < 2 ^ (la + 1) := by
      rw [Nat.pow_add, Nat.pow_succ]
      have : 2 * n * 2 ^ L = 2 * (n * 2 ^ L) := Nat.mul_assoc _ _ _
      omega
    have := (Nat.pow_lt_pow_iff_right (a := 2) (by omega)).1 h2
    omega
  have hk2 : la - lb ≤ L + 1 := by
    have h1 : n * 2 ^ (L + 1) < 2 ^ lb * 2 ^ (L + 1) := Nat.mul_lt_mul_of_pos_right b1 (Nat.two_pow_pos _)
    have h2 : 2 ^ la < 2 ^ (lb + (L + 1) + 1) := by
      rw [Nat.pow_succ, Nat.pow_add]
      omega
    have := (Nat.pow_lt_pow_iff_right (a := 2) (by omega)).1 h2
    omega
  refine ⟨hlb, ?_, ?_⟩
  · have h1 : n * 2 ^ (la - lb) < 2 ^ lb * 2 ^ (la - lb) := Nat.mul_lt_mul_of_pos_right b1 (Nat.two_pow_pos _)
    rw [← Nat.pow_add, show lb + (la - lb) = la by omega] at h1
    have h2 : 2 ^ la ≤ 2 ^ 128 := Nat.pow_le_pow_right (by omega) a3
    have h3 : (2 : Nat) ^ 128 = 340282366920938463463374607431768211456 := by decide
    omega
  · rw [hL]
    split
    · rename_i hc
      have : la - lb ≠ L := fun e => by rw [e] at hc; omega
      omega
    · rename_i hc
      have : la - lb ≠ L + 1 := fun e => by rw [e] at hc; omega
      omega

/-- A wide number as the walk spells it. -/
def wideI (T : Nat) : Value := .agg #[.int .u64 ((T : Int) / 18446744073709551616), .int .u64 ((T : Int) % 18446744073709551616)]
theorem wideV_eq (T : Nat) : wideV T = wideI T := by simp [wideV, wideI]

theorem wlen_int (T : Nat) (h : T < 340282366920938463463374607431768211456) (w : World) : Calls Try.prog 149 #[.agg #[.int .u64 ((T : Int) / 18446744073709551616), .int .u64 ((T : Int) % 18446744073709551616)]] w fun e w' => e = .returned (.int .i64 (wlen T)) ∧ Below w.heap.size w w' := by
  have := wlen_any T h w
  rw [wideV_eq] at this
  exact this

theorem wup_int (S k : Nat) (h1 : S < 9223372036854775808) (hk : k ≤ 127) (h : S * 2 ^ k < 340282366920938463463374607431768211456) (w : World) :
    Calls Try.prog 151 #[.agg #[.int .u64 ((S : Int) / 18446744073709551616), .int .u64 ((S : Int) % 18446744073709551616)], .int .i64 k] w fun e w' => e = .returned (wideI (S * 2 ^ k)) ∧ Below w.heap.size w w' := by
  have := wup_any S k h1 hk h w
  rw [wideV_eq, wideV_eq] at this
  exact this

theorem wcmp_int (S T : Nat) (w : World) :
    Calls Try.prog 150 #[wideI S, .agg #[.int .u64 ((T : Int) / 18446744073709551616), .int .u64 ((T : Int) % 18446744073709551616)]] w fun e w' => e = .returned (.int .i64 (if S = T then 0 else if S < T then -1 else 1)) ∧ Below w.heap.size w w' := by
  have := wcmp_any S T w
  rw [wideV_eq, wideV_eq] at this
  exact this

set_option maxRecDepth 100000 in
set_option maxHeartbeats 1000000 in
theorem halvings_core (tx ty nx ny ux uy cm : Int) (la lb k : Nat) (w : World) (hLT : ∀ w, Calls Try.prog 149 #[.agg #[.int .u64 tx, .int .u64 ty]] w fun e w' => e = .returned (.int .i64 la) ∧ Below w.heap.size w w')
    (hLn : ∀ w, Calls Try.prog 149 #[.agg #[.int .u64 nx, .int .u64 ny]] w fun e w' => e = .returned (.int .i64 lb) ∧ Below w.heap.size w w')
    (hUp : ∀ w, Calls Try.prog 151 #[.agg #[.int .u64 nx, .int .u64 ny], .int .i64 k] w fun e w' => e = .returned (.agg #[.int .u64 ux, .int .u64 uy]) ∧ Below w.heap.size w w')
    (hCmp : ∀ w, Calls Try.prog 150 #[.agg #[.int .u64 ux, .int .u64 uy], .agg #[.int .u64 tx, .int .u64 ty]] w fun e w' => e = .returned (.int .i64 cm) ∧ Below w.heap.size w w')
    (hny : ¬ ny = 0) (hkw : IntKind.i64.wrap ((la : Int) - (lb : Int)) = (k : Int)) (hk : k ≤ 127) (hgt : 0 < cm → 1 ≤ k) :
    Calls Try.prog 126 #[.agg #[.int .u64 tx, .int .u64 ty], .agg #[.int .u64 nx, .int .u64 ny]] w fun e w' => e = .returned (.tuple #[.int .i64 (if 0 < cm then (k : Int) - 1 else k), .int .i64 0]) ∧ Below w.heap.size w w' := by
  have HLT := Lib.hid hLT
  have HLn := Lib.hid hLn
  have HUp := Lib.hid hUp
  have HCmp := Lib.hid hCmp
  have hk0 : (0 : Int) ≤ (k : Int) := by omega
  have hk00 : ¬ (k : Int) < 0 := by omega
  have hnb : (ny == 0) = false := by simpa using hny
  clear hLT hLn hUp hCmp
  go_enter Try.func126, Try.ntmps126
  go_wp2_with fail
  have hb0 := ((Below.refl w.heap.size w).alloc (Nat.le_refl _) (.cells #[.int .u64 tx, .int .u64 ty] 181)).alloc (by simp) (.cells #[.int .u64 nx, .int .u64 ny] 181)
  have x0 := heap_alloc2_old w (.cells #[.int .u64 tx, .int .u64 ty] 181) (.cells #[.int .u64 nx, .int .u64 ny] 181)
  have x1 := heap_alloc2_new w (.cells #[.int .u64 tx, .int .u64 ty] 181) (.cells #[.int .u64 nx, .int .u64 ny] 181)
  generalize (w.alloc (.cells #[.int .u64 tx, .int .u64 ty] 181)).alloc (.cells #[.int .u64 nx, .int .u64 ny] 181) = W at hb0 x0 x1 ⊢
  have a0 := cell_of_row W w.heap.size 0 _ 181 (0, 0) x0
  have a1 := cell_of_row W w.heap.size 1 _ 181 (0, 0) x0
  have b0 := cell_of_row W (w.heap.size + 1) 0 _ 181 (0, 0) x1
  have b1 := cell_of_row W (w.heap.size + 1) 1 _ 181 (0, 0) x1
  simp at a0 a1 b0 b1
  have HB0 := Lib.hid hb0
  clear hb0 x0 x1
  go_region_with (first
    | (go_at_call_of 149 tx; refine (HLT.out _).mono ?_; rintro e wz ⟨rfl, hbz⟩; have a0 := bsome hbz a0; have a1 := bsome hbz a1; have b0 := bsome hbz b0; have b1 := bsome hbz b1; have HB0 : Hid (Below w.heap.size w wz) := (by first | exact HB0.out.trans (hbz.mono HB0.out.size) | exact HB0.out.drew.trans (hbz.mono HB0.out.size)); clear hbz)
    | (go_at_call_of 149 nx; refine (HLn.out _).mono ?_; rintro e wz ⟨rfl, hbz⟩; have a0 := bsome hbz a0; have a1 := bsome hbz a1; have b0 := bsome hbz b0; have b1 := bsome hbz b1; have HB0 : Hid (Below w.heap.size w wz) := (by first | exact HB0.out.trans (hbz.mono HB0.out.size) | exact HB0.out.drew.trans (hbz.mono HB0.out.size)); clear hbz))
  all_goals clear HLT HLn
  all_goals go_wp2_with fail
  all_goals go_region_with (first
    | (go_at_call 151; refine (HUp.out _).mono ?_; rintro e wz ⟨rfl, hbz⟩; have a0 := bsome hbz a0; have a1 := bsome hbz a1; have b0 := bsome hbz b0; have b1 := bsome hbz b1; have HB0 : Hid (Below w.heap.size w wz) := (by first | exact HB0.out.trans (hbz.mono HB0.out.size) | exact HB0.out.drew.trans (hbz.mono HB0.out.size)); clear hbz)
    | (go_at_call 150; refine (HCmp.out _).mono ?_; rintro e wz ⟨rfl, hbz⟩; have a0 := bsome hbz a0; have a1 := bsome hbz a1; have b0 := bsome hbz b0; have b1 := bsome hbz b1; have HB0 : Hid (Below w.heap.size w wz) := (by first | exact HB0.out.trans (hbz.mono HB0.out.size) | exact HB0.out.drew.trans (hbz.mono HB0.out.size)); clear hbz))
  all_goals clear HUp HCmp
  all_goals go_wp2_with fail
  all_goals
    go_ret2
    first
      | exact ⟨rfl, HB0.out⟩
      | (rw [if_pos (by assumption)]; exact ⟨rfl, HB0.out⟩)
      | (rw [if_neg (by omega)]; exact ⟨rfl, HB0.out⟩)

end Go.Proofs.Ytmclalhjnjghnaa

namespace Go.Proofs.Ytmclalhjnjghnaa
open Go.RowKit Hw Go.Lib

theorem cmp_pos (E T : Nat) : 0 < (if E = T then (0 : Int) else if E < T then -1 else 1) ↔ T < E := by
  split
  · omega
  · split <;> omega

theorem halvings_any (T n : Nat) (w : World) (hT : T < 340282366920938463463374607431768211456) (hn : 1 ≤ n) (hn2 : n < 9223372036854775808) (h : n ≤ T) :
    Calls Try.prog 126 #[wideI T, wideI n] w fun e w' => e = .returned (.tuple #[.int .i64 ((T / n).log2 : Nat), .int .i64 0]) ∧ Below w.heap.size w w' := by
  obtain ⟨q1, q2, q3⟩ := halve_eq hT hn h
  have hlT := (wlen_in hT).2.2
  have hk127 : wlen T - wlen n ≤ 127 := by
    have : wlen n ≠ 0 := fun e => by
      have := (wlen_in (T := n) (by omega)).1
      rw [e] at this
      omega
    omega
  have hcp := cmp_pos (n * 2 ^ (wlen T - wlen n)) T
  have hval : ((T / n).log2 : Int) = if 0 < (if n * 2 ^ (wlen T - wlen n) = T then (0 : Int) else if n * 2 ^ (wlen T - wlen n) < T then -1 else 1) then ((wlen T - wlen n : Nat) : Int) - 1 else ((wlen T - wlen n : Nat) : Int) := by
    by_cases hc : T < n * 2 ^ (wlen T - wlen n)
    · rw [if_pos hc] at q3
      rw [if_pos (hcp.2 hc)]
      omega
    · rw [if_neg hc] at q3
      rw [if_neg (fun e => hc (hcp.1 e))]
      omega
  rw [hval]
  refine halvings_core _ _ _ _ (((n * 2 ^ (wlen T - wlen n) : Nat) : Int) / 18446744073709551616) (((n * 2 ^ (wlen T - wlen n) : Nat) : Int) % 18446744073709551616) _ (wlen T) (wlen n) (wlen T - wlen n) w (fun w => wlen_int T hT w) (fun w => wlen_int n (by omega) w)
    (fun w => wup_int n _ hn2 hk127 q2 w) (fun w => wcmp_int (n * 2 ^ (wlen T - wlen n)) T w) (by omega) (by rw [IntWalk.i64_in _ (by omega)]; omega) hk127 (fun hc => ?_)
  rw [if_pos (hcp.1 hc)] at q3
  exact q3.1

end Go.Proofs.Ytmclalhjnjghnaa
