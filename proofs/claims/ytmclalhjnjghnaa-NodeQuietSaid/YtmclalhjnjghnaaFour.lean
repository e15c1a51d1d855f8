/- Contracts of beat.four and beat.number. -/
import Derived.Test.YtmclalhjnjghnaaCrc
import Derived.Laws.BytesArg
namespace Go.Proofs.Ytmclalhjnjghnaa
open Go.RowKit Hw

/-- 'beat.four'. -/
def four (n : Int) : ByteArray := strOfNums [n / 16777216, n / 65536 % 256, n / 256 % 256, n % 256]

set_option maxRecDepth 100000 in
set_option maxHeartbeats 2000000 in
theorem four_any (n : Int) (w : World) (h : 0 ≤ n ∧ n ≤ 4294967295) : Calls Try.prog 134 #[.int .i64 n] w fun e w' => e = .returned (.string (four n)) ∧ Below w.heap.size w w' := by
  have hconv := run_convert_bytes_arg (P := Try.prog) (w.alloc (.cells #[.int .u8 (n / 16777216), .int .u8 (n / 65536 % 256), .int .u8 (n / 256 % 256), .int .u8 (n % 256)] 5)) 208 5 Try.underlying208 Try.underlying5 w.heap.size 0 4 4
    [n / 16777216, n / 65536 % 256, n / 256 % 256, n % 256] rfl (fun i hi => by
      rw [World.cell?_alloc_new]
      obtain rfl | rfl | rfl | rfl : i = 0 ∨ i = 1 ∨ i = 2 ∨ i = 3 := by omega
      all_goals rfl) 9 Try.underlying9
  go_enter Try.func134, Try.ntmps134
  go_wp2_with fail
  go_ret
  exact ⟨rfl, (Below.refl _ _).alloc (Nat.le_refl _) _⟩

theorem or_i64 (a b i : Nat) (ha : 2 ^ i * a < 4611686018427387904) (hi : i < 62) (hb : b < 2 ^ i) : bits .or .i64 ((2 ^ i * a : Nat) : Int) (b : Int) = ((2 ^ i * a + b : Nat) : Int) := by
  have hp : (2 : Nat) ^ i ≤ 2 ^ 62 := Nat.pow_le_pow_right (by omega) (by omega)
  have h1 : (BitVec.ofInt 64 ((2 ^ i * a : Nat) : Int)).toNat = 2 ^ i * a := by
    rw [BitVec.ofInt_natCast, BitVec.toNat_ofNat]; exact Nat.mod_eq_of_lt (by omega)
  have h2 : (BitVec.ofInt 64 (b : Int)).toNat = b := by
    rw [BitVec.ofInt_natCast, BitVec.toNat_ofNat]; exact Nat.mod_eq_of_lt (by omega)
  show IntKind.i64.wrap ((BitVec.ofInt 64 ((2 ^ i * a : Nat) : Int) ||| BitVec.ofInt 64 (b : Int)).toNat : Int) = _
  rw [BitVec.toNat_or, h1, h2, ← Nat.two_pow_add_eq_or_of_lt hb a]
  exact IntWalk.i64_in _ (by omega)

/-- 'beat.number', of four bytes or more. -/
def byteAt (s : ByteArray) (k : Nat) : Nat := (s.data.toList.getD k 0).toNat
def number (s : ByteArray) : Int := ((byteAt s 0 * 16777216 + byteAt s 1 * 65536 + byteAt s 2 * 256 + byteAt s 3 : Nat) : Int)

theorem byteAt_of (s : ByteArray) (k : Nat) (h : k < s.size) : byteAt s k = s[k].toNat := by
  unfold byteAt
  rw [List.getD_eq_getElem?_getD, Array.getElem?_toList, Array.getElem?_eq_getElem (by exact h)]
  rfl

theorem byteAt_lt (s : ByteArray) (k : Nat) : byteAt s k < 256 := UInt8.toNat_lt _

theorem number_or (a b c d : Nat) (ha : a < 256) (hb : b < 256) (hc : c < 256) (hd : d < 256) :
    bits BinOp.or IntKind.i64 (bits BinOp.or IntKind.i64 (bits BinOp.or IntKind.i64 (wrap64 (wrap64 (a : Int) * 16777216)) (wrap64 (wrap64 (b : Int) * 65536))) (wrap64 (wrap64 (c : Int) * 256))) (wrap64 (d : Int)) =
      ((a * 16777216 + b * 65536 + c * 256 + d : Nat) : Int) := by
  rw [IntWalk.wrap64_in (a : Int) (by omega), IntWalk.wrap64_in (b : Int) (by omega), IntWalk.wrap64_in (c : Int) (by omega), IntWalk.wrap64_in (d : Int) (by omega)]
  rw [IntWalk.wrap64_in ((a : Int) * 16777216) (by omega), IntWalk.wrap64_in ((b : Int) * 65536) (by omega), IntWalk.wrap64_in ((c : Int) * 256) (by omega)]
  rw [show (a : Int) * 16777216 = ((2 ^ 24 * a : Nat) : Int) by omega, show (b : Int) * 65536 = ((65536 * b : Nat) : Int) by omega, or_i64 a _ 24 (by omega) (by omega) (by omega)]
  rw [show 2 ^ 24 * a + 65536 * b = 2 ^ 16 * (256 * a + b) by omega, show (c : Int) * 256 = ((256 * c : Nat) : Int) by omega, or_i64 _ _ 16 (by omega) (by omega) (by omega)]
  rw [show 2 ^ 16 * (256 * a + b) + 256 * c = 2 ^ 8 * (65536 * a + 256 * b + c) by omega, or_i64 _ _ 8 (by omega) (by omega) (by omega)]
  omega

set_option maxRecDepth 100000 in
set_option maxHeartbeats 2000000 in
theorem number_any (s : ByteArray) (w : World) (h : 4 ≤ s.size) : Calls Try.prog 98 #[.string s] w fun e w' => e = .returned (.int .i64 (number s)) ∧ w' = w.drew := by
  have h0 : (0 : Int) < (s.size : Int) := by omega
  have h1 : (1 : Int) < (s.size : Int) := by omega
  have h2 : (2 : Int) < (s.size : Int) := by omega
  have h3 : (3 : Int) < (s.size : Int) := by omega
  have k0 : 0 < s.size := by omega
  have k1 : 1 < s.size := by omega
  have k2 : 2 < s.size := by omega
  have k3 : 3 < s.size := by omega
  go_enter Try.func98, Try.ntmps98
  go_wp2_with fail
  go_region
  go_wp2_with fail
  go_ret
  refine ⟨?_, rfl⟩
  have e := number_or s[0].toNat s[1].toNat s[2].toNat s[3].toNat (UInt8.toNat_lt _) (UInt8.toNat_lt _) (UInt8.toNat_lt _) (UInt8.toNat_lt _)
  rw [← byteAt_of s 0 k0, ← byteAt_of s 1 k1, ← byteAt_of s 2 k2, ← byteAt_of s 3 k3] at e
  unfold number
  rw [← e, byteAt_of s 0 k0, byteAt_of s 1 k1, byteAt_of s 2 k2, byteAt_of s 3 k3]
  rfl

/-- A number that was written is read again. -/
theorem number_four (n : Int) (h : 0 ≤ n ∧ n ≤ 4294967295) : number (four n) = n := by
  have e : (four n).data.toList = [UInt8.ofNat (n / 16777216).toNat, UInt8.ofNat (n / 65536 % 256).toNat, UInt8.ofNat (n / 256 % 256).toNat, UInt8.ofNat (n % 256).toNat] := by
    unfold four
    rw [strOfNums_data]
    rfl
  unfold number byteAt
  rw [e]
  simp
  omega

theorem four_size (n : Int) : (four n).size = 4 := by
  have e : (four n).data.toList.length = 4 := by
    unfold four
    rw [strOfNums_data]
    rfl
  simpa using e

end Go.Proofs.Ytmclalhjnjghnaa
