/- Contracts of crc.table and crc.Of. Contracts of beat.four and beat.number. Contracts of beat.plain and beat.Encode. The contract of beat.Decode. What was written by beat.Encode is read again by beat.Decode. -/
import Derived.Test.YtmclalhjnjghnaaBaseA
import Derived.Laws.Tables
import Derived.Laws.CopyOwn
import Derived.OpenShut
import Derived.Laws.BytesArg
import Derived.Lib.Strings
namespace Go.Proofs.Ytmclalhjnjghnaa
open Go.RowKit Hw

def crcStep (z : Int) : Int := if (bits BinOp.and IntKind.u32 z 1 == 1) = true then bits BinOp.xor IntKind.u32 (z / 2) 3988292384 else z / 2
def crcIt : Nat → Int → Int
  | 0, z => z
  | q + 1, z => crcStep (crcIt q z)
def crcTab (i : Nat) : Int := crcIt 8 i
def crcRow : Array Value := ((List.range 256).map fun i => Value.int .u32 (crcTab i)).toArray

theorem crcRow_size : crcRow.size = 256 := by simp [crcRow]
theorem crcRow_at (i : Nat) (h : i < 256) : crcRow[i]? = some (.int .u32 (crcTab i)) := by simp [crcRow, h]
theorem crcRow_one : crcRow.all (·.oneCell') = true := by
  rw [Array.all_eq_true_iff_forall_mem]
  intro v hv
  simp [crcRow] at hv
  obtain ⟨i, _, rfl⟩ := hv
  rfl
theorem crcStep_t {z : Int} (h : (bits BinOp.and IntKind.u32 z 1 == 1) = true) : bits BinOp.xor IntKind.u32 (z / 2) 3988292384 = crcStep z := by unfold crcStep; rw [if_pos h]
theorem crcStep_f {z : Int} (h : (bits BinOp.and IntKind.u32 z 1 == 1) = false) : z / 2 = crcStep z := by unfold crcStep; rw [if_neg (by simp [h])]

theorem zsize195 : Try.zeroCells195.size = 256 := by kernel_rfl
theorem info195 : (Try.prog.info? 195).map (·.size) = some 256 := by kernel_rfl

def TabAt (w wr : World) (k : Nat) : Prop :=
  Below w.heap.size w wr ∧ wr.heap[w.heap.size]? = some (.cells Try.zeroCells195 195 (0, 0)) ∧ ∃ cs : Array Value, wr.heap[w.heap.size + 1]? = some (.cells cs 195 (0, 0)) ∧ cs.size = 256 ∧ ∀ j, j < k → cs[j]? = some (.int .u32 (crcTab j))

theorem TabAt.start (w : World) : TabAt w ((w.alloc (.cells Try.zeroCells195 195)).alloc (.cells Try.zeroCells195 195)) 0 := by
  refine ⟨((Below.refl _ _).alloc (Nat.le_refl _) _).alloc (by simp) _, heap_alloc2_old _ _ _, _, heap_alloc2_new _ _ _, zsize195, fun j hj => by omega⟩

theorem TabAt.cell {w wr : World} {k : Nat} (h : TabAt w wr k) (hk : k < 256) : (∃ v, wr.cell? ⟨w.heap.size + 1, k, none⟩ = some v) ∧ wr.frozen? ⟨w.heap.size + 1, k, none⟩ = false := by
  obtain ⟨h1, h2, cs, h3, h4, h5⟩ := h
  refine ⟨⟨cs[k]'(by omega), ?_⟩, frozen_of_row _ _ _ _ _ h3⟩
  rw [cell_of_row _ _ _ _ _ _ h3, Array.getElem?_eq_getElem (by omega)]

theorem TabAt.step {w wr : World} {k : Nat} (h : TabAt w wr k) (hk : k < 256) : TabAt w (wr.setCell ⟨w.heap.size + 1, k, none⟩ (.int .u32 (crcTab k))) (k + 1) := by
  obtain ⟨h1, h2, cs, h3, h4, h5⟩ := h
  refine ⟨h1.setCell (by simp) _, (heap_setCell_other _ _ _ _ (by simp)).trans h2, _, heap_setCell_same _ _ _ _ _ _ h3, by simp [h4], fun j hj => ?_⟩
  by_cases e : j = k
  · subst e
    simp [h4, hk]
  · rw [Array.getElem?_setIfInBounds_ne (by omega)]
    exact h5 j (by omega)

theorem TabAt.full {w wr : World} (h : TabAt w wr 256) : wr.heap[w.heap.size + 1]? = some (.cells crcRow 195 (0, 0)) := by
  obtain ⟨h1, h2, cs, h3, h4, h5⟩ := h
  have : cs = crcRow := by
    apply Array.ext
    · rw [h4, crcRow_size]
    · intro i hi hi2
      have e1 := h5 i (by omega)
      have e2 := crcRow_at i (by omega)
      rw [Array.getElem?_eq_getElem hi] at e1
      rw [Array.getElem?_eq_getElem hi2] at e2
      exact Option.some.inj (e1.trans e2.symm)
  rw [← this]
  exact h3

set_option maxRecDepth 100000 in
set_option maxHeartbeats 2000000 in
theorem table_any (w : World) : Calls Try.prog 135 #[] w fun e w' => e = .returned (.agg crcRow) ∧ Below w.heap.size w w' := by
  go_enter Try.func135, Try.ntmps135
  go_wp2_with fail
  go_loopw [2, 3, 4] (fun _ _ i wr => ∃ k : Nat, k ≤ 256 ∧ i = .int .i64 k ∧ Hid (TabAt w wr k)) (fun _ _ i _ => 256 - (intOf i).toNat)
  case atStart => exact ⟨0, by omega, rfl, TabAt.start w⟩
  case round =>
    obtain ⟨k, hk, rfl, HT⟩ := hrel
    by_cases hlt : k < 256
    · have hk3 : (k : Int) < 256 := by omega
      have hk0 : (0 : Int) ≤ k := by omega
      have hkw : IntKind.i64.wrap ((k : Int) + 1) = (k : Int) + 1 := IntWalk.i64_in _ (by omega)
      have hkc : IntKind.u32.wrap (k : Int) = (k : Int) := by simp [IntKind.wrap, IntKind.signed, IntKind.bits]; omega
      obtain ⟨⟨v0, hc⟩, hf⟩ := HT.out.cell hlt
      go_wp2_with fail
      go_loopw [3, 9] (fun c i wx => ∃ q : Nat, q ≤ 8 ∧ i = .int .i64 q ∧ c = .int .u32 (crcIt q k) ∧ Hid (wx = wr)) (fun _ i _ => 8 - (intOf i).toNat)
      case atStart =>
        exact ⟨0, by omega, rfl, by simp [crcIt], rfl⟩
      case round =>
        rename_i wr0
        obtain ⟨q, hq, rfl, rfl, hw⟩ := hrel
        by_cases hlq : q < 8
        · have hq3 : (q : Int) < 8 := by omega
          generalize hz : crcIt q k = z
          have Hz := Lib.hid hz
          clear hz
          go_wp2_with fail
          · rename_i hb
            have e := (crcStep_t hb).trans (show crcStep z = crcIt (q + 1) k by rw [← Hz.out]; rfl)
            go_roundw
            case rel => exact ⟨q + 1, by omega, by go_num, by rw [e], hw⟩
            case measure => simp [intOf]; omega
          · rename_i hb
            have e := (crcStep_f hb).trans (show crcStep z = crcIt (q + 1) k by rw [← Hz.out]; rfl)
            go_roundw
            case rel => exact ⟨q + 1, by omega, by go_num, by rw [e], hw⟩
            case measure => simp [intOf]; omega
        · have hq8 : q = 8 := by omega
          subst hq8
          obtain rfl := hw.out
          go_wp2_with fail
          go_roundw
          case rel =>
            exact ⟨k + 1, by omega, by go_num, HT.out.step hlt⟩
          case measure => simp [intOf]; omega
    · have hk8 : k = 256 := by omega
      subst hk8
      have h1 := HT.out.1
      have h2 := HT.out.2.1
      have h3 := HT.out.full
      have H1 := Lib.hid h1
      have H2 := Lib.hid h2
      have H3 := Lib.hid h3
      clear h1 h2 h3
      go_wp2_with (first
        | (refine wpList_load_row rfl 195 (.tmp 1) rfl (w.heap.size + 1) rfl 195 crcRow (0, 0) _ H3.out Try.underlying195 rfl (by rw [crcRow_size]; exact info195) ?_)
        | (refine wpList_store_row rfl 195 (.tmp 0) (.tmp 24) rfl w.heap.size crcRow rfl rfl 195 _ H2.out (by rw [crcRow_size]; exact info195) (by rw [crcRow_size]; exact zsize195) crcRow_one ?_)
        | fail)
      refine bodyPost_ret (v := .agg crcRow) (results_cell_row (by rfl) _ _ w.heap.size 195 crcRow (0, 0) _ (by rfl) (setRow_heap _ _ _ _ _ _ H2.out) Try.underlying195 rfl (by rw [crcRow_size]; exact info195)) rfl ⟨rfl, below_setRow H1.out (Nat.le_refl _) _⟩

/-- A byte taken into the sum. -/
def crcUpd (c : Int) (b : UInt8) : Int := bits BinOp.xor IntKind.u32 (c / 256) (crcTab (bits BinOp.xor IntKind.u8 (c % 256) b.toNat).toNat)
def crcUpto (s : ByteArray) (k : Nat) : Int := (s.data.toList.take k).foldl crcUpd 4294967295

theorem crcUpto_succ (s : ByteArray) (k : Nat) (h : k < s.size) : crcUpto s (k + 1) = crcUpd (crcUpto s k) s[k] := by
  unfold crcUpto
  have e : s.data.toList[k]? = some s[k] := by
    rw [Array.getElem?_toList]
    exact Array.getElem?_eq_getElem h
  rw [List.take_add_one, e, List.foldl_append]
  rfl

def crcSum (s : ByteArray) : Int := bits BinOp.xor IntKind.u32 IntKind.u32.max (crcUpto s s.size)
/-- 'crc.Of'. -/
def crcOf (s : ByteArray) : Int × Int := if 20000 < s.size then (0, 2) else (crcSum s, 0)

theorem crcSum_in (s : ByteArray) : 0 ≤ crcSum s ∧ crcSum s ≤ 4294967295 := bounds_u32 (wf_bits _ _ _ _)
theorem crcOf_in (s : ByteArray) : 0 ≤ (crcOf s).1 ∧ (crcOf s).1 ≤ 4294967295 := by
  unfold crcOf
  split
  · simp
  · exact crcSum_in s

set_option maxRecDepth 100000 in
set_option maxHeartbeats 2000000 in
theorem crc_any (s : ByteArray) (w : World) : Calls Try.prog 97 #[.string s] w fun e w' => e = .returned (.tuple #[.int .i64 (crcOf s).1, .int .i64 (crcOf s).2]) ∧ Below w.heap.size w w' := by
  by_cases hs : 20000 < s.size
  · have hs2 : (20000 : Int) < (s.size : Int) := by omega
    go_enter Try.func97, Try.ntmps97
    go_wp2_with fail
    go_ret2
    exact ⟨by unfold crcOf; rw [if_pos hs]; rfl, Below.refl _ _⟩
  · have hs2 : ¬ (20000 : Int) < (s.size : Int) := by omega
    go_enter Try.func97, Try.ntmps97
    go_wp2_with (first
      | (go_at_call 135; refine (table_any _).mono ?_; rintro e w1 ⟨rfl, hb1⟩; have Hb1 := Lib.hid hb1; clear hb1)
      | (refine wpList_store_row rfl 195 (.tmp 4) (.tmp 10) rfl w1.heap.size crcRow rfl rfl 195 _ (heap_alloc_new w1 _) (by rw [crcRow_size]; exact info195) (by rw [crcRow_size]; exact zsize195) crcRow_one ?_)
      | fail)
    have hrow := setRow_heap (w1.alloc (.cells Try.zeroCells195 195)) w1.heap.size Try.zeroCells195 crcRow 195 (0, 0) (heap_alloc_new w1 _)
    have hbel : Below w.heap.size w ((w1.alloc (.cells Try.zeroCells195 195)).setRow w1.heap.size crcRow) := below_setRow (Hb1.out.alloc Hb1.out.size _) Hb1.out.size _
    generalize (w1.alloc (.cells Try.zeroCells195 195)).setRow w1.heap.size crcRow = W at hrow hbel ⊢
    have Hrow := Lib.hid hrow
    have Hbel := Lib.hid hbel
    clear hrow hbel
    go_loopw [5, 6, 13] (fun c _ i wx => ∃ k : Nat, k ≤ s.size ∧ i = .int .i64 k ∧ c = .int .u32 (crcUpto s k) ∧ Hid (wx = W)) (fun _ _ i _ => s.size - (intOf i).toNat)
    case atStart => exact ⟨0, by omega, rfl, rfl, rfl⟩
    case round =>
      obtain ⟨k, hk, rfl, rfl, hW⟩ := hrel
      obtain rfl := hW.out
      by_cases hlt : k < s.size
      · have hk3 : (k : Int) < (s.size : Int) := by omega
        have hk0 : (0 : Int) ≤ k := by omega
        have hkw : IntKind.i64.wrap ((k : Int) + 1) = (k : Int) + 1 := IntWalk.i64_in _ (by omega)
        have hnext := crcUpto_succ s k hlt
        have Hn := Lib.hid hnext
        clear hnext
        generalize crcUpto s k = z at Hn ⊢
        have hz := bounds_u8 (wf_bits .xor .u8 (z % 256) (s[k].toNat : Int))
        have hz2 : 0 ≤ bits .xor .u8 (z % 256) (s[k].toNat : Int) ∧ bits .xor .u8 (z % 256) (s[k].toNat : Int) < 256 := by omega
        have hc : wr.cell? ⟨w1.heap.size, (bits .xor .u8 (z % 256) (s[k].toNat : Int)).toNat, none⟩ = some (.int .u32 (crcTab (bits .xor .u8 (z % 256) (s[k].toNat : Int)).toNat)) := by
          rw [cell_of_row _ _ _ _ _ _ Hrow.out]
          exact crcRow_at _ (by omega)
        go_wp2_with fail
        go_roundw
        case rel => exact ⟨k + 1, by omega, by go_num, by rw [Hn.out]; rfl, trivial⟩
        case measure => simp [intOf]; omega
      · have hks : k = s.size := by omega
        subst hks
        go_wp2_with fail
        go_ret2
        refine ⟨?_, Hbel.out⟩
        have e : wrap64 (bits BinOp.xor IntKind.u32 IntKind.u32.max (crcUpto s s.size)) = crcSum s := by
          have := crcSum_in s
          show wrap64 (crcSum s) = crcSum s
          exact IntWalk.wrap64_in _ (by omega)
        unfold crcOf
        rw [if_neg hs, ← e]
        rfl

end Go.Proofs.Ytmclalhjnjghnaa

namespace Go.Proofs.Ytmclalhjnjghnaa
open Go.RowKit Hw

/-- 'beat.four'. -/
def four (n : Int) : ByteArray := strOfNums [n / 16777216, n / 65536 % 256, n / 256 % 256, n % 256]

set_option maxRecDepth 100000 in
set_option maxHeartbeats 2000000 in
theorem four_any (n : Int) (w : World) (h : 0 ≤ n ∧ n ≤ 4294967295) : Calls Try.prog 134 #[.int .i64 n] w fun e w' => e = .returned (.string (four n)) ∧ Below w.heap.size w w' := by
  have hconv := run_convert_bytes_arg (P := Try.prog) (w.alloc (.cells #[.int .u8 (n / 16777216), .int .u8 (n / 65536 % 256), .int .u8 (n / 256 % 256), .int .u8 (n % 256)] 5)) 208 5 Try.underlying208 Try.underlying5 w.heap.size 0 4 4
    [n / 16777216, n / 65536 % 256, n / 256 % 256, n % 256] rfl (fun i hi => by
      rw [World.cell?_alloc_new]
      obtain rfl | rfl | rfl | rfl : i = 0 ∨ i = 1 ∨ i = 2 ∨ i = 3 := by omega
      all_goals rfl) 9 Try.underlying9
  go_enter Try.func134, Try.ntmps134
  go_wp2_with fail
  go_ret
  exact ⟨rfl, (Below.refl _ _).alloc (Nat.le_refl _) _⟩

theorem or_i64 (a b i : Nat) (ha : 2 ^ i * a < 4611686018427387904) (hi : i < 62) (hb : b < 2 ^ i) : bits .or .i64 ((2 ^ i * a : Nat) : Int) (b : Int) = ((2 ^ i * a + b : Nat) : Int) := by
  have hp : (2 : Nat) ^ i ≤ 2 ^ 62 := Nat.pow_le_pow_right (by omega) (by omega)
  have h1 : (BitVec.ofInt 64 ((2 ^ i * a : Nat) : Int)).toNat = 2 ^ i * a := by
    rw [BitVec.ofInt_natCast, BitVec.toNat_ofNat]; exact Nat.mod_eq_of_lt (by omega)
  have h2 : (BitVec.ofInt 64 (b : Int)).toNat = b := by
    rw [BitVec.ofInt_natCast, BitVec.toNat_ofNat]; exact Nat.mod_eq_of_lt (by omega)
  show IntKind.i64.wrap ((BitVec.ofInt 64 ((2 ^ i * a : Nat) : Int) ||| BitVec.ofInt 64 (b : Int)).toNat : Int) = _
  rw [BitVec.toNat_or, h1, h2, ← Nat.two_pow_add_eq_or_of_lt hb a]
  exact IntWalk.i64_in _ (by omega)

/-- 'beat.number', of four bytes or more. -/
def byteAt (s : ByteArray) (k : Nat) : Nat := (s.data.toList.getD k 0).toNat
def number (s : ByteArray) : Int := ((byteAt s 0 * 16777216 + byteAt s 1 * 65536 + byteAt s 2 * 256 + byteAt s 3 : Nat) : Int)

theorem byteAt_of (s : ByteArray) (k : Nat) (h : k < s.size) : byteAt s k = s[k].toNat := by
  unfold byteAt
  rw [List.getD_eq_getElem?_getD, Array.getElem?_toList, Array.getElem?_eq_getElem (by exact h)]
  rfl

theorem byteAt_lt (s : ByteArray) (k : Nat) : byteAt s k < 256 := UInt8.toNat_lt _

theorem number_or (a b c d : Nat) (ha : a < 256) (hb : b < 256) (hc : c < 256) (hd : d < 256) :
    bits BinOp.or IntKind.i64 (bits BinOp.or IntKind.i64 (bits BinOp.or IntKind.i64 (wrap64 (wrap64 (a : Int) * 16777216)) (wrap64 (wrap64 (b : Int) * 65536))) (wrap64 (wrap64 (c : Int) * 256))) (wrap64 (d : Int)) =
      ((a * 16777216 + b * 65536 + c * 256 + d : Nat) : Int) := by
  rw [IntWalk.wrap64_in (a : Int) (by omega), IntWalk.wrap64_in (b : Int) (by omega), IntWalk.wrap64_in (c : Int) (by omega), IntWalk.wrap64_in (d : Int) (by omega)]
  rw [IntWalk.wrap64_in ((a : Int) * 16777216) (by omega), IntWalk.wrap64_in ((b : Int) * 65536) (by omega), IntWalk.wrap64_in ((c : Int) * 256) (by omega)]
  rw [show (a : Int) * 16777216 = ((2 ^ 24 * a : Nat) : Int) by omega, show (b : Int) * 65536 = ((65536 * b : Nat) : Int) by omega, or_i64 a _ 24 (by omega) (by omega) (by omega)]
  rw [show 2 ^ 24 * a + 65536 * b = 2 ^ 16 * (256 * a + b) by omega, show (c : Int) * 256 = ((256 * c : Nat) : Int) by omega, or_i64 _ _ 16 (by omega) (by omega) (by omega)]
  rw [show 2 ^ 16 * (256 * a + b) + 256 * c = 2 ^ 8 * (65536 * a + 256 * b + c) by omega, or_i64 _ _ 8 (by omega) (by omega) (by omega)]
  omega

set_option maxRecDepth 100000 in
set_option maxHeartbeats 2000000 in
theorem number_any (s : ByteArray) (w : World) (h : 4 ≤ s.size) : Calls Try.prog 98 #[.string s] w fun e w' => e = .returned (.int .i64 (number s)) ∧ w' = w.drew := by
  have h0 : (0 : Int) < (s.size : Int) := by omega
  have h1 : (1 : Int) < (s.size : Int) := by omega
  have h2 : (2 : Int) < (s.size : Int) := by omega
  have h3 : (3 : Int) < (s.size : Int) := by omega
  have k0 : 0 < s.size := by omega
  have k1 : 1 < s.size := by omega
  have k2 : 2 < s.size := by omega
  have k3 : 3 < s.size := by omega
  go_enter Try.func98, Try.ntmps98
  go_wp2_with fail
  go_region
  go_wp2_with fail
  go_ret
  refine ⟨?_, rfl⟩
  have e := number_or s[0].toNat s[1].toNat s[2].toNat s[3].toNat (UInt8.toNat_lt _) (UInt8.toNat_lt _) (UInt8.toNat_lt _) (UInt8.toNat_lt _)
  rw [← byteAt_of s 0 k0, ← byteAt_of s 1 k1, ← byteAt_of s 2 k2, ← byteAt_of s 3 k3] at e
  unfold number
  rw [← e, byteAt_of s 0 k0, byteAt_of s 1 k1, byteAt_of s 2 k2, byteAt_of s 3 k3]
  rfl

/-- A number that was written is read again. -/
theorem number_four (n : Int) (h : 0 ≤ n ∧ n ≤ 4294967295) : number (four n) = n := by
  have e : (four n).data.toList = [UInt8.ofNat (n / 16777216).toNat, UInt8.ofNat (n / 65536 % 256).toNat, UInt8.ofNat (n / 256 % 256).toNat, UInt8.ofNat (n % 256).toNat] := by
    unfold four
    rw [strOfNums_data]
    rfl
  unfold number byteAt
  rw [e]
  simp
  omega

theorem four_size (n : Int) : (four n).size = 4 := by
  have e : (four n).data.toList.length = 4 := by
    unfold four
    rw [strOfNums_data]
    rfl
  simpa using e

end Go.Proofs.Ytmclalhjnjghnaa

namespace Go.Proofs.Ytmclalhjnjghnaa
open Go.RowKit Hw

/-- 'beat.plain'. -/
def plain (b : Beat) : ByteArray := ByteArray.mk #[72] ++ strOfNums [(b.id.size : Int)] ++ b.id ++ four b.inc ++ four b.seq

theorem conv1 (w : World) (n : Int) (g : Nat) (hc : w.cell? ⟨g, 0, none⟩ = some (.int .u8 n)) : (convert 208 9 (.slice (some ⟨g, 0, none⟩) 1 1)).run Try.prog w = .ok (.string (strOfNums [n])) w :=
  run_convert_bytes_arg (P := Try.prog) w 208 5 Try.underlying208 Try.underlying5 g 0 1 1 [n] rfl (fun i hi => by
    obtain rfl : i = 0 := by omega
    exact hc) 9 Try.underlying9

def PlainS (w : World) (b : Beat) (w' : World) : Prop := w'.cell? ⟨w.heap.size, 0, none⟩ = some (.string b.id) ∧ w'.cell? ⟨w.heap.size, 1, none⟩ = some (.int .i64 b.inc) ∧ w'.cell? ⟨w.heap.size, 2, none⟩ = some (.int .i64 b.seq) ∧ Below w.heap.size w w'

theorem PlainS.below {w wx wy : World} {b : Beat} (h : PlainS w b wx) (hb : Below wx.heap.size wx wy) : PlainS w b wy :=
  ⟨bsome hb h.1, bsome hb h.2.1, bsome hb h.2.2.1, h.2.2.2.trans (hb.mono h.2.2.2.size)⟩

/-- What each operation yields. -/
def PlainV (g : Nat) (b : Beat) (j : Nat) (v : Value) (w : World) : Prop :=
  match j with
  | 0 => v = .pointer (some ⟨g, 0, none⟩)
  | 1 => v = .string b.id
  | 2 => v = .int .i64 b.id.size
  | 3 => v = .int .u8 b.id.size
  | 4 => ∃ q, v = .slice (some ⟨q, 0, none⟩) 1 1 ∧ w.cell? ⟨q, 0, none⟩ = some (.int .u8 b.id.size)
  | 5 => v = .string (strOfNums [(b.id.size : Int)])
  | 6 => v = .string (ByteArray.mk #[72] ++ strOfNums [(b.id.size : Int)])
  | 7 => v = .pointer (some ⟨g, 0, none⟩)
  | 8 => v = .string b.id
  | 9 => v = .string (ByteArray.mk #[72] ++ strOfNums [(b.id.size : Int)] ++ b.id)
  | 10 => v = .pointer (some ⟨g, 1, none⟩)
  | 11 => v = .int .i64 b.inc
  | 12 => v = .string (four b.inc)
  | 13 => v = .string (ByteArray.mk #[72] ++ strOfNums [(b.id.size : Int)] ++ b.id ++ four b.inc)
  | 14 => v = .pointer (some ⟨g, 2, none⟩)
  | 15 => v = .int .i64 b.seq
  | 16 => v = .string (four b.seq)
  | _ => v = .string (plain b)

theorem PlainV.below {g : Nat} {b : Beat} {j : Nat} {v : Value} {w w' : World} (h : PlainV g b j v w) (hb : Below w.heap.size w w') : PlainV g b j v w' := by
  unfold PlainV at *
  split at h
  all_goals first
    | exact h
    | (obtain ⟨q, e, hc⟩ := h; exact ⟨q, e, bsome hb hc⟩)

set_option maxRecDepth 100000 in
set_option maxHeartbeats 4000000 in
theorem plain_any (b : Beat) (w : World) (hid : b.id.size ≤ 8) (h1 : 0 ≤ b.inc ∧ b.inc ≤ 4294967295) (h2 : 0 ≤ b.seq ∧ b.seq ≤ 4294967295) :
    Calls Try.prog 133 #[.agg #[.string b.id, .int .i64 b.inc, .int .i64 b.seq]] w fun e w' => e = .returned (.string (plain b)) ∧ Below w.heap.size w w' := by
  have H1 := Lib.hid h1
  have H2 := Lib.hid h2
  have hw8 : IntKind.u8.wrap (b.id.size : Int) = (b.id.size : Int) := IntWalk.u8_in _ (by omega)
  have hconv := conv1
  have hz1 : (strOfNums [(b.id.size : Int)]).size = 1 := rfl
  have hz2 := four_size b.inc
  have hz3 := four_size b.seq
  clear h1 h2
  go_enter Try.func133, Try.ntmps133
  go_wp2_with fail
  have HS : PlainS w b (w.alloc (.cells #[.string b.id, .int .i64 b.inc, .int .i64 b.seq] 24)) := by
    refine ⟨?_, ?_, ?_, (Below.refl _ _).alloc (Nat.le_refl _) _⟩ <;> rw [World.cell?_alloc_new] <;> rfl
  generalize w.alloc (.cells #[.string b.id, .int .i64 b.inc, .int .i64 b.seq] 24) = W at HS ⊢
  refine wp_region_told (PlainV w.heap.size b) (PlainS w b) [3, 4, 5, 6, 7, 8, 9, 10, 11, 12, 13, 14, 15, 16, 17, 18, 19, 20, 2] (by kernel_rfl) (by kernel_rfl) (fun j v w w' _ h hb => h.below hb) (HS.below (Below.refl _ _).drew) ?hs ?hd
  case hs =>
    repeat (refine AllOps.cons ?_ ?_; focus (
      intro a w1 hC hk hv K hK
      have h1 := hk 1 (by decide)
      have HC := Lib.hid hC
      obtain ⟨c0, c1, c2, -⟩ := hC
      clear hk
      simp [Region.binds, PlainV] at hv h1
      try obtain ⟨hv, hv'⟩ := hv
      go_simp
      first
        | exact hK _ _ HC.out (Below.refl _ _) rfl
        | (rw [if_neg (by omega)]; exact hK _ _ HC.out (Below.refl _ _) rfl)
        | (refine (four_any _ _ ?q).mono ?_; (case q => first | exact H1.out | exact H2.out); rintro e w2 ⟨rfl, hb2⟩; exact hK _ _ (HC.out.below hb2) hb2 rfl)
        | (have hb2 : Below w1.heap.size w1 (w1.alloc (.cells #[.int .u8 b.id.size] 5)) := (Below.refl _ _).alloc (Nat.le_refl _) _; exact hK _ _ (HC.out.below hb2) hb2 ⟨_, rfl, by rw [World.cell?_alloc_new]; rfl⟩)))
    exact AllOps.nil
  case hd =>
    intro a w1 hC hdf hsz hk hv
    have h18 := hv 18 (by decide)
    clear hk hv
    simp [PlainV] at h18 hdf
    go_wp2_with fail
    exact bodyPost_ret (v := .string (plain b)) (by simp [results, Try.results133, h18]) hdf ⟨rfl, hC.2.2.2⟩

/-- 'beat.Encode'. -/
def encode (b : Beat) : ByteArray × Int := if beatCheck b ≠ 0 then (ByteArray.mk #[], beatCheck b) else (plain b ++ four (crcOf (plain b)).1, 0)

theorem beat_parts {b : Beat} (h : beatCheck b = 0) : idOk b.id = true ∧ 0 ≤ b.inc ∧ b.inc < 2147483648 ∧ 1 ≤ b.seq ∧ b.seq < 2147483648 := by
  unfold beatCheck at h
  split at h
  · cases h
  · split at h
    · cases h
    · rename_i h1 h2
      refine ⟨by simpa using h1, ?_⟩
      omega

theorem id_size {s : ByteArray} (h : idOk s = true) : 0 < s.size ∧ s.size ≤ 8 := by
  unfold idOk at h
  simp at h
  exact ⟨h.1.1, h.1.2⟩

theorem plain_size (b : Beat) : (plain b).size = 10 + b.id.size := by
  have h1 : (strOfNums [(b.id.size : Int)]).size = 1 := rfl
  have h2 := four_size b.inc
  have h3 := four_size b.seq
  unfold plain
  simp only [ByteArray.size_append, h1, h2, h3]
  show 1 + 1 + b.id.size + 4 + 4 = 10 + b.id.size
  omega

set_option maxRecDepth 100000 in
set_option maxHeartbeats 2000000 in
theorem encode_any (b : Beat) (w : World) : Calls Try.prog 94 #[.agg #[.string b.id, .int .i64 b.inc, .int .i64 b.seq]] w fun e w' => e = .returned (.tuple #[.string (encode b).1, .int .i64 (encode b).2]) ∧ Below w.heap.size w w' := by
  by_cases hc : beatCheck b = 0
  · have hcb : (beatCheck b != 0) = false := by simp [hc]
    obtain ⟨h1, h2, h3, h4, h5⟩ := beat_parts hc
    have hid := (id_size h1).2
    have hps := plain_size b
    have hz := crcOf_in (plain b)
    have hz4 := four_size (crcOf (plain b)).1
    have hE : encode b = (plain b ++ four (crcOf (plain b)).1, 0) := by unfold encode; rw [if_neg (by simp [hc])]
    have HE := Lib.hid hE
    have hbig : ¬ 9223372036854775807 < (plain b).size + (four (crcOf (plain b)).1).size := by omega
    clear hc hE h1
    go_enter Try.func94, Try.ntmps94
    go_wp2_with (first
      | (go_at_call 89; refine (bcheck_any b _).mono ?_; rintro e w1 ⟨rfl, hb1⟩; obtain ⟨c1, f1, z1, hw1⟩ := keep1 hb1; have c10 := c1 0; have c11 := c1 1; have c12 := c1 2; simp at c10 c11 c12; clear c1 f1 hb1)
      | (go_at_call 133; refine (plain_any b _ hid (by omega) (by omega)).mono ?_; rintro e w2 ⟨rfl, hb2⟩; have hw2 := hw1.trans (hb2.mono hw1.size); clear hb2)
      | (go_at_call 97; refine (crc_any _ _).mono ?_; rintro e w3 ⟨rfl, hb3⟩; have hw3 := hw2.trans (hb3.mono hw2.size); clear hb3)
      | (go_at_call 134; refine (four_any _ _ hz).mono ?_; rintro e w4 ⟨rfl, hb4⟩; have hw4 := hw3.trans (hb4.mono hw3.size); clear hb4))
    go_ret2
    rw [HE.out]
    exact ⟨rfl, hw4⟩
  · have hcb : (beatCheck b != 0) = true := by simp [hc]
    have hE : encode b = (ByteArray.mk #[], beatCheck b) := by unfold encode; rw [if_pos hc]
    have HE := Lib.hid hE
    clear hc hE
    go_enter Try.func94, Try.ntmps94
    go_wp2_with (first
      | (go_at_call 89; refine (bcheck_any b _).mono ?_; rintro e w1 ⟨rfl, hb1⟩; obtain ⟨c1, f1, z1, hw1⟩ := keep1 hb1; clear c1 f1 hb1))
    go_ret2
    rw [HE.out]
    exact ⟨rfl, hw1⟩

end Go.Proofs.Ytmclalhjnjghnaa

namespace Go.Proofs.Ytmclalhjnjghnaa
open Go.RowKit Hw

def noBeat : Beat := ⟨ByteArray.mk #[], 0, 0⟩
def decBeat (s : ByteArray) (k : Nat) : Beat := ⟨s.extract 2 (2 + k), number (s.extract (2 + k) s.size), number (s.extract (6 + k) s.size)⟩

/-- 'beat.Decode', of as many bytes as the second one says. -/
def decode (s : ByteArray) : Beat × Int :=
  if s.size < 2 then (noBeat, 8)
  else if byteAt s 0 ≠ 72 ∨ byteAt s 1 < 1 ∨ 8 < byteAt s 1 then (noBeat, 3)
  else if s.size < 14 + byteAt s 1 then (noBeat, 8)
  else if 14 + byteAt s 1 < s.size then (noBeat, 3)
  else if (crcOf (s.extract 0 (10 + byteAt s 1))).1 ≠ number (s.extract (10 + byteAt s 1) s.size) then (noBeat, 9)
  else if beatCheck (decBeat s (byteAt s 1)) ≠ 0 then (noBeat, 3)
  else (decBeat s (byteAt s 1), 0)

def decV (d : Beat × Int) : Value := .tuple #[.agg #[.string d.1.id, .int .i64 d.1.inc, .int .i64 d.1.seq], .int .i64 d.2]

set_option maxRecDepth 100000 in
set_option maxHeartbeats 4000000 in
theorem decode_any (s : ByteArray) (w : World) : Calls Try.prog 36 #[.string s] w fun e w' => e = .returned (decV (decode s)) ∧ Below w.heap.size w w' := by
  by_cases h2 : s.size < 2
  · have hr : decode s = (noBeat, 8) := by unfold decode; rw [if_pos h2]
    have Hr := Lib.hid hr
    have h2i : (s.size : Int) < 2 := by omega
    clear hr
    go_enter Try.func36, Try.ntmps36
    go_wp2_with fail
    rw [Hr.out]
    refine bodyPost_ret (v := decV (noBeat, 8)) (by simp [results, Try.results36, go_sem, decV, noBeat]) rfl ⟨rfl, ?_⟩
    repeat (first | exact (Below.refl _ _).alloc (Nat.le_refl _) _ | refine Below.setCell ?_ (by simp) _)
  · have h2i : ¬ (s.size : Int) < 2 := by omega
    have k0 : 0 < s.size := by omega
    have k1 : 1 < s.size := by omega
    have e0 := byteAt_of s 0 k0
    have e1 := byteAt_of s 1 k1
    have l1 := byteAt_lt s 1
    by_cases hf : byteAt s 0 ≠ 72 ∨ byteAt s 1 < 1 ∨ 8 < byteAt s 1
    · have hr : decode s = (noBeat, 3) := by unfold decode; rw [if_neg h2, if_pos hf]
      have Hr := Lib.hid hr
      clear hr
      go_enter Try.func36, Try.ntmps36
      go_wp2_with fail
      all_goals
        rw [Hr.out]
        refine bodyPost_ret (v := decV (noBeat, 3)) (by simp [results, Try.results36, go_sem, decV, noBeat]) rfl ⟨rfl, ?_⟩
        repeat (first | exact (Below.refl _ _).alloc (Nat.le_refl _) _ | refine Below.setCell ?_ (by simp) _)
    · obtain ⟨k, hk⟩ : ∃ k, byteAt s 1 = k := ⟨_, rfl⟩
      have hk1 : s[1].toNat = k := by omega
      have hk0 : s[0].toNat = 72 := by omega
      have hkb : 1 ≤ k ∧ k ≤ 8 := by omega
      have hdec : decode s = if s.size < 14 + k then (noBeat, 8) else if 14 + k < s.size then (noBeat, 3) else if (crcOf (s.extract 0 (10 + k))).1 ≠ number (s.extract (10 + k) s.size) then (noBeat, 9)
          else if beatCheck (decBeat s k) ≠ 0 then (noBeat, 3) else (decBeat s k, 0) := by
        unfold decode
        rw [if_neg h2, if_neg hf, hk]
      have Hdec := Lib.hid hdec
      clear hdec hf e0 e1 l1 hk
      have ki1 : (1 : Int) ≤ (k : Int) := by omega
      have ki8 : (k : Int) ≤ 8 := by omega
      obtain ⟨n14, h14⟩ : ∃ n, n = 14 + k := ⟨_, rfl⟩
      have hw14 : IntKind.i64.wrap (14 + (k : Int)) = (n14 : Int) := by rw [IntWalk.i64_in _ (by omega)]; omega
      have H14 := Lib.hid h14
      clear h14
      by_cases ha : s.size < n14
      · have hr : decode s = (noBeat, 8) := by rw [Hdec.out, if_pos (by have := H14.out; omega)]
        have Hr := Lib.hid hr
        have ha2 : (s.size : Int) < (n14 : Int) := by omega
        clear hr
        go_enter Try.func36, Try.ntmps36
        go_wp2_with fail
        rw [Hr.out]
        refine bodyPost_ret (v := decV (noBeat, 8)) (by simp [results, Try.results36, go_sem, decV, noBeat]) rfl ⟨rfl, ?_⟩
        repeat (first | exact (Below.refl _ _).alloc (Nat.le_refl _) _ | refine Below.setCell ?_ (by simp) _)
      · have ha2 : ¬ (s.size : Int) < (n14 : Int) := by omega
        by_cases hb : n14 < s.size
        · have hr : decode s = (noBeat, 3) := by rw [Hdec.out, if_neg (by have := H14.out; omega), if_pos (by have := H14.out; omega)]
          have Hr := Lib.hid hr
          have hb2 : (n14 : Int) < (s.size : Int) := by omega
          clear hr
          go_enter Try.func36, Try.ntmps36
          go_wp2_with fail
          rw [Hr.out]
          refine bodyPost_ret (v := decV (noBeat, 3)) (by simp [results, Try.results36, go_sem, decV, noBeat]) rfl ⟨rfl, ?_⟩
          repeat (first | exact (Below.refl _ _).alloc (Nat.le_refl _) _ | refine Below.setCell ?_ (by simp) _)
        · have hb2 : ¬ (n14 : Int) < (s.size : Int) := by omega
          obtain ⟨n10, h10⟩ : ∃ n, n = 10 + k := ⟨_, rfl⟩
          obtain ⟨n2, h2'⟩ : ∃ n, n = 2 + k := ⟨_, rfl⟩
          obtain ⟨n6, h6⟩ : ∃ n, n = 6 + k := ⟨_, rfl⟩
          have hw10 : IntKind.i64.wrap (10 + (k : Int)) = (n10 : Int) := by rw [IntWalk.i64_in _ (by omega)]; omega
          have hw2 : IntKind.i64.wrap (2 + (k : Int)) = (n2 : Int) := by rw [IntWalk.i64_in _ (by omega)]; omega
          have hw6 : IntKind.i64.wrap (6 + (k : Int)) = (n6 : Int) := by rw [IntWalk.i64_in _ (by omega)]; omega
          have hsz : n10 + 4 = s.size ∧ n2 + 12 = s.size ∧ n6 + 8 = s.size := by have := H14.out; omega
          rw [← h10] at Hdec
          have q10 : n10 ≤ s.size := by omega
          have q2 : n2 ≤ s.size := by omega
          have q2' : 2 ≤ n2 := by omega
          have q6 : n6 ≤ s.size := by omega
          have i10 : (n10 : Int) ≤ (s.size : Int) := by omega
          have i2 : (n2 : Int) ≤ (s.size : Int) := by omega
          have i2' : (2 : Int) ≤ (n2 : Int) := by omega
          have i6 : (n6 : Int) ≤ (s.size : Int) := by omega
          have z10 : 4 ≤ (s.extract n10 s.size).size := by simp; omega
          have z2 : 4 ≤ (s.extract n2 s.size).size := by simp; omega
          have z6 : 4 ≤ (s.extract n6 s.size).size := by simp; omega
          have Hsz := Lib.hid hsz
          have H10 := Lib.hid h10
          have H2 := Lib.hid h2'
          have H6 := Lib.hid h6
          clear hsz h10 h2' h6
          go_enter Try.func36, Try.ntmps36
          go_wp2_with (first
            | (go_at_call 97; refine (crc_any _ _).mono ?_; rintro e w1 ⟨rfl, hb1⟩; obtain ⟨c1, f1, z1, hw1⟩ := keep1 hb1; have c10 := c1 0; have c11 := c1 1; have c12 := c1 2; have f10 := f1 0; have f11 := f1 1; have f12 := f1 2; simp at c10 c11 c12; clear c1 f1 hb1)
            | (go_at_call 98; refine (number_any _ _ z10).mono ?_; rintro e w2 ⟨rfl, rfl⟩)
            | fail)
          · have hne : ((crcOf (s.extract 0 n10)).fst != number (s.extract n10 s.size)) = true := by assumption
            have hr : decode s = (noBeat, 9) := by rw [Hdec.out, if_neg (by have := H14.out; omega), if_neg (by have := H14.out; omega), if_pos (by simpa using hne)]
            rw [hr]
            refine bodyPost_ret (v := decV (noBeat, 9)) (by simp [results, Try.results36, go_sem, decV, noBeat, c10, c11, c12]) rfl ⟨rfl, ?_⟩
            repeat (first | exact hw1 | refine Below.setCell ?_ (by simp) _ | refine Below.drew ?_)
          · have hne : ((crcOf (s.extract 0 n10)).fst != number (s.extract n10 s.size)) = false := by assumption
            have hr : decode s = if beatCheck ⟨s.extract 2 n2, number (s.extract n2 s.size), number (s.extract n6 s.size)⟩ ≠ 0 then (noBeat, 3) else (⟨s.extract 2 n2, number (s.extract n2 s.size), number (s.extract n6 s.size)⟩, 0) := by
              rw [Hdec.out, if_neg (by have := H14.out; omega), if_neg (by have := H14.out; omega), if_neg (by simpa using hne), H2.out, H6.out]
              rfl
            have Hr := Lib.hid hr
            clear hr
            go_region_with (go_at_call 98; refine (number_any _ _ ?q).mono ?_; (case q => first | exact z2 | exact z6); rintro e w2 ⟨rfl, rfl⟩)
            all_goals
              go_wp2_with (go_at_call 89; refine (bcheck_any ⟨s.extract 2 n2, number (s.extract n2 s.size), number (s.extract n6 s.size)⟩ _).mono ?_; rintro e w5 ⟨rfl, hb5⟩; have hbb : Below w1.heap.size w1 w5 := Below.trans (by repeat (first | exact (Below.refl _ _).alloc (Nat.le_refl _) _ | refine Below.drew ?_)) (hb5.mono (by simp)); have hbw := hw1.trans (hbb.mono hw1.size); have d10 := bsome hbb c10; have d11 := bsome hbb c11; have d12 := bsome hbb c12; have e10 := (hbb.frozen (p := ⟨w.heap.size, 0, none⟩) z1).trans f10; have e11 := (hbb.frozen (p := ⟨w.heap.size, 1, none⟩) z1).trans f11; have e12 := (hbb.frozen (p := ⟨w.heap.size, 2, none⟩) z1).trans f12; have g0 := (hb5.cell (p := ⟨w1.heap.size, 0, none⟩) (by simp)); have g1 := (hb5.cell (p := ⟨w1.heap.size, 1, none⟩) (by simp)); have g2 := (hb5.cell (p := ⟨w1.heap.size, 2, none⟩) (by simp)); simp at g0 g1 g2; have Hbw := Lib.hid hbw; clear hb5 hbb hbw)
              · have hq : (beatCheck ⟨s.extract 2 n2, number (s.extract n2 s.size), number (s.extract n6 s.size)⟩ != 0) = true := by assumption
                rw [Hr.out, if_pos (by simpa using hq)]
                refine bodyPost_ret (v := decV (noBeat, 3)) (by simp [results, Try.results36, go_sem, decV, noBeat, d10, d11, d12]) rfl ⟨rfl, ?_⟩
                repeat (first | exact Hbw.out | refine Below.setCell ?_ (by simp) _)
              · have hq : (beatCheck ⟨s.extract 2 n2, number (s.extract n2 s.size), number (s.extract n6 s.size)⟩ != 0) = false := by assumption
                rw [Hr.out, if_neg (by simpa using hq)]
                refine bodyPost_ret (v := decV (⟨s.extract 2 n2, number (s.extract n2 s.size), number (s.extract n6 s.size)⟩, 0)) (by simp [results, Try.results36, go_sem, decV, d10, d11, d12]) rfl ⟨rfl, ?_⟩
                repeat (first | exact Hbw.out | refine Below.setCell ?_ (by simp) _)

end Go.Proofs.Ytmclalhjnjghnaa

namespace Go.Proofs.Ytmclalhjnjghnaa
open Go.RowKit Hw

theorem bytes_ext {a b : ByteArray} (h : a.data.toList = b.data.toList) : a = b := ByteArray.ext (Array.toList_inj.1 h)

theorem text_list (b : Beat) (c : Int) : (plain b ++ four c).data.toList = 72 :: UInt8.ofNat b.id.size :: (b.id.data.toList ++ ((four b.inc).data.toList ++ ((four b.seq).data.toList ++ (four c).data.toList))) := by
  unfold plain
  simp only [ByteArray.data_append, Array.toList_append, strOfNums_data]
  simp

theorem number_app {s a : ByteArray} {l : List UInt8} (h : s.data.toList = a.data.toList ++ l) (ha : a.size = 4) : number s = number a := by
  have hl : a.data.toList.length = 4 := by simpa using ha
  have e : ∀ k, k < 4 → byteAt s k = byteAt a k := by
    intro k hk
    unfold byteAt
    rw [h, List.getD_eq_getElem?_getD, List.getD_eq_getElem?_getD, List.getElem?_append_left (by omega)]
  unfold number
  rw [e 0 (by omega), e 1 (by omega), e 2 (by omega), e 3 (by omega)]

theorem decode_encode {b : Beat} (h : beatCheck b = 0) : decode (encode b).1 = (b, 0) := by
  obtain ⟨h1, h2, h3, h4, h5⟩ := beat_parts h
  obtain ⟨k1, k8⟩ := id_size h1
  have hE : (encode b).1 = plain b ++ four (crcOf (plain b)).1 := by unfold encode; rw [if_neg (by simp [h])]
  rw [hE]
  generalize hc : (crcOf (plain b)).1 = c
  have hcin := crcOf_in (plain b)
  rw [hc] at hcin
  have hL := text_list b c
  have hps := plain_size b
  have h4c := four_size c
  have hsz : (plain b ++ four c).size = 14 + b.id.size := by rw [ByteArray.size_append, hps, h4c]; omega
  generalize hS : plain b ++ four c = S at hL hsz ⊢
  have hid : b.id.data.toList.length = b.id.size := by simp
  have hli : (four b.inc).data.toList.length = 4 := by have := four_size b.inc; simpa using this
  have hls : (four b.seq).data.toList.length = 4 := by have := four_size b.seq; simpa using this
  have b0 : byteAt S 0 = 72 := by unfold byteAt; rw [hL]; rfl
  have b1 : byteAt S 1 = b.id.size := by
    unfold byteAt
    rw [hL]
    show (UInt8.ofNat b.id.size).toNat = _
    simp
    omega
  have x0 : S.extract 0 (10 + b.id.size) = plain b := by
    rw [← hS]
    refine bytes_ext ?_
    rw [Lib.extract_data, ByteArray.data_append, Array.toList_append]
    have : (plain b).data.toList.length = 10 + b.id.size := by simpa using hps
    simp [this]
  have x1 : number (S.extract (10 + b.id.size) S.size) = c := by
    rw [number_app (a := four c) (l := []) ?_ h4c, number_four c hcin]
    rw [Lib.extract_data, hL, hsz, List.append_nil]
    have : (14 + b.id.size - (10 + b.id.size)) = 4 := by omega
    rw [this, show 10 + b.id.size = (b.id.size + 8) + 1 + 1 by omega, List.drop_succ_cons, List.drop_succ_cons, List.drop_append, List.drop_append, List.drop_append, List.drop_of_length_le (by omega), List.drop_of_length_le (by omega), List.drop_of_length_le (by omega)]
    simp [hid, hli, hls]
    have : (four c).data.toList.length = 4 := by simpa using h4c
    exact List.take_of_length_le (by omega)
  have x2 : S.extract 2 (2 + b.id.size) = b.id := by
    refine bytes_ext ?_
    rw [Lib.extract_data, hL, show 2 + b.id.size - 2 = b.id.size by omega, List.drop_succ_cons, List.drop_succ_cons, List.drop_zero, List.take_append_of_le_length (by omega), List.take_of_length_le (by omega)]
  have x3 : number (S.extract (2 + b.id.size) S.size) = b.inc := by
    rw [number_app (a := four b.inc) (l := (four b.seq).data.toList ++ (four c).data.toList) ?_ (four_size _), number_four _ (by omega)]
    rw [Lib.extract_data, hL, hsz, show 2 + b.id.size = b.id.size + 1 + 1 by omega, List.drop_succ_cons, List.drop_succ_cons, List.drop_append, List.drop_of_length_le (by omega), hid, Nat.sub_self, List.drop_zero, List.nil_append]
    exact List.take_of_length_le (by
      have : (four c).data.toList.length = 4 := by simpa using h4c
      simp only [List.length_append]
      omega)
  have x4 : number (S.extract (6 + b.id.size) S.size) = b.seq := by
    rw [number_app (a := four b.seq) (l := (four c).data.toList) ?_ (four_size _), number_four _ (by omega)]
    rw [Lib.extract_data, hL, hsz, show 6 + b.id.size = (b.id.size + 4) + 1 + 1 by omega, List.drop_succ_cons, List.drop_succ_cons, List.drop_append, List.drop_of_length_le (by omega), List.drop_append, List.drop_of_length_le (by omega), hid, hli,
      show b.id.size + 4 - b.id.size - 4 = 0 by omega, List.drop_zero, List.nil_append, List.nil_append]
    exact List.take_of_length_le (by
      have : (four c).data.toList.length = 4 := by simpa using h4c
      simp only [List.length_append]
      omega)
  have hd : decBeat S b.id.size = b := by
    unfold decBeat
    rw [x2, x3, x4]
  unfold decode
  rw [b0, b1, if_neg (by omega), if_neg (by omega), if_neg (by omega), if_neg (by omega), x0, x1, hc, if_neg (by simp), hd, if_neg (by simp [h])]

end Go.Proofs.Ytmclalhjnjghnaa
