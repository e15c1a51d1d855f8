/- Contracts of crc.table and crc.Of. -/
import Derived.Test.YtmclalhjnjghnaaMem
import Derived.Laws.Tables
import Derived.Laws.CopyOwn
import Derived.OpenShut
namespace Go.Proofs.Ytmclalhjnjghnaa
open Go.RowKit Hw

def crcStep (z : Int) : Int := if (bits BinOp.and IntKind.u32 z 1 == 1) = true then bits BinOp.xor IntKind.u32 (z / 2) 3988292384 else z / 2
def crcIt : Nat → Int → Int
  | 0, z => z
  | q + 1, z => crcStep (crcIt q z)
def crcTab (i : Nat) : Int := crcIt 8 i
def crcRow : Array Value := ((List.range 256).map fun i => Value.int .u32 (crcTab i)).toArray

theorem crcRow_size : crcRow.size = 256 := by simp [crcRow]
theorem crcRow_at (i : Nat) (h : i < 256) : crcRow[i]? = some (.int .u32 (crcTab i)) := by simp [crcRow, h]
theorem crcRow_one : crcRow.all (·.oneCell') = true := by
  rw [Array.all_eq_true_iff_forall_mem]
  intro v hv
  simp [crcRow] at hv
  obtain ⟨i, _, rfl⟩ := hv
  rfl
theorem crcStep_t {z : Int} (h : (bits BinOp.and IntKind.u32 z 1 == 1) = true) : bits BinOp.xor IntKind.u32 (z / 2) 3988292384 = crcStep z := by unfold crcStep; rw [if_pos h]
theorem crcStep_f {z : Int} (h : (bits BinOp.and IntKind.u32 z 1 == 1) = false) : z / 2 = crcStep z := by unfold crcStep; rw [if_neg (by simp [h])]

theorem zsize195 : Try.zeroCells195.size = 256 := by kernel_rfl
theorem info195 : (Try.prog.info? 195).map (·.size) = some 256 := by kernel_rfl

def TabAt (w wr : World) (k : Nat) : Prop :=
  Below w.heap.size w wr ∧ wr.heap[w.heap.size]? = some (.cells Try.zeroCells195 195 (0, 0)) ∧ ∃ cs : Array Value, wr.heap[w.heap.size + 1]? = some (.cells cs 195 (0, 0)) ∧ cs.size = 256 ∧ ∀ j, j < k → cs[j]? = some (.int .u32 (crcTab j))

theorem TabAt.start (w : World) : TabAt w ((w.alloc (.cells Try.zeroCells195 195)).alloc (.cells Try.zeroCells195 195)) 0 := by
  refine ⟨((Below.refl _ _).alloc (Nat.le_refl _) _).alloc (by simp) _, heap_alloc2_old _ _ _, _, heap_alloc2_new _ _ _, zsize195, fun j hj => by omega⟩

theorem TabAt.cell {w wr : World} {k : Nat} (h : TabAt w wr k) (hk : k < 256) : (∃ v, wr.cell? ⟨w.heap.size + 1, k, none⟩ = some v) ∧ wr.frozen? ⟨w.heap.size + 1, k, none⟩ = false := by
  obtain ⟨h1, h2, cs, h3, h4, h5⟩ := h
  refine ⟨⟨cs[k]'(by omega), ?_⟩, frozen_of_row _ _ _ _ _ h3⟩
  rw [cell_of_row _ _ _ _ _ _ h3, Array.getElem?_eq_getElem (by omega)]

theorem TabAt.step {w wr : World} {k : Nat} (h : TabAt w wr k) (hk : k < 256) : TabAt w (wr.setCell ⟨w.heap.size + 1, k, none⟩ (.int .u32 (crcTab k))) (k + 1) := by
  obtain ⟨h1, h2, cs, h3, h4, h5⟩ := h
  refine ⟨h1.setCell (by simp) _, (heap_setCell_other _ _ _ _ (by simp)).trans h2, _, heap_setCell_same _ _ _ _ _ _ h3, by simp [h4], fun j hj => ?_⟩
  by_cases e : j = k
  · subst e
    simp [h4, hk]
  · rw [Array.getElem?_setIfInBounds_ne (by omega)]
    exact h5 j (by omega)

theorem TabAt.full {w wr : World} (h : TabAt w wr 256) : wr.heap[w.heap.size + 1]? = some (.cells crcRow 195 (0, 0)) := by
  obtain ⟨h1, h2, cs, h3, h4, h5⟩ := h
  have : cs = crcRow := by
    apply Array.ext
    · rw [h4, crcRow_size]
    · intro i hi hi2
      have e1 := h5 i (by omega)
      have e2 := crcRow_at i (by omega)
      rw [Array.getElem?_eq_getElem hi] at e1
      rw [Array.getElem?_eq_getElem hi2] at e2
      exact Option.some.inj (e1.trans e2.symm)
  rw [← this]
  exact h3

set_option maxRecDepth 100000 in
set_option maxHeartbeats 2000000 in
theorem table_any (w : World) : Calls Try.prog 135 #[] w fun e w' => e = .returned (.agg crcRow) ∧ Below w.heap.size w w' := by
  go_enter Try.func135, Try.ntmps135
  go_wp2_with fail
  go_loopw [2, 3, 4] (fun _ _ i wr => ∃ k : Nat, k ≤ 256 ∧ i = .int .i64 k ∧ Hid (TabAt w wr k)) (fun _ _ i _ => 256 - (intOf i).toNat)
  case atStart => exact ⟨0, by omega, rfl, TabAt.start w⟩
  case round =>
    obtain ⟨k, hk, rfl, HT⟩ := hrel
    by_cases hlt : k < 256
    · have hk3 : (k : Int) < 256 := by omega
      have hk0 : (0 : Int) ≤ k := by omega
      have hkw : IntKind.i64.wrap ((k : Int) + 1) = (k : Int) + 1 := IntWalk.i64_in _ (by omega)
      have hkc : IntKind.u32.wrap (k : Int) = (k : Int) := by simp [IntKind.wrap, IntKind.signed, IntKind.bits]; omega
      obtain ⟨⟨v0, hc⟩, hf⟩ := HT.out.cell hlt
      go_wp2_with fail
      go_loopw [3, 9] (fun c i wx => ∃ q : Nat, q ≤ 8 ∧ i = .int .i64 q ∧ c = .int .u32 (crcIt q k) ∧ Hid (wx = wr)) (fun _ i _ => 8 - (intOf i).toNat)
      case atStart =>
        exact ⟨0, by omega, rfl, by simp [crcIt], rfl⟩
      case round =>
        rename_i wr0
        obtain ⟨q, hq, rfl, rfl, hw⟩ := hrel
        by_cases hlq : q < 8
        · have hq3 : (q : Int) < 8 := by omega
          generalize hz : crcIt q k = z
          have Hz := Lib.hid hz
          clear hz
          go_wp2_with fail
          · rename_i hb
            have e := (crcStep_t hb).trans (show crcStep z = crcIt (q + 1) k by rw [← Hz.out]; rfl)
            go_roundw
            case rel => exact ⟨q + 1, by omega, by go_num, by rw [e], hw⟩
            case measure => simp [intOf]; omega
          · rename_i hb
            have e := (crcStep_f hb).trans (show crcStep z = crcIt (q + 1) k by rw [← Hz.out]; rfl)
            go_roundw
            case rel => exact ⟨q + 1, by omega, by go_num, by rw [e], hw⟩
            case measure => simp [intOf]; omega
        · have hq8 : q = 8 := by omega
          subst hq8
          obtain rfl := hw.out
          go_wp2_with fail
          go_roundw
          case rel =>
            exact ⟨k + 1, by omega, by go_num, HT.out.step hlt⟩
          case measure => simp [intOf]; omega
    · have hk8 : k = 256 := by omega
      subst hk8
      have h1 := HT.out.1
      have h2 := HT.out.2.1
      have h3 := HT.out.full
      have H1 := Lib.hid h1
      have H2 := Lib.hid h2
      have H3 := Lib.hid h3
      clear h1 h2 h3
      go_wp2_with (first
        | (refine wpList_load_row rfl 195 (.tmp 1) rfl (w.heap.size + 1) rfl 195 crcRow (0, 0) _ H3.out Try.underlying195 rfl (by rw [crcRow_size]; exact info195) ?_)
        | (refine wpList_store_row rfl 195 (.tmp 0) (.tmp 24) rfl w.heap.size crcRow rfl rfl 195 _ H2.out (by rw [crcRow_size]; exact info195) (by rw [crcRow_size]; exact zsize195) crcRow_one ?_)
        | fail)
      refine bodyPost_ret (v := .agg crcRow) (results_cell_row (by rfl) _ _ w.heap.size 195 crcRow (0, 0) _ (by rfl) (setRow_heap _ _ _ _ _ _ H2.out) Try.underlying195 rfl (by rw [crcRow_size]; exact info195)) rfl ⟨rfl, below_setRow H1.out (Nat.le_refl _) _⟩

/-- A byte taken into the sum. -/
def crcUpd (c : Int) (b : UInt8) : Int := bits BinOp.xor IntKind.u32 (c / 256) (crcTab (bits BinOp.xor IntKind.u8 (c % 256) b.toNat).toNat)
def crcUpto (s : ByteArray) (k : Nat) : Int := (s.data.toList.take k).foldl crcUpd 4294967295

theorem crcUpto_succ (s : ByteArray) (k : Nat) (h : k < s.size) : crcUpto s (k + 1) = crcUpd (crcUpto s k) s[k] := by
  unfold crcUpto
  have e : s.data.toList[k]? = some s[k] := by
    rw [Array.getElem?_toList]
    exact Array.getElem?_eq_getElem h
  rw [List.take_add_one, e, List.foldl_append]
  rfl

def crcSum (s : ByteArray) : Int := bits BinOp.xor IntKind.u32 IntKind.u32.max (crcUpto s s.size)
/-- 'crc.Of'. -/
def crcOf (s : ByteArray) : Int × Int := if 20000 < s.size then (0, 2) else (crcSum s, 0)

theorem crcSum_in (s : ByteArray) : 0 ≤ crcSum s ∧ crcSum s ≤ 4294967295 := bounds_u32 (wf_bits _ _ _ _)
theorem crcOf_in (s : ByteArray) : 0 ≤ (crcOf s).1 ∧ (crcOf s).1 ≤ 4294967295 := by
  unfold crcOf
  split
  · simp
  · exact crcSum_in s

set_option maxRecDepth 100000 in
set_option maxHeartbeats 2000000 in
theorem crc_any (s : ByteArray) (w : World) : Calls Try.prog 97 #[.string s] w fun e w' => e = .returned (.tuple #[.int .i64 (crcOf s).1, .int .i64 (crcOf s).2]) ∧ Below w.heap.size w w' := by
  by_cases hs : 20000 < s.size
  · have hs2 : (20000 : Int) < (s.size : Int) := by omega
    go_enter Try.func97, Try.ntmps97
    go_wp2_with fail
    go_ret2
    exact ⟨by unfold crcOf; rw [if_pos hs]; rfl, Below.refl _ _⟩
  · have hs2 : ¬ (20000 : Int) < (s.size : Int) := by omega
    go_enter Try.func97, Try.ntmps97
    go_wp2_with (first
      | (go_at_call 135; refine (table_any _).mono ?_; rintro e w1 ⟨rfl, hb1⟩; have Hb1 := Lib.hid hb1; clear hb1)
      | (refine wpList_store_row rfl 195 (.tmp 4) (.tmp 10) rfl w1.heap.size crcRow rfl rfl 195 _ (heap_alloc_new w1 _) (by rw [crcRow_size]; exact info195) (by rw [crcRow_size]; exact zsize195) crcRow_one ?_)
      | fail)
    have hrow := setRow_heap (w1.alloc (.cells Try.zeroCells195 195)) w1.heap.size Try.zeroCells195 crcRow 195 (0, 0) (heap_alloc_new w1 _)
    have hbel : Below w.heap.size w ((w1.alloc (.cells Try.zeroCells195 195)).setRow w1.heap.size crcRow) := below_setRow (Hb1.out.alloc Hb1.out.size _) Hb1.out.size _
    generalize (w1.alloc (.cells Try.zeroCells195 195)).setRow w1.heap.size crcRow = W at hrow hbel ⊢
    have Hrow := Lib.hid hrow
    have Hbel := Lib.hid hbel
    clear hrow hbel
    go_loopw [5, 6, 13] (fun c _ i wx => ∃ k : Nat, k ≤ s.size ∧ i = .int .i64 k ∧ c = .int .u32 (crcUpto s k) ∧ Hid (wx = W)) (fun _ _ i _ => s.size - (intOf i).toNat)
    case atStart => exact ⟨0, by omega, rfl, rfl, rfl⟩
    case round =>
      obtain ⟨k, hk, rfl, rfl, hW⟩ := hrel
      obtain rfl := hW.out
      by_cases hlt : k < s.size
      · have hk3 : (k : Int) < (s.size : Int) := by omega
        have hk0 : (0 : Int) ≤ k := by omega
        have hkw : IntKind.i64.wrap ((k : Int) + 1) = (k : Int) + 1 := IntWalk.i64_in _ (by omega)
        have hnext := crcUpto_succ s k hlt
        have Hn := Lib.hid hnext
        clear hnext
        generalize crcUpto s k = z at Hn ⊢
        have hz := bounds_u8 (wf_bits .xor .u8 (z % 256) (s[k].toNat : Int))
        have hz2 : 0 ≤ bits .xor .u8 (z % 256) (s[k].toNat : Int) ∧ bits .xor .u8 (z % 256) (s[k].toNat : Int) < 256 := by omega
        have hc : wr.cell? ⟨w1.heap.size, (bits .xor .u8 (z % 256) (s[k].toNat : Int)).toNat, none⟩ = some (.int .u32 (crcTab (bits .xor .u8 (z % 256) (s[k].toNat : Int)).toNat)) := by
          rw [cell_of_row _ _ _ _ _ _ Hrow.out]
          exact crcRow_at _ (by omega)
        go_wp2_with fail
        go_roundw
        case rel => exact ⟨k + 1, by omega, by go_num, by rw [Hn.out]; rfl, trivial⟩
        case measure => simp [intOf]; omega
      · have hks : k = s.size := by omega
        subst hks
        go_wp2_with fail
        go_ret2
        refine ⟨?_, Hbel.out⟩
        have e : wrap64 (bits BinOp.xor IntKind.u32 IntKind.u32.max (crcUpto s s.size)) = crcSum s := by
          have := crcSum_in s
          show wrap64 (crcSum s) = crcSum s
          exact IntWalk.wrap64_in _ (by omega)
        unfold crcOf
        rw [if_neg hs, ← e]
        rfl

end Go.Proofs.Ytmclalhjnjghnaa
