/- The contracts of the small functions: Within, win.Val, beat.Id, gate.Check, win.List, win.Check, beat.Check, gate.Take. -/
import Derived.Test.YtmclalhjnjghnaaMem
namespace Go.Proofs.Ytmclalhjnjghnaa
open Go.RowKit Hw

set_option maxHeartbeats 400000 in
theorem val_any (n : Int) (w : World) :
    Calls Try.prog 84 #[.int .i64 n] w fun e w' => e = .returned (.bool (valOk n)) ∧ w = w' := by
  go_enter Try.func84, Try.ntmps84
  go_wp2
  all_goals
    go_ret
    exact ⟨ret_bool (by simp [valOk] <;> omega), rfl⟩

set_option maxHeartbeats 400000 in
theorem gcheck_any (g : Gate) (w : World) :
    Calls Try.prog 104 #[.agg #[.int .i64 g.inc, .int .i64 g.seq, .int .i64 g.drops]] w fun e w' => e = .returned (.int .i64 (gateCheck g)) ∧ Below w.heap.size w w' := by
  obtain ⟨i, s, d⟩ := g
  go_enter Try.func104, Try.ntmps104
  go_wp2
  all_goals
    go_ret
    exact ⟨ret_int (by simp_all [gateCheck] <;> omega), (Below.refl _ _).alloc (Nat.le_refl _) _⟩

theorem all_take_succ (s : ByteArray) (k : Nat) (h : k < s.size) (p : UInt8 → Bool) :
    (s.data.toList.take (k + 1)).all p = ((s.data.toList.take k).all p && p s[k]) := by
  rw [List.take_succ_eq_append_getElem (by simpa using h)]
  simp
  rfl

theorem not_all_of (l : List UInt8) (k : Nat) (h : k < l.length) (p : UInt8 → Bool) (hp : p l[k] = false) : l.all p = false := by
  rw [List.all_eq_false]
  exact ⟨l[k], List.getElem_mem h, by simp [hp]⟩

theorem toList_nil_of (s : ByteArray) (h : s.size = 0) : s.toList = [] := by
  have := ByteArray.toList_eq s
  rw [this]
  obtain ⟨⟨l⟩⟩ := s
  simpa [ByteArray.size] using h

theorem bad_id (s : ByteArray) (k : Nat) (h : k < s.size) (hb : ¬ (97 ≤ s[k].toNat ∧ s[k].toNat ≤ 122)) : idOk s = false := by
  have := not_all_of s.data.toList k (by simpa using h) (fun c => decide (97 ≤ c.toNat) && decide (c.toNat ≤ 122)) (by
    show (decide (97 ≤ (s[k]).toNat) && decide ((s[k]).toNat ≤ 122)) = false
    by_cases h1 : 97 ≤ s[k].toNat
    · have : ¬ s[k].toNat ≤ 122 := fun h2 => hb ⟨h1, h2⟩
      simp [this]
    · simp [h1])
  simp only [idOk, this, Bool.and_false]

set_option maxHeartbeats 400000 in
theorem id_any (s : ByteArray) (w : World) :
    Calls Try.prog 83 #[.string s] w fun e w' => e = .returned (.bool (idOk s)) ∧ w = w' := by
  by_cases h0 : s.size = 0
  · have hn : s.toList = [] := toList_nil_of s h0
    go_enter Try.func83, Try.ntmps83
    go_wp2
    go_ret
    exact ⟨ret_bool (by simp [idOk, h0]), rfl⟩
  · have hn : ¬ s.toList = [] := by
      intro h
      have := ByteArray.toList_eq s
      rw [h] at this
      apply h0
      show s.data.size = 0
      rw [← Array.length_toList, ← this]
      rfl
    have hn2 : s.toList.isEmpty = false := by simpa using hn
    by_cases h8 : 8 < s.size
    · go_enter Try.func83, Try.ntmps83
      go_wp2
      go_ret
      exact ⟨ret_bool (by simp [idOk]; intro _ h; omega), rfl⟩
    · have h8' : s.size ≤ 8 := by omega
      clear h8
      go_enter Try.func83, Try.ntmps83
      go_wp2
      go_loop [13] (fun i => ∃ k : Nat, k ≤ s.size ∧ i = .int .i64 k ∧ Hid ((s.data.toList.take k).all (fun c => decide (97 ≤ c.toNat) && decide (c.toNat ≤ 122)) = true)) (fun i => s.size - (intOf i).toNat)
      case atStart => exact ⟨0, Nat.zero_le _, rfl, by simp [Hid]⟩
      case round =>
        obtain ⟨k, hk, rfl, HH⟩ := hrel
        by_cases hlt : k < s.size
        · have hkk : (k : Int) < (s.size : Int) := by omega
          go_wp2
          · go_ret
            exact ⟨ret_bool (bad_id s k hlt (by omega)).symm, rfl⟩
          · go_round
            case rel => exact ⟨k + 1, by omega, by go_num, by
              show _ = true
              rw [all_take_succ s k hlt, HH.out]
              simp; omega⟩
            case measure => simp [intOf]; omega
          · go_ret
            exact ⟨ret_bool (bad_id s k hlt (by omega)).symm, rfl⟩
        · go_wp2
          go_ret
          exact ⟨ret_bool (by
            have := HH.out
            rw [List.take_of_length_le (by simp; omega)] at this
            simp only [idOk, this]
            simp; omega), rfl⟩


set_option maxHeartbeats 400000 in
theorem list1_any (n : Int) (w : World) :
    Calls Try.prog 137 #[.int .i64 n] w fun e w' => e = .returned (.bool (!valOk n)) ∧ w = w' := by
  go_enter Try.func137, Try.ntmps137
  go_wp2_with (go_at_call 84; refine (val_any _ _).mono ?_; rintro e w1 ⟨rfl, rfl⟩)
  go_ret
  exact ⟨rfl, rfl⟩

theorem any_take_succ (l : List Int) (k : Nat) (h : k < l.length) (p : Int → Bool) :
    (l.take (k + 1)).any p = ((l.take k).any p || p (l.getD k 0)) := by
  rw [List.take_succ_eq_append_getElem h, List.any_append]
  simp [List.getD_eq_getElem?_getD, h]

set_option maxHeartbeats 400000 in
theorem indexBad_any (A : Option Addr) (c : Nat) (l : List Int) (w : World) (h : Ints w A l) (hl : l.length ≤ 64) :
    Calls Try.prog 154 #[.slice A l.length c, .func (.func 137) #[] #[]] w fun e w' => (∃ i : Int, e = .returned (.int .i64 i) ∧ decide (0 ≤ i) = l.any (fun n => !valOk n)) ∧ w = w' := by
  go_enter Try.func154, Try.ntmps154
  go_wp2
  go_loop [8] (fun i => ∃ k : Nat, k ≤ l.length ∧ i = .int .i64 k ∧ Hid ((l.take k).any (fun n => !valOk n) = false)) (fun i => l.length - (intOf i).toNat)
  case atStart => exact ⟨0, Nat.zero_le _, rfl, by simp [Hid]⟩
  case round =>
    obtain ⟨k, hk, rfl, HH⟩ := hrel
    by_cases hlt : k < l.length
    · obtain ⟨b, off, rfl, hc⟩ := h (by omega)
      have hck := hc k hlt
      clear hc
      have hkk : (k : Int) < (l.length : Int) := by omega
      go_wp2_with (go_at_call 137; refine (list1_any _ _).mono ?_; rintro e w1 ⟨rfl, rfl⟩)
      · have hbad : (!valOk l[k]) = true := by assumption
        go_ret
        exact ⟨⟨k, rfl, by
          rw [List.any_eq_true.2 ⟨l[k], List.getElem_mem hlt, hbad⟩]
          simp⟩, rfl⟩
      · have hgood : (!valOk l[k]) = false := by assumption
        go_round
        case rel => exact ⟨k + 1, by omega, by go_num, by
          show _ = false
          rw [any_take_succ l k hlt, HH.out]
          simpa [List.getD_eq_getElem?_getD, hlt] using hgood⟩
        case measure => simp [intOf]; omega
    · go_wp2
      go_ret
      exact ⟨⟨-1, rfl, by
        have := HH.out
        rw [List.take_of_length_le (by omega)] at this
        rw [this]; rfl⟩, rfl⟩

end Go.Proofs.Ytmclalhjnjghnaa
