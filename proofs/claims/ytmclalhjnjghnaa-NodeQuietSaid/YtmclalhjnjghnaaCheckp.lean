/- The contract of peers.Check. -/
import Derived.Test.YtmclalhjnjghnaaLeafb
import Derived.BigQuiet
import Derived.Deep.QuietTactic
namespace Go.Proofs.Ytmclalhjnjghnaa
open Go.RowKit Hw

theorem chkFrom_step (prev : Option ByteArray) (l : List Peer) (k : Nat) (h : k < l.length) :
    chkFrom prev (l.drop k) = if chk1 prev (l[k]) ≠ 0 then chk1 prev (l[k]) else chkFrom (some (l[k]).id) (l.drop (k + 1)) := by
  rw [List.drop_eq_getElem_cons h]
  rfl

def prevOf (l : List Peer) (k : Nat) : Option ByteArray := if k = 0 then none else (l[k-1]?).map (·.id)

theorem prevOf_succ (l : List Peer) (k : Nat) (h : k < l.length) : prevOf l (k + 1) = some (l[k]).id := by
  simp [prevOf, h]

/-- The rest of the list is still to be looked at. -/
def Still (l : List Peer) (k : Nat) : Prop := peersCheck l = chkFrom (prevOf l k) (l.drop k)

theorem Still.zero {l : List Peer} (h : ¬ 6 < l.length) : Still l 0 := by simp [Still, peersCheck, h, prevOf]
theorem Still.next {l : List Peer} {k : Nat} (h : Still l k) (hk : k < l.length) (h1 : chk1 (prevOf l k) (l[k]) = 0) : Still l (k + 1) := by
  unfold Still at h ⊢
  rw [h, chkFrom_step _ _ _ hk, h1, prevOf_succ _ _ hk]
  simp
theorem Still.bad {l : List Peer} {k : Nat} (h : Still l k) (hk : k < l.length) (h1 : chk1 (prevOf l k) (l[k]) ≠ 0) : peersCheck l = chk1 (prevOf l k) (l[k]) := by
  unfold Still at h
  rw [h, chkFrom_step _ _ _ hk, if_pos h1]
theorem Still.done {l : List Peer} {k : Nat} (h : Still l k) (hk : l.length ≤ k) : peersCheck l = 0 := by
  unfold Still at h
  rw [h, List.drop_eq_nil_of_le hk]
  cases prevOf l k <;> rfl

theorem chk1_id {prev : Option ByteArray} {p : Peer} (h1 : (!idOk p.id) = true) : chk1 prev p = 3 := by
  unfold chk1; rw [if_pos (by simpa using h1)]
theorem chk1_gate {prev : Option ByteArray} {p : Peer} (h1 : (!idOk p.id) = false) (h2 : (gateCheck p.gate != 0) = true) : chk1 prev p = gateCheck p.gate := by
  unfold chk1; rw [if_neg (by simpa using h1), if_pos (by simpa using h2)]
theorem chk1_win {prev : Option ByteArray} {p : Peer} (h1 : (!idOk p.id) = false) (h2 : (gateCheck p.gate != 0) = false) (h3 : (winCheck p.cap p.vals != 0) = true) :
    chk1 prev p = winCheck p.cap p.vals := by
  unfold chk1; rw [if_neg (by simpa using h1), if_neg (by simpa using h2), if_pos (by simpa using h3)]
theorem chk1_last {prev : Option ByteArray} {p : Peer} (h1 : (!idOk p.id) = false) (h2 : (gateCheck p.gate != 0) = false) (h3 : (winCheck p.cap p.vals != 0) = false)
    (h4 : p.last < 0 ∨ 1073741824 < p.last) : chk1 prev p = 1 := by
  unfold chk1; rw [if_neg (by simpa using h1), if_neg (by simpa using h2), if_neg (by simpa using h3), if_pos h4]
theorem chk1_prev {q : ByteArray} {p : Peer} (h1 : (!idOk p.id) = false) (h2 : (gateCheck p.gate != 0) = false) (h3 : (winCheck p.cap p.vals != 0) = false)
    (h4 : ¬ (p.last < 0 ∨ 1073741824 < p.last)) : chk1 (some q) p = if slt q p.id then 0 else 3 := by
  unfold chk1; rw [if_neg (by simpa using h1), if_neg (by simpa using h2), if_neg (by simpa using h3), if_neg h4]
theorem chk1_none {p : Peer} (h1 : (!idOk p.id) = false) (h2 : (gateCheck p.gate != 0) = false) (h3 : (winCheck p.cap p.vals != 0) = false)
    (h4 : ¬ (p.last < 0 ∨ 1073741824 < p.last)) : chk1 none p = 0 := by
  unfold chk1; rw [if_neg (by simpa using h1), if_neg (by simpa using h2), if_neg (by simpa using h3), if_neg h4]

theorem ne_of_bne {a b : Int} (h : (a != b) = true) : a ≠ b := by simpa using h

set_option maxHeartbeats 2000000 in
theorem check_any (A : Option Addr) (c : Nat) (l : List Peer) (w : World) (h : PeersR w A l) :
    Calls Try.prog 47 #[.slice A l.length c] w fun e w' => e = .returned (.int .i64 (peersCheck l)) ∧ Below w.heap.size w w' := by
  by_cases hl : 6 < l.length
  · go_enter Try.func47, Try.ntmps47
    go_wp2_with fail
    go_ret
    exact ⟨ret_int (by simp [peersCheck, hl]), Below.refl _ _⟩
  · have hlen : l.length ≤ 6 := by omega
    have HS0 := Lib.hid (Still.zero hl)
    clear hl
    go_enter Try.func47, Try.ntmps47
    go_wp2_with fail
    go_loopw [12] (fun i wr => ∃ k : Nat, k ≤ l.length ∧ i = .int .i64 k ∧ Below w.heap.size w wr ∧ Hid (Still l k)) (fun i _ => l.length - (intOf i).toNat)
    case atStart => exact ⟨0, Nat.zero_le _, rfl, Below.refl _ _, HS0⟩
    case round =>
      obtain ⟨k, hk, rfl, hb, HS⟩ := hrel
      clear HS0
      by_cases hlt : k < l.length
      · have hr := h.below hb
        obtain ⟨b, off, rfl, hp⟩ := hr (by omega)
        clear hr
        obtain ⟨A', c', h0, h1, h2, h3, h4, h5, h6, hi, -⟩ := hp k hlt
        have Hi := Lib.hid hi
        have Hb := Lib.hid hb
        have hkk : (k : Int) < (l.length : Int) := by omega
        clear hi hb
        by_cases hk0 : k = 0
        · have hd0 : decide (0 < k) = false := by simp; omega
          have Hk0 := Lib.hid hk0
          clear hk0 hp
          go_wp2_with (first
            | (go_at_call 83; refine (id_any _ _).mono ?_; rintro e w1 ⟨rfl, rfl⟩)
            | (go_at_call 104; refine (gcheck_any l[k].gate _).mono ?_; rintro e w2 ⟨rfl, hb2⟩; obtain ⟨c2, f2, z2, hw2⟩ := keep1 hb2)
            | (go_at_call 105; refine (wcheck_any _ A' c' l[k].vals _ ((Hi.out.below ((Below.refl _ _).alloc (Nat.le_refl _) _)).below hb2)).mono ?_; rintro e w3 ⟨rfl, hb3⟩; obtain ⟨c3, f3, z3, hw3⟩ := keep1 (hb2.trans (hb3.mono hb2.size)); clear hb2 hb3 c2 f2))
          · have x1 : (!idOk l[k].id) = true := by assumption
            go_ret
            exact ⟨ret_int (by rw [HS.out.bad hlt (by rw [chk1_id x1]; decide), chk1_id x1]), Hb.out.alloc Hb.out.size _⟩
          · have x1 : (!idOk l[k].id) = false := by assumption
            have x2 : (gateCheck l[k].gate != 0) = true := by assumption
            go_ret
            exact ⟨ret_int (by rw [HS.out.bad hlt (by rw [chk1_gate x1 x2]; exact ne_of_bne x2), chk1_gate x1 x2]), Hb.out.trans (hw2.mono Hb.out.size)⟩
          · have x1 : (!idOk l[k].id) = false := by assumption
            have x2 : (gateCheck l[k].gate != 0) = false := by assumption
            have x3 : (winCheck l[k].cap l[k].vals != 0) = true := by assumption
            go_ret
            exact ⟨ret_int (by rw [HS.out.bad hlt (by rw [chk1_win x1 x2 x3]; exact ne_of_bne x3), chk1_win x1 x2 x3]), Hb.out.trans (hw3.mono Hb.out.size)⟩
          · have x1 : (!idOk l[k].id) = false := by assumption
            have x2 : (gateCheck l[k].gate != 0) = false := by assumption
            have x3 : (winCheck l[k].cap l[k].vals != 0) = false := by assumption
            have x4 : l[k].last < 0 ∨ 1073741824 < l[k].last := by omega
            go_ret
            exact ⟨ret_int (by rw [HS.out.bad hlt (by rw [chk1_last x1 x2 x3 x4]; decide), chk1_last x1 x2 x3 x4]), Hb.out.trans (hw3.mono Hb.out.size)⟩
          · have x1 : (!idOk l[k].id) = false := by assumption
            have x2 : (gateCheck l[k].gate != 0) = false := by assumption
            have x3 : (winCheck l[k].cap l[k].vals != 0) = false := by assumption
            have x4 : ¬ (l[k].last < 0 ∨ 1073741824 < l[k].last) := by omega
            have hp0 : prevOf l k = none := by simp [prevOf, Hk0.out]
            have X := Lib.hid (HS.out.next hlt (by rw [hp0]; exact chk1_none x1 x2 x3 x4))
            clear x1 x2 x3 x4 hp0
            go_quiet (fail)
            go_wp2_with fail
            go_roundw
            case rel => exact ⟨k + 1, by omega, by go_num, below_drewN (Hb.out.trans (hw3.mono Hb.out.size)) _, X⟩
            case measure => simp [intOf]; omega
          · have x1 : (!idOk l[k].id) = false := by assumption
            have x2 : (gateCheck l[k].gate != 0) = false := by assumption
            have x3 : (winCheck l[k].cap l[k].vals != 0) = false := by assumption
            have x4 : l[k].last < 0 ∨ 1073741824 < l[k].last := by omega
            go_ret
            exact ⟨ret_int (by rw [HS.out.bad hlt (by rw [chk1_last x1 x2 x3 x4]; decide), chk1_last x1 x2 x3 x4]), Hb.out.trans (hw3.mono Hb.out.size)⟩
        · have hd0 : decide (0 < k) = true := by simp; omega
          obtain ⟨A0, c0, g0, g1, g2, g3, g4, g5, g6, gi, -⟩ := hp (k - 1) (by omega)
          have hp0 : prevOf l k = some l[k-1].id := by
            have : l[k-1]? = some (l[k-1]'(by omega)) := List.getElem?_eq_getElem (by omega)
            simp [prevOf, hk0, this]
          have Hp0 := Lib.hid hp0
          clear hp gi g1 g2 g3 g4 g5 g6 hp0
          go_wp2_with (first
            | (go_at_call 83; refine (id_any _ _).mono ?_; rintro e w1 ⟨rfl, rfl⟩)
            | (go_at_call 104; refine (gcheck_any l[k].gate _).mono ?_; rintro e w2 ⟨rfl, hb2⟩; obtain ⟨c2, f2, z2, hw2⟩ := keep1 hb2)
            | (go_at_call 105; refine (wcheck_any _ A' c' l[k].vals _ ((Hi.out.below ((Below.refl _ _).alloc (Nat.le_refl _) _)).below hb2)).mono ?_; rintro e w3 ⟨rfl, hb3⟩; obtain ⟨c3, f3, z3, hw3⟩ := keep1 (hb2.trans (hb3.mono hb2.size)); have g3 := bsome hw3 g0; clear hb2 hb3 c2 f2))
          · have x1 : (!idOk l[k].id) = true := by assumption
            go_ret
            exact ⟨ret_int (by rw [HS.out.bad hlt (by rw [chk1_id x1]; decide), chk1_id x1]), Hb.out.alloc Hb.out.size _⟩
          · have x1 : (!idOk l[k].id) = false := by assumption
            have x2 : (gateCheck l[k].gate != 0) = true := by assumption
            go_ret
            exact ⟨ret_int (by rw [HS.out.bad hlt (by rw [chk1_gate x1 x2]; exact ne_of_bne x2), chk1_gate x1 x2]), Hb.out.trans (hw2.mono Hb.out.size)⟩
          · have x1 : (!idOk l[k].id) = false := by assumption
            have x2 : (gateCheck l[k].gate != 0) = false := by assumption
            have x3 : (winCheck l[k].cap l[k].vals != 0) = true := by assumption
            go_ret
            exact ⟨ret_int (by rw [HS.out.bad hlt (by rw [chk1_win x1 x2 x3]; exact ne_of_bne x3), chk1_win x1 x2 x3]), Hb.out.trans (hw3.mono Hb.out.size)⟩
          · have x1 : (!idOk l[k].id) = false := by assumption
            have x2 : (gateCheck l[k].gate != 0) = false := by assumption
            have x3 : (winCheck l[k].cap l[k].vals != 0) = false := by assumption
            have x4 : l[k].last < 0 ∨ 1073741824 < l[k].last := by omega
            go_ret
            exact ⟨ret_int (by rw [HS.out.bad hlt (by rw [chk1_last x1 x2 x3 x4]; decide), chk1_last x1 x2 x3 x4]), Hb.out.trans (hw3.mono Hb.out.size)⟩
          · have x1 : (!idOk l[k].id) = false := by assumption
            have x2 : (gateCheck l[k].gate != 0) = false := by assumption
            have x3 : (winCheck l[k].cap l[k].vals != 0) = false := by assumption
            have x4 : ¬ (l[k].last < 0 ∨ 1073741824 < l[k].last) := by omega
            have X0 := Lib.hid (chk1_prev (q := l[k-1].id) x1 x2 x3 x4)
            clear x1 x2 x3 x4
            go_quiet (fail)
            go_wp2_with fail
            · have x5 : (!Op.bytesLess l[k - 1].id.toList l[k].id.toList) = true := by assumption
              have x6 : chk1 (some l[k-1].id) l[k] = 3 := by rw [X0.out, if_neg (by simpa [slt] using x5)]
              go_ret
              exact ⟨ret_int (by rw [HS.out.bad hlt (by rw [Hp0.out, x6]; decide), Hp0.out, x6]), below_drewN (Hb.out.trans (hw3.mono Hb.out.size)) _⟩
            · have x5 : (!Op.bytesLess l[k - 1].id.toList l[k].id.toList) = false := by assumption
              have x6 : chk1 (some l[k-1].id) l[k] = 0 := by rw [X0.out, if_pos (by simpa [slt] using x5)]
              have X := Lib.hid (HS.out.next hlt (by rw [Hp0.out]; exact x6))
              go_roundw
              case rel => exact ⟨k + 1, by omega, by go_num, below_drewN (Hb.out.trans (hw3.mono Hb.out.size)) _, X⟩
              case measure => simp [intOf]; omega
          · have x1 : (!idOk l[k].id) = false := by assumption
            have x2 : (gateCheck l[k].gate != 0) = false := by assumption
            have x3 : (winCheck l[k].cap l[k].vals != 0) = false := by assumption
            have x4 : l[k].last < 0 ∨ 1073741824 < l[k].last := by omega
            go_ret
            exact ⟨ret_int (by rw [HS.out.bad hlt (by rw [chk1_last x1 x2 x3 x4]; decide), chk1_last x1 x2 x3 x4]), Hb.out.trans (hw3.mono Hb.out.size)⟩
      · go_wp2_with fail
        go_ret
        exact ⟨ret_int (HS.out.done (by omega)).symm, hb⟩

end Go.Proofs.Ytmclalhjnjghnaa
