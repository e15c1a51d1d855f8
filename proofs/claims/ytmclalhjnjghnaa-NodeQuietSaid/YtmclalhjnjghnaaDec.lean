/- The contract of beat.Decode. -/
import Derived.Test.YtmclalhjnjghnaaEnc
import Derived.Lib.Strings
namespace Go.Proofs.Ytmclalhjnjghnaa
open Go.RowKit Hw

def noBeat : Beat := ⟨ByteArray.mk #[], 0, 0⟩
def decBeat (s : ByteArray) (k : Nat) : Beat := ⟨s.extract 2 (2 + k), number (s.extract (2 + k) s.size), number (s.extract (6 + k) s.size)⟩

/-- 'beat.Decode', of as many bytes as the second one says. -/
def decode (s : ByteArray) : Beat × Int :=
  if s.size < 2 then (noBeat, 8)
  else if byteAt s 0 ≠ 72 ∨ byteAt s 1 < 1 ∨ 8 < byteAt s 1 then (noBeat, 3)
  else if s.size < 14 + byteAt s 1 then (noBeat, 8)
  else if 14 + byteAt s 1 < s.size then (noBeat, 3)
  else if (crcOf (s.extract 0 (10 + byteAt s 1))).1 ≠ number (s.extract (10 + byteAt s 1) s.size) then (noBeat, 9)
  else if beatCheck (decBeat s (byteAt s 1)) ≠ 0 then (noBeat, 3)
  else (decBeat s (byteAt s 1), 0)

def decV (d : Beat × Int) : Value := .tuple #[.agg #[.string d.1.id, .int .i64 d.1.inc, .int .i64 d.1.seq], .int .i64 d.2]

set_option maxRecDepth 100000 in
set_option maxHeartbeats 4000000 in
theorem decode_any (s : ByteArray) (w : World) : Calls Try.prog 36 #[.string s] w fun e w' => e = .returned (decV (decode s)) ∧ Below w.heap.size w w' := by
  by_cases h2 : s.size < 2
  · have hr : decode s = (noBeat, 8) := by unfold decode; rw [if_pos h2]
    have Hr := Lib.hid hr
    have h2i : (s.size : Int) < 2 := by omega
    clear hr
    go_enter Try.func36, Try.ntmps36
    go_wp2_with fail
    rw [Hr.out]
    refine bodyPost_ret (v := decV (noBeat, 8)) (by simp [results, Try.results36, go_sem, decV, noBeat]) rfl ⟨rfl, ?_⟩
    repeat (first | exact (Below.refl _ _).alloc (Nat.le_refl _) _ | refine Below.setCell ?_ (by simp) _)
  · have h2i : ¬ (s.size : Int) < 2 := by omega
    have k0 : 0 < s.size := by omega
    have k1 : 1 < s.size := by omega
    have e0 := byteAt_of s 0 k0
    have e1 := byteAt_of s 1 k1
    have l1 := byteAt_lt s 1
    by_cases hf : byteAt s 0 ≠ 72 ∨ byteAt s 1 < 1 ∨ 8 < byteAt s 1
    · have hr : decode s = (noBeat, 3) := by unfold decode; rw [if_neg h2, if_pos hf]
      have Hr := Lib.hid hr
      clear hr
      go_enter Try.func36, Try.ntmps36
      go_wp2_with fail
      all_goals
        rw [Hr.out]
        refine bodyPost_ret (v := decV (noBeat, 3)) (by simp [results, Try.results36, go_sem, decV, noBeat]) rfl ⟨rfl, ?_⟩
        repeat (first | exact (Below.refl _ _).alloc (Nat.le_refl _) _ | refine Below.setCell ?_ (by simp) _)
    · obtain ⟨k, hk⟩ : ∃ k, byteAt s 1 = k := ⟨_, rfl⟩
      have hk1 : s[1].toNat = k := by omega
      have hk0 : s[0].toNat = 72 := by omega
      have hkb : 1 ≤ k ∧ k ≤ 8 := by omega
      have hdec : decode s = if s.size < 14 + k then (noBeat, 8) else if 14 + k < s.size then (noBeat, 3) else if (crcOf (s.extract 0 (10 + k))).1 ≠ number (s.extract (10 + k) s.size) then (noBeat, 9)
          else if beatCheck (decBeat s k) ≠ 0 then (noBeat, 3) else (decBeat s k, 0) := by
        unfold decode
        rw [if_neg h2, if_neg hf, hk]
      have Hdec := Lib.hid hdec
      clear hdec hf e0 e1 l1 hk
      have ki1 : (1 : Int) ≤ (k : Int) := by omega
      have ki8 : (k : Int) ≤ 8 := by omega
      obtain ⟨n14, h14⟩ : ∃ n, n = 14 + k := ⟨_, rfl⟩
      have hw14 : IntKind.i64.wrap (14 + (k : Int)) = (n14 : Int) := by rw [IntWalk.i64_in _ (by omega)]; omega
      have H14 := Lib.hid h14
      clear h14
      by_cases ha : s.size < n14
      · have hr : decode s = (noBeat, 8) := by rw [Hdec.out, if_pos (by have := H14.out; omega)]
        have Hr := Lib.hid hr
        have ha2 : (s.size : Int) < (n14 : Int) := by omega
        clear hr
        go_enter Try.func36, Try.ntmps36
        go_wp2_with fail
        rw [Hr.out]
        refine bodyPost_ret (v := decV (noBeat, 8)) (by simp [results, Try.results36, go_sem, decV, noBeat]) rfl ⟨rfl, ?_⟩
        repeat (first | exact (Below.refl _ _).alloc (Nat.le_refl _) _ | refine Below.setCell ?_ (by simp) _)
      · have ha2 : ¬ (s.size : Int) < (n14 : Int) := by omega
        by_cases hb : n14 < s.size
        · have hr : decode s = (noBeat, 3) := by rw [Hdec.out, if_neg (by have := H14.out; omega), if_pos (by have := H14.out; omega)]
          have Hr := Lib.hid hr
          have hb2 : (n14 : Int) < (s.size : Int) := by omega
          clear hr
          go_enter Try.func36, Try.ntmps36
          go_wp2_with fail
          rw [Hr.out]
          refine bodyPost_ret (v := decV (noBeat, 3)) (by simp [results, Try.results36, go_sem, decV, noBeat]) rfl ⟨rfl, ?_⟩
          repeat (first | exact (Below.refl _ _).alloc (Nat.le_refl _) _ | refine Below.setCell ?_ (by simp) _)
        · have hb2 : ¬ (n14 : Int) < (s.size : Int) := by omega
          obtain ⟨n10, h10⟩ : ∃ n, n = 10 + k := ⟨_, rfl⟩
          obtain ⟨n2, h2'⟩ : ∃ n, n = 2 + k := ⟨_, rfl⟩
          obtain ⟨n6, h6⟩ : ∃ n, n = 6 + k := ⟨_, rfl⟩
          have hw10 : IntKind.i64.wrap (10 + (k : Int)) = (n10 : Int) := by rw [IntWalk.i64_in _ (by omega)]; omega
          have hw2 : IntKind.i64.wrap (2 + (k : Int)) = (n2 : Int) := by rw [IntWalk.i64_in _ (by omega)]; omega
          have hw6 : IntKind.i64.wrap (6 + (k : Int)) = (n6 : Int) := by rw [IntWalk.i64_in _ (by omega)]; omega
          have hsz : n10 + 4 = s.size ∧ n2 + 12 = s.size ∧ n6 + 8 = s.size := by have := H14.out; omega
          rw [← h10] at Hdec
          have q10 : n10 ≤ s.size := by omega
          have q2 : n2 ≤ s.size := by omega
          have q2' : 2 ≤ n2 := by omega
          have q6 : n6 ≤ s.size := by omega
          have i10 : (n10 : Int) ≤ (s.size : Int) := by omega
          have i2 : (n2 : Int) ≤ (s.size : Int) := by omega
          have i2' : (2 : Int) ≤ (n2 : Int) := by omega
          have i6 : (n6 : Int) ≤ (s.size : Int) := by omega
          have z10 : 4 ≤ (s.extract n10 s.size).size := by simp; omega
          have z2 : 4 ≤ (s.extract n2 s.size).size := by simp; omega
          have z6 : 4 ≤ (s.extract n6 s.size).size := by simp; omega
          have Hsz := Lib.hid hsz
          have H10 := Lib.hid h10
          have H2 := Lib.hid h2'
          have H6 := Lib.hid h6
          clear hsz h10 h2' h6
          go_enter Try.func36, Try.ntmps36
          go_wp2_with (first
            | (go_at_call 97; refine (crc_any _ _).mono ?_; rintro e w1 ⟨rfl, hb1⟩; obtain ⟨c1, f1, z1, hw1⟩ := keep1 hb1; have c10 := c1 0; have c11 := c1 1; have c12 := c1 2; have f10 := f1 0; have f11 := f1 1; have f12 := f1 2; simp at c10 c11 c12; clear c1 f1 hb1)
            | (go_at_call 98; refine (number_any _ _ z10).mono ?_; rintro e w2 ⟨rfl, rfl⟩)
            | fail)
          · have hne : ((crcOf (s.extract 0 n10)).fst != number (s.extract n10 s.size)) = true := by assumption
            have hr : decode s = (noBeat, 9) := by rw [Hdec.out, if_neg (by have := H14.out; omega), if_neg (by have := H14.out; omega), if_pos (by simpa using hne)]
            rw [hr]
            refine bodyPost_ret (v := decV (noBeat, 9)) (by simp [results, Try.results36, go_sem, decV, noBeat, c10, c11, c12]) rfl ⟨rfl, ?_⟩
            repeat (first | exact hw1 | refine Below.setCell ?_ (by simp) _ | refine Below.drew ?_)
          · have hne : ((crcOf (s.extract 0 n10)).fst != number (s.extract n10 s.size)) = false := by assumption
            have hr : decode s = if beatCheck ⟨s.extract 2 n2, number (s.extract n2 s.size), number (s.extract n6 s.size)⟩ ≠ 0 then (noBeat, 3) else (⟨s.extract 2 n2, number (s.extract n2 s.size), number (s.extract n6 s.size)⟩, 0) := by
              rw [Hdec.out, if_neg (by have := H14.out; omega), if_neg (by have := H14.out; omega), if_neg (by simpa using hne), H2.out, H6.out]
              rfl
            have Hr := Lib.hid hr
            clear hr
            go_region_with (go_at_call 98; refine (number_any _ _ ?q).mono ?_; (case q => first | exact z2 | exact z6); rintro e w2 ⟨rfl, rfl⟩)
            all_goals
              go_wp2_with (go_at_call 89; refine (bcheck_any ⟨s.extract 2 n2, number (s.extract n2 s.size), number (s.extract n6 s.size)⟩ _).mono ?_; rintro e w5 ⟨rfl, hb5⟩; have hbb : Below w1.heap.size w1 w5 := Below.trans (by repeat (first | exact (Below.refl _ _).alloc (Nat.le_refl _) _ | refine Below.drew ?_)) (hb5.mono (by simp)); have hbw := hw1.trans (hbb.mono hw1.size); have d10 := bsome hbb c10; have d11 := bsome hbb c11; have d12 := bsome hbb c12; have e10 := (hbb.frozen (p := ⟨w.heap.size, 0, none⟩) z1).trans f10; have e11 := (hbb.frozen (p := ⟨w.heap.size, 1, none⟩) z1).trans f11; have e12 := (hbb.frozen (p := ⟨w.heap.size, 2, none⟩) z1).trans f12; have g0 := (hb5.cell (p := ⟨w1.heap.size, 0, none⟩) (by simp)); have g1 := (hb5.cell (p := ⟨w1.heap.size, 1, none⟩) (by simp)); have g2 := (hb5.cell (p := ⟨w1.heap.size, 2, none⟩) (by simp)); simp at g0 g1 g2; have Hbw := Lib.hid hbw; clear hb5 hbb hbw)
              · have hq : (beatCheck ⟨s.extract 2 n2, number (s.extract n2 s.size), number (s.extract n6 s.size)⟩ != 0) = true := by assumption
                rw [Hr.out, if_pos (by simpa using hq)]
                refine bodyPost_ret (v := decV (noBeat, 3)) (by simp [results, Try.results36, go_sem, decV, noBeat, d10, d11, d12]) rfl ⟨rfl, ?_⟩
                repeat (first | exact Hbw.out | refine Below.setCell ?_ (by simp) _)
              · have hq : (beatCheck ⟨s.extract 2 n2, number (s.extract n2 s.size), number (s.extract n6 s.size)⟩ != 0) = false := by assumption
                rw [Hr.out, if_neg (by simpa using hq)]
                refine bodyPost_ret (v := decV (⟨s.extract 2 n2, number (s.extract n2 s.size), number (s.extract n6 s.size)⟩, 0)) (by simp [results, Try.results36, go_sem, decV, d10, d11, d12]) rfl ⟨rfl, ?_⟩
                repeat (first | exact Hbw.out | refine Below.setCell ?_ (by simp) _)

end Go.Proofs.Ytmclalhjnjghnaa
