/- The walk of hwkeep.NodeTrust. -/
import Derived.Test.YtmclalhjnjghnaaBegin
namespace Go.Proofs.Ytmclalhjnjghnaa
open Go.RowKit Hw

set_option maxRecDepth 100000 in
set_option maxHeartbeats 2000000 in
theorem trust_any (every least : Int) (A : Option Addr) (cc : Nat) (L : List (List Int)) (w : World) (hL : ListsR w A L) (hcc : L.length ≤ cc) (hl : L.length ≤ 17592186044416) :
    Calls Try.prog 6 #[.int .i64 every, .int .i64 least, .slice A L.length cc] w fun e w' => e = .returned (.bool true) ∧ Below w.heap.size w w' := by
  have HL := Lib.hid hL
  clear hL
  go_enter Try.func6, Try.ntmps6
  go_wp2_with (first
    | (go_at_call 28; refine (nodebegun_any _).mono ?_; rintro e w1 ⟨rfl, hb1⟩; have HB1 := Lib.hid hb1; clear hb1)
    | (go_at_call 29; refine (one_any every least _).mono ?_; rintro e w2 ⟨⟨b, rfl, hb, hn⟩, hb2⟩; have HB2 := Lib.hid (HB1.out.trans (hb2.mono HB1.out.size)); have HN2 := Lib.hid hn; have Hb := Lib.hid (Nat.le_trans HB1.out.size hb); clear hb hn hb2)
    | fail)
  rw [show min (L.length : Int) 80 = ((L.take 80).length : Int) from take_min L 80, Int.toNat_natCast, Int.max_eq_left (by omega)]
  have hM : (L.take 80).length ≤ 80 := by rw [List.length_take]; omega
  have hMc : (L.take 80).length ≤ cc := by rw [List.length_take]; omega
  have HM := Lib.hid (HL.out.take 80)
  generalize L.take 80 = M at HM hM hMc ⊢
  have hG := ones_good every least
  generalize ones every least 3 = n0 at HN2 hG
  have HG := Lib.hid hG
  clear hG
  go_loopw [25] (fun i wr => ∃ k : Nat, k ≤ M.length ∧ i = .int .i64 k ∧ Hid (NewAt w wr b (askedAll n0 M k))) (fun i _ => M.length - (intOf i).toNat)
  case atStart => exact ⟨0, by omega, rfl, _, HN2.out, fun q hq => by simp [Value.ownBlock] at hq, HB2.out⟩
  case round =>
    obtain ⟨k, hk, rfl, HNk⟩ := hrel
    by_cases hlt : k < M.length
    · obtain ⟨vs, hn, hvs, hbw⟩ := HNk.out
      obtain ⟨A0, off, rfl, hc⟩ := (HM.out.below (hbw.mono (Nat.le_refl _))) (by omega)
      obtain ⟨A', c', h1, h2, h3⟩ := hc k hlt
      have hkM : (k : Int) < (M.length : Int) := by omega
      have hk0 : (0 : Int) ≤ (k : Int) := by omega
      have hkw : IntKind.i64.wrap ((k : Int) + 1) = (k : Int) + 1 := IntWalk.i64_in _ (by omega)
      have hg := askedAll_good HG.out M k
      have hsucc := askedAll_succ n0 M k hlt
      generalize askedAll n0 M k = n at hn hg hsucc
      obtain ⟨hg', hnotes⟩ := asked_good hg M[k]
      rw [← hsucc] at hg'
      generalize hcc' : M[k] = c at h1 h2 h3 hsucc hnotes
      have hbn := hn.lt
      have HN := Lib.hid hn
      have HGn := Lib.hid hg
      have HVS := Lib.hid hvs
      have HBW := Lib.hid hbw
      have HI := Lib.hid h2
      have Hnotes := Lib.hid hnotes
      have Hsucc := Lib.hid hsucc
      have hA0 := bsome (Below.refl wr.heap.size wr) h1
      clear hn hg hvs hbw hc h2 hnotes hsucc hg' hcc' h1
      by_cases hc2 : 1 < c.length
      · obtain ⟨b', off', rfl, hcl⟩ := HI.out (by omega)
        have q0 : wr.cell? ⟨b', off', none⟩ = some (.int .i64 (askAt c 0)) := by simpa [askAt] using hcl 0 (by omega)
        have q1 : wr.cell? ⟨b', off' + 1, none⟩ = some (.int .i64 (askAt c 1)) := by simpa [askAt] using hcl 1 (by omega)
        have hbl' := blt q0
        have hci : (1 : Int) < (c.length : Int) := by omega
        have hci0 : (0 : Int) < (c.length : Int) := by omega
        obtain ⟨kk, hkk⟩ := Int.eq_ofNat_of_zero_le (within_in (n := askAt c 1) (k := 4) (by omega)).1
        have hkk4 : kk < 4 := by have := (within_in (n := askAt c 1) (k := 4) (by omega)).2; omega
        have hid : askId c = nm4 kk := by unfold askId; rw [hkk]; rfl
        have hkk4' : (kk : Int) < 4 := by omega
        have hkk0 : (0 : Int) ≤ (kk : Int) := by omega
        have HKK := Lib.hid hkk
        have qs := cell_of_row _ _ kk _ 9 (0, 0) (heap_alloc_new wr (.cells #[.string (ByteArray.mk #[98]), .string (ByteArray.mk #[99]), .string (ByteArray.mk #[100]), .string (ByteArray.mk #[101])] 9))
        rw [nm4_cell kk hkk4, ← hid] at qs
        have HQS := Lib.hid qs
        have hH : isHeard c = (within (askAt c 0) 5 == 1) := by unfold isHeard; rw [show decide (0 < c.length) = true by simpa using (by omega : 0 < c.length), Bool.true_and]
        have HID : Hid (askId c = askId c) := rfl
        clear hcl hkk hid qs
        cases hm5 : (within (askAt c 0) 5 == 1) with
        | true =>
          rw [hm5] at hH
          have HH := Lib.hid hH
          clear hH
          go_wp2_with (first
            | (go_at_call_of 30 (Value.int IntKind.i64 5); refine (within_any _ _ _ (by decide) (by decide)).mono ?_; rintro e w9 ⟨rfl, rfl⟩)
            | (go_at_call_of 30 (Value.int IntKind.i64 4); refine (within_any _ _ _ (by decide) (by decide)).mono ?_; rintro e w9 ⟨rfl, hw⟩; rw [HKK.out]; have Hb9 := Lib.hid (hw ▸ (Below.refl wr.heap.size wr).alloc (Nat.le_refl _) _ : Below wr.heap.size wr w9); have q9 := (hw ▸ HQS.out : w9.cell? ⟨wr.heap.size, kk, none⟩ = some (.string (askId c))); clear hw)
            | (go_at_call 43; refine (asked_any b vs n _ c' c _ (HN.out.below Hb9.out) HGn.out (HI.out.below Hb9.out) h3).mono ?_; rintro e w3 ⟨⟨vn, rfl, ho⟩, vs', hn', hv', ht'⟩; obtain ⟨An, cn, rfl, -⟩ := own_form ho; have HNew := Lib.hid (NewAt.post HVS.out (HBW.out.trans (Hb9.out.mono HBW.out.size)) Hb.out hn' hv' ht'); have HO := Lib.hid ho; clear ho hn' hv' ht')
            | fail)
          have hN : ∃ N, (asked n c).2 = N := ⟨_, rfl⟩
          obtain ⟨N, hN⟩ := hN
          rw [hN] at HO Hnotes ⊢
          clear hN
          go_loopw [53] (fun i wi => ∃ j : Nat, j ≤ N.length ∧ i = .int .i64 j ∧ Hid (Below w3.heap.size w3 wi)) (fun i _ => N.length - (intOf i).toNat)
          case atStart => exact ⟨0, by omega, rfl, Below.refl _ _⟩
          case round =>
            obtain ⟨j, hj, rfl, HBi⟩ := hrel
            by_cases hjl : j < N.length
            · have hjw : IntKind.i64.wrap ((j : Int) + 1) = (j : Int) + 1 := IntWalk.i64_in _ (by have := own_len HO.out; omega)
              obtain ⟨g, rfl, -, -, x0, x1, x2⟩ := note_at (own_below HO.out HBi.out) hjl
              have hx := Hnotes.out N[j] (List.getElem_mem hjl)
              rw [HH.out] at hx
              have hx' : N[j].suspect = false ∧ N[j].id = askId c := by
                rcases hx with ⟨e1, e2⟩ | ⟨e1, e2, e3⟩
                · cases e2
                · exact ⟨e1, e3⟩
              rw [hx'.1] at x2
              rw [hx'.2] at x0
              have hgl := blt x0
              have hji : (j : Int) < (N.length : Int) := by omega
              have hj0 : (0 : Int) ≤ (j : Int) := by omega
              clear hx hx'
              go_wp2_with fail
              go_roundw
              case rel => exact ⟨j + 1, by omega, by go_num, HBi.out.alloc HBi.out.size _⟩
              case measure => simp [intOf]; omega
            · have hji : ¬ (j : Int) < (N.length : Int) := by omega
              go_wp2_with fail
              go_roundw
              case rel => exact ⟨k + 1, by omega, by go_num, by rw [Hsucc.out]; exact HNew.out.below HBi.out⟩
              case measure => simp [intOf]; omega
        | false =>
          rw [hm5] at hH
          have HH := Lib.hid hH
          clear hH
          go_wp2_with (first
            | (go_at_call_of 30 (Value.int IntKind.i64 5); refine (within_any _ _ _ (by decide) (by decide)).mono ?_; rintro e w9 ⟨rfl, rfl⟩)
            | (go_at_call_of 30 (Value.int IntKind.i64 4); refine (within_any _ _ _ (by decide) (by decide)).mono ?_; rintro e w9 ⟨rfl, hw⟩; rw [HKK.out]; have Hb9 := Lib.hid (hw ▸ (Below.refl wr.heap.size wr).alloc (Nat.le_refl _) _ : Below wr.heap.size wr w9); have q9 := (hw ▸ HQS.out : w9.cell? ⟨wr.heap.size, kk, none⟩ = some (.string (askId c))); clear hw)
            | (go_at_call 43; refine (asked_any b vs n _ c' c _ (HN.out.below Hb9.out) HGn.out (HI.out.below Hb9.out) h3).mono ?_; rintro e w3 ⟨⟨vn, rfl, ho⟩, vs', hn', hv', ht'⟩; obtain ⟨An, cn, rfl, -⟩ := own_form ho; have HNew := Lib.hid (NewAt.post HVS.out (HBW.out.trans (Hb9.out.mono HBW.out.size)) Hb.out hn' hv' ht'); have HO := Lib.hid ho; clear ho hn' hv' ht')
            | fail)
          have hN : ∃ N, (asked n c).2 = N := ⟨_, rfl⟩
          obtain ⟨N, hN⟩ := hN
          rw [hN] at HO Hnotes ⊢
          clear hN
          go_loopw [53] (fun i wi => ∃ j : Nat, j ≤ N.length ∧ i = .int .i64 j ∧ Hid (Below w3.heap.size w3 wi)) (fun i _ => N.length - (intOf i).toNat)
          case atStart => exact ⟨0, by omega, rfl, Below.refl _ _⟩
          case round =>
            obtain ⟨j, hj, rfl, HBi⟩ := hrel
            by_cases hjl : j < N.length
            · have hjw : IntKind.i64.wrap ((j : Int) + 1) = (j : Int) + 1 := IntWalk.i64_in _ (by have := own_len HO.out; omega)
              obtain ⟨g, rfl, -, -, x0, x1, x2⟩ := note_at (own_below HO.out HBi.out) hjl
              have hx := Hnotes.out N[j] (List.getElem_mem hjl)
              rw [HH.out] at hx
              have hx' : N[j].suspect = true := by
                rcases hx with ⟨e1, e2⟩ | ⟨e1, e2, e3⟩
                · exact e1
                · cases e2
              rw [hx'] at x2
              have hdum := hx'
              have hgl := blt x0
              have hji : (j : Int) < (N.length : Int) := by omega
              have hj0 : (0 : Int) ≤ (j : Int) := by omega
              clear hx hx'
              go_wp2_with fail
              go_roundw
              case rel => exact ⟨j + 1, by omega, by go_num, HBi.out.alloc HBi.out.size _⟩
              case measure => simp [intOf]; omega
            · have hji : ¬ (j : Int) < (N.length : Int) := by omega
              go_wp2_with fail
              go_roundw
              case rel => exact ⟨k + 1, by omega, by go_num, by rw [Hsucc.out]; exact HNew.out.below HBi.out⟩
              case measure => simp [intOf]; omega
      · have hz1 : askAt c 1 = 0 := by
          unfold askAt
          rw [List.getD_eq_getElem?_getD, List.getElem?_eq_none (by omega)]
          rfl
        have HID : Hid (askId c = ByteArray.mk #[98]) := by
          show askId c = ByteArray.mk #[98]
          unfold askId
          rw [hz1]
          rfl
        by_cases hc1 : 0 < c.length
        · obtain ⟨b', off', rfl, hcl⟩ := HI.out (by omega)
          have q0 : wr.cell? ⟨b', off', none⟩ = some (.int .i64 (askAt c 0)) := by simpa [askAt] using hcl 0 (by omega)
          have hbl' := blt q0
          have hci : ¬ (1 : Int) < (c.length : Int) := by omega
          have hci0 : (0 : Int) < (c.length : Int) := by omega
          have hH : isHeard c = (within (askAt c 0) 5 == 1) := by unfold isHeard; rw [show decide (0 < c.length) = true by simpa using hc1, Bool.true_and]
          clear hcl hz1
          cases hm5 : (within (askAt c 0) 5 == 1) with
          | true =>
            rw [hm5] at hH
            have HH := Lib.hid hH
            clear hH
            go_wp2_with (first
              | (go_at_call_of 30 (Value.int IntKind.i64 5); refine (within_any _ _ _ (by decide) (by decide)).mono ?_; rintro e w9 ⟨rfl, rfl⟩)
              | (go_at_call 43; refine (asked_any b vs n _ c' c _ (HN.out) HGn.out (HI.out) h3).mono ?_; rintro e w3 ⟨⟨vn, rfl, ho⟩, vs', hn', hv', ht'⟩; obtain ⟨An, cn, rfl, -⟩ := own_form ho; have HNew := Lib.hid (NewAt.post HVS.out (HBW.out) Hb.out hn' hv' ht'); have HO := Lib.hid ho; clear ho hn' hv' ht')
              | fail)
            have hN : ∃ N, (asked n c).2 = N := ⟨_, rfl⟩
            obtain ⟨N, hN⟩ := hN
            rw [hN] at HO Hnotes ⊢
            clear hN
            go_loopw [53] (fun i wi => ∃ j : Nat, j ≤ N.length ∧ i = .int .i64 j ∧ Hid (Below w3.heap.size w3 wi)) (fun i _ => N.length - (intOf i).toNat)
            case atStart => exact ⟨0, by omega, rfl, Below.refl _ _⟩
            case round =>
              obtain ⟨j, hj, rfl, HBi⟩ := hrel
              by_cases hjl : j < N.length
              · have hjw : IntKind.i64.wrap ((j : Int) + 1) = (j : Int) + 1 := IntWalk.i64_in _ (by have := own_len HO.out; omega)
                obtain ⟨g, rfl, -, -, x0, x1, x2⟩ := note_at (own_below HO.out HBi.out) hjl
                have hx := Hnotes.out N[j] (List.getElem_mem hjl)
                rw [HH.out] at hx
                have hx' : N[j].suspect = false ∧ N[j].id = ByteArray.mk #[98] := by
                  rcases hx with ⟨e1, e2⟩ | ⟨e1, e2, e3⟩
                  · cases e2
                  · exact ⟨e1, e3.trans HID.out⟩
                rw [hx'.1] at x2
                rw [hx'.2] at x0
                have hgl := blt x0
                have hji : (j : Int) < (N.length : Int) := by omega
                have hj0 : (0 : Int) ≤ (j : Int) := by omega
                clear hx hx'
                go_wp2_with fail
                go_roundw
                case rel => exact ⟨j + 1, by omega, by go_num, HBi.out.alloc HBi.out.size _⟩
                case measure => simp [intOf]; omega
              · have hji : ¬ (j : Int) < (N.length : Int) := by omega
                go_wp2_with fail
                go_roundw
                case rel => exact ⟨k + 1, by omega, by go_num, by rw [Hsucc.out]; exact HNew.out.below HBi.out⟩
                case measure => simp [intOf]; omega
          | false =>
            rw [hm5] at hH
            have HH := Lib.hid hH
            clear hH
            go_wp2_with (first
              | (go_at_call_of 30 (Value.int IntKind.i64 5); refine (within_any _ _ _ (by decide) (by decide)).mono ?_; rintro e w9 ⟨rfl, rfl⟩)
              | (go_at_call 43; refine (asked_any b vs n _ c' c _ (HN.out) HGn.out (HI.out) h3).mono ?_; rintro e w3 ⟨⟨vn, rfl, ho⟩, vs', hn', hv', ht'⟩; obtain ⟨An, cn, rfl, -⟩ := own_form ho; have HNew := Lib.hid (NewAt.post HVS.out (HBW.out) Hb.out hn' hv' ht'); have HO := Lib.hid ho; clear ho hn' hv' ht')
              | fail)
            have hN : ∃ N, (asked n c).2 = N := ⟨_, rfl⟩
            obtain ⟨N, hN⟩ := hN
            rw [hN] at HO Hnotes ⊢
            clear hN
            go_loopw [53] (fun i wi => ∃ j : Nat, j ≤ N.length ∧ i = .int .i64 j ∧ Hid (Below w3.heap.size w3 wi)) (fun i _ => N.length - (intOf i).toNat)
            case atStart => exact ⟨0, by omega, rfl, Below.refl _ _⟩
            case round =>
              obtain ⟨j, hj, rfl, HBi⟩ := hrel
              by_cases hjl : j < N.length
              · have hjw : IntKind.i64.wrap ((j : Int) + 1) = (j : Int) + 1 := IntWalk.i64_in _ (by have := own_len HO.out; omega)
                obtain ⟨g, rfl, -, -, x0, x1, x2⟩ := note_at (own_below HO.out HBi.out) hjl
                have hx := Hnotes.out N[j] (List.getElem_mem hjl)
                rw [HH.out] at hx
                have hx' : N[j].suspect = true := by
                  rcases hx with ⟨e1, e2⟩ | ⟨e1, e2, e3⟩
                  · exact e1
                  · cases e2
                rw [hx'] at x2
                have hdum := hx'
                have hgl := blt x0
                have hji : (j : Int) < (N.length : Int) := by omega
                have hj0 : (0 : Int) ≤ (j : Int) := by omega
                clear hx hx'
                go_wp2_with fail
                go_roundw
                case rel => exact ⟨j + 1, by omega, by go_num, HBi.out.alloc HBi.out.size _⟩
                case measure => simp [intOf]; omega
              · have hji : ¬ (j : Int) < (N.length : Int) := by omega
                go_wp2_with fail
                go_roundw
                case rel => exact ⟨k + 1, by omega, by go_num, by rw [Hsucc.out]; exact HNew.out.below HBi.out⟩
                case measure => simp [intOf]; omega
        · have hci : ¬ (1 : Int) < (c.length : Int) := by omega
          have hci0 : ¬ (0 : Int) < (c.length : Int) := by omega
          have hH : isHeard c = false := by unfold isHeard; rw [show decide (0 < c.length) = false by simpa using hc1, Bool.false_and]
          have HH := Lib.hid hH
          clear hH hz1
          go_wp2_with (first
            | (go_at_call 43; refine (asked_any b vs n _ c' c _ (HN.out) HGn.out (HI.out) h3).mono ?_; rintro e w3 ⟨⟨vn, rfl, ho⟩, vs', hn', hv', ht'⟩; obtain ⟨An, cn, rfl, -⟩ := own_form ho; have HNew := Lib.hid (NewAt.post HVS.out (HBW.out) Hb.out hn' hv' ht'); have HO := Lib.hid ho; clear ho hn' hv' ht')
            | fail)
          have hN : ∃ N, (asked n c).2 = N := ⟨_, rfl⟩
          obtain ⟨N, hN⟩ := hN
          rw [hN] at HO Hnotes ⊢
          clear hN
          go_loopw [53] (fun i wi => ∃ j : Nat, j ≤ N.length ∧ i = .int .i64 j ∧ Hid (Below w3.heap.size w3 wi)) (fun i _ => N.length - (intOf i).toNat)
          case atStart => exact ⟨0, by omega, rfl, Below.refl _ _⟩
          case round =>
            obtain ⟨j, hj, rfl, HBi⟩ := hrel
            by_cases hjl : j < N.length
            · have hjw : IntKind.i64.wrap ((j : Int) + 1) = (j : Int) + 1 := IntWalk.i64_in _ (by have := own_len HO.out; omega)
              obtain ⟨g, rfl, -, -, x0, x1, x2⟩ := note_at (own_below HO.out HBi.out) hjl
              have hx := Hnotes.out N[j] (List.getElem_mem hjl)
              rw [HH.out] at hx
              have hx' : N[j].suspect = true := by
                rcases hx with ⟨e1, e2⟩ | ⟨e1, e2, e3⟩
                · exact e1
                · cases e2
              rw [hx'] at x2
              have hdum := hx'
              have hgl := blt x0
              have hji : (j : Int) < (N.length : Int) := by omega
              have hj0 : (0 : Int) ≤ (j : Int) := by omega
              clear hx hx'
              go_wp2_with fail
              go_roundw
              case rel => exact ⟨j + 1, by omega, by go_num, HBi.out.alloc HBi.out.size _⟩
              case measure => simp [intOf]; omega
            · have hji : ¬ (j : Int) < (N.length : Int) := by omega
              go_wp2_with fail
              go_roundw
              case rel => exact ⟨k + 1, by omega, by go_num, by rw [Hsucc.out]; exact HNew.out.below HBi.out⟩
              case measure => simp [intOf]; omega
    · have hkM : ¬ (k : Int) < (M.length : Int) := by omega
      obtain ⟨vs, hn, hvs, hbw⟩ := HNk.out
      have Hbw := Lib.hid hbw
      clear hn hvs hbw
      go_wp2_with fail
      go_ret
      exact ⟨rfl, Hbw.out⟩

end Go.Proofs.Ytmclalhjnjghnaa
