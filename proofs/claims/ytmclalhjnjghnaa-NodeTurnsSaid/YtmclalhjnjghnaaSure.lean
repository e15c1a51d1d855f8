/- The walk of hwkeep.NodeSure. -/
import Derived.Test.YtmclalhjnjghnaaBaseM
namespace Go.Proofs.Ytmclalhjnjghnaa
open Go.RowKit Hw

/-- Who is suspected at some threshold is at each lesser one. -/
theorem sure_law {I : List ByteArray} {n : Hw.Node} (h : Good I n) {s t : Sub} (hs : s ∈ n.subs) (ht : t ∈ n.subs) (hid : s.id = t.id) (hth : s.theta ≤ t.theta) (hon : t.on = true) : s.on = true := by
  rw [h.on s hs]
  have := h.on t ht
  rw [hon] at this
  unfold onNow at this ⊢
  rw [hid]
  have := of_decide_eq_true this.symm
  exact decide_eq_true (by omega)

/-- One sub of a row of subs. -/
theorem sub_at {w : World} {B m c : Nat} {A : Option Addr} {l : List Sub} (h : w.ownsRow B 85 3 (.slice A m c) l.length (subsCells l)) {k : Nat} (hk : k < l.length) : ∃ g, A = some ⟨g, 0, none⟩ ∧ B ≤ g ∧ m = l.length ∧
    w.cell? ⟨g, k * 3, none⟩ = some (.string (l[k]).id) ∧ w.cell? ⟨g, k * 3 + 1, none⟩ = some (.int .i64 (l[k]).theta) ∧ w.cell? ⟨g, k * 3 + 2, none⟩ = some (.bool (l[k]).on) := by
  obtain ⟨g', off, e, hc⟩ := own_subs h (by omega)
  rcases h.2 with ⟨e1, e2⟩ | ⟨g, cap, cur, e1, hB, _⟩
  · omega
  · injection e1 with e1 e2 e3
    rw [e] at e1
    injection e1 with e1
    injection e1 with e4 e5
    subst e e4 e5
    obtain ⟨c1, c2, c3⟩ := hc k hk
    rw [Nat.zero_add] at c1 c2 c3
    exact ⟨_, rfl, hB, e2, c1, c2, c3⟩

set_option maxRecDepth 100000 in
set_option maxHeartbeats 2000000 in
theorem sure_any (every least : Int) (A : Option Addr) (cc : Nat) (L : List (List Int)) (w : World) (hL : ListsR w A L) (hcc : L.length ≤ cc) (hl : L.length ≤ 17592186044416) :
    Calls Try.prog 9 #[.int .i64 every, .int .i64 least, .slice A L.length cc] w fun e w' => e = .returned (.bool true) ∧ Below w.heap.size w w' := by
  have HL := Lib.hid hL
  clear hL
  go_enter Try.func9, Try.ntmps9
  go_wp2_with (first
    | (go_at_call 28; refine (nodebegun_any _).mono ?_; rintro e w1 ⟨rfl, hb1⟩; have HB1 := Lib.hid hb1; clear hb1)
    | (go_at_call 29; refine (one_any every least _).mono ?_; rintro e w2 ⟨⟨b, rfl, hb, hn⟩, hb2⟩; have HB2 := Lib.hid (HB1.out.trans (hb2.mono HB1.out.size)); have HN2 := Lib.hid hn; have Hb := Lib.hid (Nat.le_trans HB1.out.size hb); clear hb hn hb2)
    | fail)
  rw [show min (L.length : Int) 80 = ((L.take 80).length : Int) from take_min L 80, Int.toNat_natCast, Int.max_eq_left (by omega)]
  have hM : (L.take 80).length ≤ 80 := by rw [List.length_take]; omega
  have hMc : (L.take 80).length ≤ cc := by rw [List.length_take]; omega
  have HM := Lib.hid (HL.out.take 80)
  generalize L.take 80 = M at HM hM hMc ⊢
  have hG := ones_good every least
  have hC := (ones_same every least 3).2.1
  have hD := (ones_same every least 3).2.2.2.2
  have hS := (ones_same every least 3).1
  generalize ones every least 3 = n0 at HN2 hG hC hD hS
  have HG := Lib.hid hG
  have HC := Lib.hid hC
  have HD := Lib.hid hD
  have HS := Lib.hid hS
  clear hG hC hD hS
  go_loopw [26] (fun i wr => ∃ k : Nat, k ≤ M.length ∧ i = .int .i64 k ∧ Hid (NewAt w wr b (askedAll n0 M k))) (fun i _ => M.length - (intOf i).toNat)
  case atStart => exact ⟨0, by omega, rfl, _, HN2.out, fun q hq => by simp [Value.ownBlock] at hq, HB2.out⟩
  case round =>
    obtain ⟨k, hk, rfl, HNk⟩ := hrel
    by_cases hlt : k < M.length
    · obtain ⟨vs, hn, hvs, hbw⟩ := HNk.out
      obtain ⟨A0, off, rfl, hc⟩ := (HM.out.below (hbw.mono (Nat.le_refl _))) (by omega)
      obtain ⟨A', c', h1, h2, h3⟩ := hc k hlt
      have hkM : (k : Int) < (M.length : Int) := by omega
      have hk0 : (0 : Int) ≤ (k : Int) := by omega
      have hkw : IntKind.i64.wrap ((k : Int) + 1) = (k : Int) + 1 := IntWalk.i64_in _ (by omega)
      have hg := askedAll_good HG.out M k
      have hsucc := askedAll_succ n0 M k hlt
      have hkept := askedAll_kept n0 M (k + 1) (by omega)
      rw [hsucc] at hkept
      generalize askedAll n0 M k = n at hn hg hsucc hkept
      have hg' := (asked_good hg M[k]).1
      generalize M[k] = c at h1 h2 h3 hsucc hg' hkept
      have hE : ∃ n', (asked n c).1 = n' := ⟨_, rfl⟩
      obtain ⟨n', hE⟩ := hE
      rw [hE] at hsucc hg' hkept
      have hbn := hn.lt
      have HN := Lib.hid hn
      have HGn := Lib.hid hg
      have HG' := Lib.hid hg'
      have HKt := Lib.hid hkept
      have HVS := Lib.hid hvs
      have HBW := Lib.hid hbw
      have HI := Lib.hid h2
      have Hsucc := Lib.hid hsucc
      have HE := Lib.hid hE
      have hA0 := bsome (Below.refl wr.heap.size wr) h1
      clear hn hg hg' hvs hbw hc h2 hsucc h1 hE hkept
      have H8 : Hid (n'.subs.length ≤ 8) := HG'.out.subs.s8
      go_wp2_with (first
        | (go_at_call 43; refine (asked_any b vs n _ c' c _ HN.out HGn.out HI.out h3).mono ?_; rintro e w3 ⟨⟨vn, rfl, ho⟩, vs', hn', hv', ht'⟩; rw [HE.out] at hn'; have HNew := Lib.hid (NewAt.post HVS.out HBW.out Hb.out hn' hv' ht'); have HN' := Lib.hid hn'; clear ho hn' hv' ht')
        | (go_at_call 45; refine (nsubs_any b vs' n' _ HN'.out H8.out).mono ?_; rintro e w4 ⟨⟨v4, rfl, ho4⟩, hb4⟩; obtain ⟨A4, c4, rfl, -⟩ := own_form ho4; have HO4 := Lib.hid ho4; have HB4 := Lib.hid hb4; clear ho4 hb4)
        | fail)
      have hl8 := H8.out
      go_loopw [37] (fun i wr => ∃ j : Nat, j ≤ n'.subs.length ∧ i = .int .i64 j ∧ Hid (Below w4.heap.size w4 wr)) (fun i _ => n'.subs.length - (intOf i).toNat)
      case atStart => exact ⟨0, by omega, rfl, Below.refl _ _⟩
      case round =>
        obtain ⟨j, hj, rfl, HBi⟩ := hrel
        by_cases hjl : j < n'.subs.length
        · have hjw : IntKind.i64.wrap ((j : Int) + 1) = (j : Int) + 1 := IntWalk.i64_in _ (by omega)
          obtain ⟨g, rfl, -, -, x0, x1, x2⟩ := sub_at (own_below HO4.out HBi.out) hjl
          have hgl := blt x0
          have hji : (j : Int) < (n'.subs.length : Int) := by omega
          have hj0 : (0 : Int) ≤ (j : Int) := by omega
          have hnew := heap_alloc_new wr (.cells #[.string (n'.subs[j]).id, .int .i64 (n'.subs[j]).theta, .bool (n'.subs[j]).on] 85)
          have Y0 := Lib.hid (cell_of_row _ _ 0 _ 85 (0, 0) hnew)
          have Y1 := Lib.hid (cell_of_row _ _ 1 _ 85 (0, 0) hnew)
          have Y2 := Lib.hid (cell_of_row _ _ 2 _ 85 (0, 0) hnew)
          have HBj := Lib.hid (HBi.out.alloc HBi.out.size (.cells #[.string (n'.subs[j]).id, .int .i64 (n'.subs[j]).theta, .bool (n'.subs[j]).on] 85))
          have hms := List.getElem_mem hjl
          have Hms := Lib.hid hms
          clear hnew hms
          generalize n'.subs[j] = s at x0 x1 x2 Y0 Y1 Y2 HBj Hms ⊢
          go_wp2_with fail
          generalize hW : wr.alloc (.cells #[.string s.id, .int .i64 s.theta, .bool s.on] 85) = W at Y0 Y1 Y2 HBj ⊢
          clear hW x0 x1 x2
          go_loopw [43] (fun i wj => ∃ q : Nat, q ≤ n'.subs.length ∧ i = .int .i64 q ∧ Hid (Below W.heap.size W wj)) (fun i _ => n'.subs.length - (intOf i).toNat)
          case atStart => exact ⟨0, by omega, rfl, Below.refl _ _⟩
          case round =>
            obtain ⟨q, hq, rfl, HBq⟩ := hrel
            have hbq : Below w4.heap.size w4 wr := HBj.out.trans (HBq.out.mono HBj.out.size)
            by_cases hql : q < n'.subs.length
            · have hqw : IntKind.i64.wrap ((q : Int) + 1) = (q : Int) + 1 := IntWalk.i64_in _ (by omega)
              obtain ⟨g', e', -, -, x0, x1, x2⟩ := sub_at (own_below HO4.out hbq) hql
              injection e' with e'
              injection e' with e'
              subst e'
              have hgl' := blt x0
              have hqi : (q : Int) < (n'.subs.length : Int) := by omega
              have hq0 : (0 : Int) ≤ (q : Int) := by omega
              have y0 := bsome HBq.out Y0.out
              have y1 := bsome HBq.out Y1.out
              have y2 := bsome HBq.out Y2.out
              have hyl := blt y0
              have hmt := List.getElem_mem hql
              have hlaw := fun (h1 : s.id = (n'.subs[q]).id) (h2 : s.theta ≤ (n'.subs[q]).theta) (h3 : (n'.subs[q]).on = true) => sure_law HG'.out Hms.out hmt h1 h2 h3
              have Hlaw := Lib.hid hlaw
              clear hlaw hmt hbq
              generalize n'.subs[q] = t at x0 x1 x2 Hlaw ⊢
              cases hc1 : (s.id.toList == t.id.toList) with
              | false =>
                go_wp2_with fail
                go_roundw
                case rel => exact ⟨q + 1, by omega, by go_num, HBq.out.alloc HBq.out.size _⟩
                case measure => simp [intOf]; omega
              | true =>
                have hid := sq_iff.1 hc1
                have HID := Lib.hid hid
                clear hid
                by_cases hc2 : s.theta ≤ t.theta
                · cases hc3 : t.on with
                  | false =>
                    rw [hc3] at x2
                    clear hc3
                    go_wp2_with fail
                    go_roundw
                    case rel => exact ⟨q + 1, by omega, by go_num, HBq.out.alloc HBq.out.size _⟩
                    case measure => simp [intOf]; omega
                  | true =>
                    have hs := Hlaw.out HID.out hc2 hc3
                    rw [hc3] at x2
                    rw [hs] at y2
                    clear hc3 hs
                    go_wp2_with fail
                    go_roundw
                    case rel => exact ⟨q + 1, by omega, by go_num, HBq.out.alloc HBq.out.size _⟩
                    case measure => simp [intOf]; omega
                · have hc2' : decide (s.theta ≤ t.theta) = false := by simpa using hc2
                  go_wp2_with fail
                  go_roundw
                  case rel => exact ⟨q + 1, by omega, by go_num, HBq.out.alloc HBq.out.size _⟩
                  case measure => simp [intOf]; omega
            · have hqi : ¬ (q : Int) < (n'.subs.length : Int) := by omega
              go_wp2_with fail
              go_roundw
              case rel => exact ⟨j + 1, by omega, by go_num, hbq⟩
              case measure => simp [intOf]; omega
        · have hji : ¬ (j : Int) < (n'.subs.length : Int) := by omega
          go_wp2_with fail
          go_roundw
          case rel => exact ⟨k + 1, by omega, by go_num, by rw [Hsucc.out]; exact HNew.out.below (HB4.out.trans (HBi.out.mono HB4.out.size))⟩
          case measure => simp [intOf]; omega
    · have hkM : ¬ (k : Int) < (M.length : Int) := by omega
      obtain ⟨vs, hn, hvs, hbw⟩ := HNk.out
      have Hbw := Lib.hid hbw
      clear hn hvs hbw
      go_wp2_with fail
      go_ret
      exact ⟨rfl, Hbw.out⟩

end Go.Proofs.Ytmclalhjnjghnaa
