/- The walk of hwkeep.NodeWindows. -/
import Derived.Test.YtmclalhjnjghnaaKeep
import Derived.Deep.QuietTactic
import Derived.BigQuiet
namespace Go.Proofs.Ytmclalhjnjghnaa
open Go.RowKit Hw

theorem take_sum (l : List Int) (k : Nat) (hk : k < l.length) : sumOf (l.take (k + 1)) = sumOf (l.take k) + l[k] := by
  rw [List.take_succ_eq_append_getElem hk, sum_snoc]

/-- 'hwkeep.sum'. -/
theorem sum_any (A : Option Addr) (c : Nat) (l : List Int) (w : World) (h : Ints w A l) (hl : listCheck l = 0) :
    Calls Try.prog 48 #[.slice A l.length c] w fun e w' => e = .returned (.int .i64 (sumOf l)) ∧ w = w' := by
  obtain ⟨h64, hv⟩ := list_ok hl
  have H := Lib.hid h
  have HV := Lib.hid hv
  clear h hv hl
  go_enter Try.func48, Try.ntmps48
  go_wp2_with fail
  go_loop [3, 5, 8] (fun s _ i => ∃ k : Nat, k ≤ l.length ∧ i = .int .i64 k ∧ s = .int .i64 (sumOf (l.take k))) (fun _ _ i => l.length - (intOf i).toNat)
  case atStart => exact ⟨0, by omega, rfl, rfl⟩
  case round =>
    obtain ⟨k, hk, rfl, rfl⟩ := hrel
    by_cases hlt : k < l.length
    · obtain ⟨b, off, rfl, hc⟩ := H.out (by omega)
      have q := hc k hlt
      have hd : l.getD k 0 = l[k] := by rw [List.getD_eq_getElem?_getD, List.getElem?_eq_getElem hlt]; rfl
      rw [hd] at q
      have hin := sums_in (l.take k) fun x hx => HV.out x (List.mem_of_mem_take hx)
      have hx := HV.out l[k] (List.getElem_mem hlt)
      have hts := take_sum l k hlt
      have hkl : (l.take k).length = k := by rw [List.length_take]; omega
      rw [hkl] at hin
      have hkw : IntKind.i64.wrap ((k : Int) + 1) = (k : Int) + 1 := IntWalk.i64_in _ (by omega)
      have hki : (k : Int) < (l.length : Int) := by omega
      have hk0 : (0 : Int) ≤ (k : Int) := by omega
      have HT := Lib.hid hts
      obtain ⟨i1, i2, -⟩ := hin
      clear hc hd hts hkl
      generalize sumOf (l.take k) = z at i1 i2 HT ⊢
      generalize l[k] = y at q hx HT
      have hzw : IntKind.i64.wrap (z + y) = z + y := IntWalk.i64_in _ (by omega)
      go_wp2_with fail
      go_round
      case rel => exact ⟨k + 1, by omega, by go_num, by rw [HT.out]⟩
      case measure => simp [intOf]; omega
    · have hki : ¬ (k : Int) < (l.length : Int) := by omega
      go_wp2_with fail
      go_ret
      rw [List.take_of_length_le (by omega)]
      exact ⟨rfl, rfl⟩


set_option maxRecDepth 100000 in
set_option maxHeartbeats 2000000 in
theorem windows_any (every least : Int) (A : Option Addr) (cc : Nat) (L : List (List Int)) (w : World) (hL : ListsR w A L) (hcc : L.length ≤ cc) (hl : L.length ≤ 17592186044416) :
    Calls Try.prog 10 #[.int .i64 every, .int .i64 least, .slice A L.length cc] w fun e w' => e = .returned (.bool true) ∧ Below w.heap.size w w' := by
  have HL := Lib.hid hL
  clear hL
  go_enter Try.func10, Try.ntmps10
  go_wp2_with (first
    | (go_at_call 28; refine (nodebegun_any _).mono ?_; rintro e w1 ⟨rfl, hb1⟩; have HB1 := Lib.hid hb1; clear hb1)
    | (go_at_call 29; refine (one_any every least _).mono ?_; rintro e w2 ⟨⟨b, rfl, hb, hn⟩, hb2⟩; have HB2 := Lib.hid (HB1.out.trans (hb2.mono HB1.out.size)); have HN2 := Lib.hid hn; have Hb := Lib.hid (Nat.le_trans HB1.out.size hb); clear hb hn hb2)
    | fail)
  rw [show min (L.length : Int) 80 = ((L.take 80).length : Int) from take_min L 80, Int.toNat_natCast, Int.max_eq_left (by omega)]
  have hM : (L.take 80).length ≤ 80 := by rw [List.length_take]; omega
  have hMc : (L.take 80).length ≤ cc := by rw [List.length_take]; omega
  have HM := Lib.hid (HL.out.take 80)
  generalize L.take 80 = M at HM hM hMc ⊢
  have hG := ones_good every least
  have hC := (ones_same every least 3).2.1
  have hD := (ones_same every least 3).2.2.2.2
  have hS := (ones_same every least 3).1
  generalize ones every least 3 = n0 at HN2 hG hC hD hS
  have HG := Lib.hid hG
  have HC := Lib.hid hC
  have HD := Lib.hid hD
  have HS := Lib.hid hS
  clear hG hC hD hS
  go_loopw [24] (fun i wr => ∃ k : Nat, k ≤ M.length ∧ i = .int .i64 k ∧ Hid (NewAt w wr b (askedAll n0 M k))) (fun i _ => M.length - (intOf i).toNat)
  case atStart => exact ⟨0, by omega, rfl, _, HN2.out, fun q hq => by simp [Value.ownBlock] at hq, HB2.out⟩
  case round =>
    obtain ⟨k, hk, rfl, HNk⟩ := hrel
    by_cases hlt : k < M.length
    · obtain ⟨vs, hn, hvs, hbw⟩ := HNk.out
      obtain ⟨A0, off, rfl, hc⟩ := (HM.out.below (hbw.mono (Nat.le_refl _))) (by omega)
      obtain ⟨A', c', h1, h2, h3⟩ := hc k hlt
      have hkM : (k : Int) < (M.length : Int) := by omega
      have hk0 : (0 : Int) ≤ (k : Int) := by omega
      have hkw : IntKind.i64.wrap ((k : Int) + 1) = (k : Int) + 1 := IntWalk.i64_in _ (by omega)
      have hg := askedAll_good HG.out M k
      have hsucc := askedAll_succ n0 M k hlt
      have hkept := askedAll_kept n0 M (k + 1) (by omega)
      rw [hsucc] at hkept
      generalize askedAll n0 M k = n at hn hg hsucc hkept
      have hg' := (asked_good hg M[k]).1
      generalize M[k] = c at h1 h2 h3 hsucc hg' hkept
      have hE : ∃ n', (asked n c).1 = n' := ⟨_, rfl⟩
      obtain ⟨n', hE⟩ := hE
      rw [hE] at hsucc hg' hkept
      have hbn := hn.lt
      have HN := Lib.hid hn
      have HGn := Lib.hid hg
      have HG' := Lib.hid hg'
      have HKt := Lib.hid hkept
      have HVS := Lib.hid hvs
      have HBW := Lib.hid hbw
      have HI := Lib.hid h2
      have Hsucc := Lib.hid hsucc
      have HE := Lib.hid hE
      have hA0 := bsome (Below.refl wr.heap.size wr) h1
      clear hn hg hg' hvs hbw hc h2 hsucc h1 hE hkept
      have hnow : n'.now = n'.now := rfl
      obtain ⟨hlen, -⟩ := HG'.out.inv.ordered
      have hv64 : ∀ (k : Nat) (p : Peer), n'.peers[k]? = some p → p.vals.length ≤ 64 := fun k p hp => win_len (HG'.out.inv.peer (List.mem_of_getElem? hp)).win
      have HV := Lib.hid hv64
      have HL6 := Lib.hid hlen
      have hl3 : n'.peers.length = 3 := by have := congrArg List.length HG'.out.inv.ids; simpa [I3] using this
      have HL3 := Lib.hid hl3
      have Hpc := Lib.hid HG'.out.inv.pc
      have hcap : n'.c.cap = 4 := by rw [HKt.out.1, HC.out]
      have Hcap := Lib.hid hcap
      clear hnow hv64 hlen hl3 hcap
      go_wp2_with (first
        | (go_at_call 43; refine (asked_any b vs n _ c' c _ HN.out HGn.out HI.out h3).mono ?_; rintro e w3 ⟨⟨vn, rfl, ho⟩, vs', hn', hv', ht'⟩; rw [HE.out] at hn'; have HNew := Lib.hid (NewAt.post HVS.out HBW.out Hb.out hn' hv' ht'); have HN' := Lib.hid hn'; clear ho hn' hv' ht')
        | (go_at_call 46; refine (npeers_any b vs' n' _ HN'.out HL6.out HV.out).mono ?_; rintro e w4 ⟨⟨v4, rfl, ho4⟩, hb4⟩; obtain ⟨A4, c4, rfl, -⟩ := ho4.form; have HO4 := Lib.hid ho4; have HB4 := Lib.hid hb4; rw [HL3.out]; have HR4 := Lib.hid ho4.reads; clear ho4 hb4)
        | (go_at_call 47; rw [← HL3.out]; refine (check_any A4 c4 n'.peers _ HR4.out).mono ?_; rintro e w5 ⟨rfl, hb5⟩; rw [Hpc.out]; have HB5 := Lib.hid (HB4.out.trans (hb5.mono HB4.out.size)); have HR5 := Lib.hid (HR4.out.below hb5); have HNN := Lib.hid (HN'.out.below HB5.out); clear hb5)
        | fail)
      have h6 := HL6.out
      go_loopw [43] (fun i wr => ∃ j : Nat, j ≤ n'.peers.length ∧ i = .int .i64 j ∧ Hid (Below w5.heap.size w5 wr)) (fun i _ => n'.peers.length - (intOf i).toNat)
      case atStart => exact ⟨0, by omega, rfl, Below.refl _ _⟩
      case round =>
        obtain ⟨j, hj, rfl, HBi⟩ := hrel
        by_cases hjl : j < n'.peers.length
        · obtain ⟨g, off, rfl, hpk⟩ := (HR5.out.below HBi.out) (by omega)
          obtain ⟨A', c', x0, x1, x2, x3, x4, x5, x6, hI, hle⟩ := hpk j hjl
          have hjw : IntKind.i64.wrap ((j : Int) + 1) = (j : Int) + 1 := IntWalk.i64_in _ (by omega)
          have hji : (j : Int) < (n'.peers.length : Int) := by omega
          have hj0 : (0 : Int) ≤ (j : Int) := by omega
          have hm := List.getElem_mem hjl
          obtain ⟨hc1, hv1⟩ := HG'.out.inv.win _ hm
          have hw := (HG'.out.inv.peer hm).win
          have hla := HG'.out.inv.last _ hm
          have hl4 := (win_parts hw).2.2.1
          rw [hc1, Hcap.out] at hl4
          have hlc := win_list hw
          have hs0 := (sums_in _ (list_ok hlc).2).1
          have HBa := Lib.hid (HBi.out.alloc HBi.out.size (.cells (peerCells (n'.peers[j]) (.slice A' (n'.peers[j]).vals.length c')).toArray 40))
          have hgl := blt x0
          clear hpk hm hc1 hw
          generalize n'.peers[j] = p at x0 x1 x2 x3 x4 x5 x6 hI hle hla hl4 hlc hs0 hv1 HBa ⊢
          have hl4' : ((p.vals.length : Int) > 4) = False := by simp; omega
          have d1 : decide ((4 : Int) < (p.vals.length : Int)) = false := by simp; omega
          have d2 : decide ((p.vals.length : Int) < 1) = false := by simp; omega
          have d3 : decide (n'.now < p.last) = false := by simp; omega
          have d4 : decide (sumOf p.vals < 0) = false := by simp; omega
          have HI := Lib.hid (hI.below (((Below.refl wr.heap.size wr).alloc (Nat.le_refl _) (.cells (peerCells p (.slice A' p.vals.length c')).toArray 40))))
          have HNj := Lib.hid (HNN.out.below HBa.out)
          have Hlc := Lib.hid hlc
          clear hI hlc hl4'
          go_wp2_with fail
          go_quiet ((first
            | (go_at_call 35; exact Calls.quiet_of_same (now_any b vs' n' _ (HNj.out.below (below_drewN (Below.refl _ _) _))))
            | (go_at_call 48; exact Calls.quiet_of_same ((sum_any A' c' p.vals _ (HI.out.below (below_drewN (Below.refl _ _) _)) Hlc.out).mono fun _ _ ⟨h1, h2⟩ => ⟨h1, h2.symm⟩))))
          go_wp2_with fail
          go_roundw
          case rel => exact ⟨j + 1, by omega, by go_num, below_drewN HBa.out _⟩
          case measure => simp [intOf]; omega
        · have hji : ¬ (j : Int) < (n'.peers.length : Int) := by omega
          go_wp2_with fail
          go_roundw
          case rel => exact ⟨k + 1, by omega, by go_num, by rw [Hsucc.out]; exact HNew.out.below (HB5.out.trans (HBi.out.mono HB5.out.size))⟩
          case measure => simp [intOf]; omega
    · have hkM : ¬ (k : Int) < (M.length : Int) := by omega
      obtain ⟨vs, hn, hvs, hbw⟩ := HNk.out
      have Hbw := Lib.hid hbw
      clear hn hvs hbw
      go_wp2_with fail
      go_ret
      exact ⟨rfl, Hbw.out⟩

end Go.Proofs.Ytmclalhjnjghnaa
