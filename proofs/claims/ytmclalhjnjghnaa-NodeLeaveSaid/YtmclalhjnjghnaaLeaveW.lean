/- The walk of hwkeep.NodeLeave. -/
import Derived.Test.YtmclalhjnjghnaaLeave
import Derived.Deep.RegionHeld3
namespace Go.Proofs.Ytmclalhjnjghnaa
open Go.RowKit Hw

set_option maxRecDepth 100000 in
theorem sub60_any (s : Sub) (id : ByteArray) (g : Nat) (w : World) (hc : w.cell? ⟨g, 0, none⟩ = some (.string id)) :
    Calls Try.prog 60 #[.agg (subCells s).toArray, .pointer (some ⟨g, 0, none⟩)] w fun e w' => e = .returned (.bool (sq s.id id)) ∧ Below w.heap.size w w' := by
  have hb : ∀ c, Below w.heap.size w (w.alloc (.cells c 85)) := fun c => (Below.refl _ _).alloc (Nat.le_refl _) _
  have hg := blt hc
  unfold subCells
  go_enter Try.func60, Try.ntmps60
  go_wp2_with fail
  go_ret
  exact ⟨rfl, hb _⟩

set_option maxRecDepth 100000 in
set_option maxHeartbeats 1000000 in
theorem index60_any (A : Option Addr) (c : Nat) (l : List Sub) (id : ByteArray) (g : Nat) (w : World) (hs : SubsR w A l) (hl : l.length ≤ 8) (hc : w.cell? ⟨g, 0, none⟩ = some (.string id)) :
    Calls Try.prog 107 #[.slice A l.length c, .func (.func 60) #[] #[.pointer (some ⟨g, 0, none⟩)]] w fun e w' => e = .returned (.int .i64 (at? (fun s => sq s.id id) l)) ∧ Below w.heap.size w w' := by
  have H := Lib.hid hs
  have HC := Lib.hid hc
  clear hs hc
  go_enter Try.func107, Try.ntmps107
  go_wp2_with fail
  go_loopw [5, 8] (fun _ i wr => ∃ k : Nat, k ≤ l.length ∧ i = .int .i64 k ∧ Hid (Below w.heap.size w wr) ∧ Hid (∀ j (hj : j < l.length), j < k → (fun s => sq s.id id) (l[j]) = false)) (fun _ i _ => l.length - (intOf i).toNat)
  case atStart => exact ⟨0, by omega, rfl, Below.refl _ _, fun j hj h => by omega⟩
  case round =>
    obtain ⟨k, hk, rfl, HB, HJ⟩ := hrel
    by_cases hlt : k < l.length
    · obtain ⟨g', off, rfl, hp⟩ := (H.out.below HB.out) (by omega)
      obtain ⟨h0, h1, h2⟩ := hp k hlt
      have hx := bsome HB.out HC.out
      have hkl : (k : Int) < (l.length : Int) := by omega
      have hk0 : (0 : Int) ≤ (k : Int) := by omega
      have hkw : IntKind.i64.wrap ((k : Int) + 1) = (k : Int) + 1 := IntWalk.i64_in _ (by omega)
      clear hp
      go_wp2_with (go_at_call 60; refine (sub60_any _ id g _ hx).mono ?_; rintro e w1 ⟨rfl, hb1⟩; have Hb1 := Lib.hid hb1; clear hb1)
      · have hs : sq (l[k]).id id = true := by assumption
        go_ret
        exact ⟨ret_int (at_found (f := fun s => sq s.id id) hlt hs HJ.out).symm, HB.out.trans (Hb1.out.mono HB.out.size)⟩
      · have hs : sq (l[k]).id id = false := by assumption
        go_roundw
        case rel => exact ⟨k + 1, by omega, by go_num, HB.out.trans (Hb1.out.mono HB.out.size), fun j hj hjk => by
          by_cases e : j = k
          · subst e; exact hs
          · exact HJ.out j hj (by omega)⟩
        case measure => simp [intOf]; omega
    · have hkl : ¬ (k : Int) < (l.length : Int) := by omega
      go_wp2_with fail
      go_ret
      exact ⟨ret_int (at_none fun j hj => HJ.out j hj (by omega)).symm, HB.out⟩

set_option maxRecDepth 100000 in
theorem contains60_any (A : Option Addr) (c : Nat) (l : List Sub) (id : ByteArray) (g : Nat) (w : World) (hs : SubsR w A l) (hl : l.length ≤ 8) (hc : w.cell? ⟨g, 0, none⟩ = some (.string id)) :
    Calls Try.prog 59 #[.slice A l.length c, .func (.func 60) #[] #[.pointer (some ⟨g, 0, none⟩)]] w fun e w' => e = .returned (.bool (decide (0 ≤ at? (fun s => sq s.id id) l))) ∧ Below w.heap.size w w' := by
  have H := Lib.hid hs
  have HC := Lib.hid hc
  clear hs hc
  go_enter Try.func59, Try.ntmps59
  go_wp2_with (go_at_call 107; refine (index60_any A c l id g _ H.out hl HC.out).mono ?_; rintro e w1 ⟨rfl, hb1⟩; have Hb1 := Lib.hid hb1; clear hb1)
  go_ret
  exact ⟨rfl, Hb1.out⟩

set_option maxRecDepth 100000 in
theorem peer63_any (p : Peer) (u : Value) (id : ByteArray) (g : Nat) (w : World) (hc : w.cell? ⟨g, 0, none⟩ = some (.string id)) :
    Calls Try.prog 63 #[.agg (peerCells p u).toArray, .pointer (some ⟨g, 0, none⟩)] w fun e w' => e = .returned (.bool (sq p.id id)) ∧ Below w.heap.size w w' := by
  have hb : ∀ c, Below w.heap.size w (w.alloc (.cells c 40)) := fun c => (Below.refl _ _).alloc (Nat.le_refl _) _
  have hg := blt hc
  have hc2 := fun c => bsome (hb c) hc
  go_enter Try.func63, Try.ntmps63
  go_wp2_with fail
  go_ret
  exact ⟨rfl, hb _⟩

set_option maxRecDepth 100000 in
set_option maxHeartbeats 1000000 in
theorem index63_any (A : Option Addr) (c : Nat) (l : List Peer) (id : ByteArray) (g : Nat) (w : World) (h : PeersR w A l) (hl : l.length ≤ 6) (hc : w.cell? ⟨g, 0, none⟩ = some (.string id)) :
    Calls Try.prog 62 #[.slice A l.length c, .func (.func 63) #[] #[.pointer (some ⟨g, 0, none⟩)]] w fun e w' => e = .returned (.int .i64 (at? (fun p => sq p.id id) l)) ∧ Below w.heap.size w w' := by
  have H := Lib.hid h
  have HC := Lib.hid hc
  clear h hc
  go_enter Try.func62, Try.ntmps62
  go_wp2_with fail
  go_loopw [5, 8] (fun _ i wr => ∃ k : Nat, k ≤ l.length ∧ i = .int .i64 k ∧ Hid (Below w.heap.size w wr) ∧ Hid (∀ j (hj : j < l.length), j < k → sq (l[j]).id id = false)) (fun _ i _ => l.length - (intOf i).toNat)
  case atStart => exact ⟨0, by omega, rfl, Below.refl _ _, fun j hj h => by omega⟩
  case round =>
    obtain ⟨k, hk, rfl, HB, HJ⟩ := hrel
    by_cases hlt : k < l.length
    · obtain ⟨g', off, rfl, hp⟩ := (H.out.below HB.out) (by omega)
      obtain ⟨A', c', h0, h1, h2, h3, h4, h5, h6, -, -⟩ := hp k hlt
      have hd := bsome HB.out HC.out
      have hkl : (k : Int) < (l.length : Int) := by omega
      have hk0 : (0 : Int) ≤ (k : Int) := by omega
      have hkw : IntKind.i64.wrap ((k : Int) + 1) = (k : Int) + 1 := IntWalk.i64_in _ (by omega)
      clear hp
      go_wp2_with (go_at_call 63; refine (peer63_any _ _ id g _ hd).mono ?_; rintro e w1 ⟨rfl, hb1⟩; have Hb1 := Lib.hid hb1; clear hb1)
      · have hs : sq l[k].id id = true := by assumption
        go_ret
        exact ⟨ret_int (at_found (f := fun p => sq p.id id) hlt hs HJ.out).symm, HB.out.trans (Hb1.out.mono HB.out.size)⟩
      · have hs : sq l[k].id id = false := by assumption
        go_roundw
        case rel => exact ⟨k + 1, by omega, by go_num, HB.out.trans (Hb1.out.mono HB.out.size), fun j hj hjk => by
          by_cases e : j = k
          · subst e; exact hs
          · exact HJ.out j hj (by omega)⟩
        case measure => simp [intOf]; omega
    · have hkl : ¬ (k : Int) < (l.length : Int) := by omega
      go_wp2_with fail
      go_ret
      exact ⟨ret_int (at_none fun j hj => HJ.out j hj (by omega)).symm, HB.out⟩


set_option maxRecDepth 100000 in
theorem now_cell (b : Nat) (z : Int) (w : World) (h : w.cell? ⟨b, 5, none⟩ = some (.int .i64 z)) : Calls Try.prog 35 #[.pointer (some ⟨b, 0, none⟩)] w fun e w' => e = .returned (.int .i64 z) ∧ w = w' := by
  go_enter Try.func35, Try.ntmps35
  go_wp2
  go_ret
  exact ⟨rfl, rfl⟩

theorem ints_of {w : World} {g o : Nat} {z : Int} (h : w.cell? ⟨g, o, none⟩ = some (.int .i64 z)) : Ints w (some ⟨g, o, none⟩) [z] := fun _ =>
  ⟨g, o, rfl, fun j hj => by
    have : j = 0 := by simp at hj; omega
    subst this
    exact h⟩

theorem nm_in3 (i : Nat) (hi : i < 3) : nm i ∈ I3 := by
  obtain rfl | rfl | rfl : i = 0 ∨ i = 1 ∨ i = 2 := by omega
  all_goals simp [I3]

theorem nm3_cell (k : Nat) (hk : k < 3) : #[Value.string (ByteArray.mk #[98]), .string (ByteArray.mk #[99]), .string (ByteArray.mk #[100])][k]? = some (.string (nm k)) := by
  obtain rfl | rfl | rfl : k = 0 ∨ k = 1 ∨ k = 2 := by omega
  all_goals rfl

theorem nm_ne (i : Nat) : sq (nm i) (ByteArray.mk #[97]) = false := by
  unfold nm
  split <;> decide +kernel

set_option maxRecDepth 100000 in
set_option maxHeartbeats 2000000 in
theorem leavew_any (every least : Int) (A : Option Addr) (cc : Nat) (L : List (List Int)) (kk : Int) (w : World) (hL : ListsR w A L) (hcc : L.length ≤ cc) (hl : L.length ≤ 17592186044416) :
    Calls Try.prog 16 #[.int .i64 every, .int .i64 least, .slice A L.length cc, .int .i64 kk] w fun e w' => e = .returned (.bool true) ∧ Below w.heap.size w w' := by
  have HL := Lib.hid hL
  clear hL
  go_enter Try.func16, Try.ntmps16
  go_wp2_with (first
    | (go_at_call 28; refine (nodebegun_any _).mono ?_; rintro e w1 ⟨rfl, hb1⟩; have HB1 := Lib.hid hb1; clear hb1)
    | (go_at_call 29; refine (one_any every least _).mono ?_; rintro e w2 ⟨⟨b, rfl, hb, hn⟩, hb2⟩; have HB2 := Lib.hid (HB1.out.trans (hb2.mono HB1.out.size)); have HN2 := Lib.hid hn; have Hb := Lib.hid (Nat.le_trans HB1.out.size hb); clear hb hn hb2)
    | fail)
  rw [show min (L.length : Int) 40 = ((L.take 40).length : Int) from take_min L 40, Int.toNat_natCast, Int.max_eq_left (by omega)]
  have hM : (L.take 40).length ≤ 40 := by rw [List.length_take]; omega
  have hMc : (L.take 40).length ≤ cc := by rw [List.length_take]; omega
  have HM := Lib.hid (HL.out.take 40)
  generalize L.take 40 = M at HM hM hMc ⊢
  have hG := ones_good every least
  have hC := (ones_same every least 3).2.1
  have hD := (ones_same every least 3).2.2.2.2
  have hS := (ones_same every least 3).1
  generalize ones every least 3 = n0 at HN2 hG hC hD hS
  have HG := Lib.hid hG
  have HC := Lib.hid hC
  have HD := Lib.hid hD
  have HS := Lib.hid hS
  clear hG hC hD hS
  go_loopw [28] (fun i wr => ∃ k : Nat, k ≤ M.length ∧ i = .int .i64 k ∧ Hid (NewAt w wr b (askedAll n0 M k))) (fun i _ => M.length - (intOf i).toNat)
  case atStart => exact ⟨0, by omega, rfl, _, HN2.out, fun q hq => by simp [Value.ownBlock] at hq, HB2.out⟩
  case round =>
    obtain ⟨k, hk, rfl, HNk⟩ := hrel
    by_cases hlt : k < M.length
    · obtain ⟨vs, hn, hvs, hbw⟩ := HNk.out
      obtain ⟨A0, off, rfl, hc⟩ := (HM.out.below (hbw.mono (Nat.le_refl _))) (by omega)
      obtain ⟨A', c', h1, h2, h3⟩ := hc k hlt
      have hkM : (k : Int) < (M.length : Int) := by omega
      have hk0 : (0 : Int) ≤ (k : Int) := by omega
      have hkw : IntKind.i64.wrap ((k : Int) + 1) = (k : Int) + 1 := IntWalk.i64_in _ (by omega)
      have hg := askedAll_good HG.out M k
      have hsucc := askedAll_succ n0 M k hlt
      have hkept := askedAll_kept n0 M (k + 1) (by omega)
      rw [hsucc] at hkept
      generalize askedAll n0 M k = n at hn hg hsucc hkept
      have hg' := (asked_good hg M[k]).1
      generalize M[k] = c at h1 h2 h3 hsucc hg' hkept
      have hE : ∃ n', (asked n c).1 = n' := ⟨_, rfl⟩
      obtain ⟨n', hE⟩ := hE
      rw [hE] at hsucc hg' hkept
      have hbn := hn.lt
      have HN := Lib.hid hn
      have HGn := Lib.hid hg
      have HG' := Lib.hid hg'
      have HKt := Lib.hid hkept
      have HVS := Lib.hid hvs
      have HBW := Lib.hid hbw
      have HI := Lib.hid h2
      have Hsucc := Lib.hid hsucc
      have HE := Lib.hid hE
      have hA0 := bsome (Below.refl wr.heap.size wr) h1
      clear hn hg hg' hvs hbw hc h2 hsucc h1 hE hkept
      go_wp2_with (first
        | (go_at_call 43; refine (asked_any b vs n _ c' c _ HN.out HGn.out HI.out h3).mono ?_; rintro e w3 ⟨⟨vn, rfl, ho⟩, vs', hn', hv', ht'⟩; rw [HE.out] at hn'; have HNew := Lib.hid (NewAt.post HVS.out HBW.out Hb.out hn' hv' ht'); have HN' := Lib.hid hn'; clear ho hn' hv' ht')
        | fail)
      go_roundw
      case rel => exact ⟨k + 1, by omega, by go_num, by rw [Hsucc.out]; exact HNew.out⟩
      case measure => simp [intOf]; omega
    · have hkM : ¬ (k : Int) < (M.length : Int) := by omega
      obtain ⟨vs, hn, hvs, hbw⟩ := HNk.out
      have hgood := askedAll_good HG.out M k
      have hc4 := (askedAll_kept n0 M k hk).1
      rw [HC.out] at hc4
      generalize askedAll n0 M k = n at hn hgood hc4 HNk
      obtain ⟨m, hm⟩ := Int.eq_ofNat_of_zero_le (within_in (n := kk) (k := 3) (by omega)).1
      have hm3 : m < 3 := by have := (within_in (n := kk) (k := 3) (by omega)).2; omega
      have hm3' : (m : Int) < 3 := by omega
      have hm0 : (0 : Int) ≤ (m : Int) := by omega
      obtain ⟨q, hq, hqi, hleave⟩ := leaves hgood (nm_in3 m hm3)
      have hagain := leaves_again hgood hq hqi
      have hlev := left_level hgood hq hqi
      have hlv := left_lv hgood hq (id := nm m)
      have hsubs := left_subs (n := n) (id := nm m) (k := q)
      have hcid : n.c.id = ByteArray.mk #[97] := by rw [hc4]
      have hwat := watches hgood hq hqi (by rw [hcid]; exact nm_ne m) (by rw [hc4]; show (1 : Int) ≤ 4; decide) (by rw [hc4]; show (4 : Int) ≤ 64; decide)
      have hbf := back_find hgood hq hqi
      have hwa : watch (backN n q (nm m)) (ByteArray.mk #[97]) 9 = (backN n q (nm m), 5) := by
        unfold watch
        rw [if_pos]
        show sq (ByteArray.mk #[97]) n.c.id = true
        rw [hcid]
        exact sq_iff.2 rfl
      have h8 := hgood.subs.s8
      have h8l : (leftN n q (nm m)).subs.length ≤ 8 := Nat.le_trans (List.length_filter_le _ _) h8
      have hpl : (backN n q (nm m)).peers.length ≤ 6 := by
        have := hgood.inv.ordered.1
        show (insertAt _ _ _).length ≤ 6
        unfold insertAt
        simp only [List.length_append, List.length_cons, List.length_take, List.length_drop, List.length_eraseIdx, if_pos hq]
        omega
      have hpv : ∀ (k : Nat) (p : Peer), (backN n q (nm m)).peers[k]? = some p → p.vals.length ≤ 64 := fun k p hk => by
        have hmem : p ∈ insertAt (n.peers.eraseIdx q) (place (n.peers.eraseIdx q) (nm m)) (addPeer (nm m) n.c.cap 9 n.now) := List.mem_of_getElem? hk
        unfold insertAt at hmem
        rcases List.mem_append.1 hmem with h | h
        · exact win_len (hgood.inv.peer ((List.eraseIdx_sublist _ _).subset (List.take_subset _ _ h))).win
        · rcases List.mem_cons.1 h with h | h
          · rw [h]
            show 1 ≤ 64
            omega
          · exact win_len (hgood.inv.peer ((List.eraseIdx_sublist _ _).subset (List.drop_subset _ _ h))).win
      have hat : at? (fun s => sq s.id (nm m)) (leftN n q (nm m)).subs = -1 := at_none fun j hj => hsubs _ (List.getElem_mem hj)
      rcases at_cases (fun p => sq p.id (nm m)) (backN n q (nm m)).peers with ⟨-, hf⟩ | ⟨i, hi, hati, hfi, -⟩
      · rw [hbf] at hf
        cases hf
      rw [hbf] at hfi
      injection hfi with hfi
      rw [hc4] at hfi
      have hbN : ∀ q, q < w.heap.size → ¬ NodeS b vs q := fun q hq => by
        rintro (e | e)
        · have := Hb.out
          omega
        · have := hvs q e
          omega
      have hbl := hn.lt
      have hb0 := ((Below.refl wr.heap.size wr).alloc (Nat.le_refl _) (.cells #[.string (ByteArray.mk #[98]), .string (ByteArray.mk #[99]), .string (ByteArray.mk #[100])] 9)).alloc (by simp) (.cells #[.string (nm m)] 9)
      have hn0 := hn.below hb0
      have hx := cell_of_row _ _ 0 _ 9 (0, 0) (heap_alloc2_new wr (.cells #[.string (ByteArray.mk #[98]), .string (ByteArray.mk #[99]), .string (ByteArray.mk #[100])] 9) (.cells #[.string (nm m)] 9))
      have hxs : ((wr.alloc (.cells #[.string (ByteArray.mk #[98]), .string (ByteArray.mk #[99]), .string (ByteArray.mk #[100])] 9)).alloc (.cells #[.string (nm m)] 9)).cell? ⟨wr.heap.size + 1, 0, none⟩ = some (.string (nm m)) := hx
      have hap : ¬ NodeS b vs (wr.heap.size + 1) := hn.apart _ (by omega)
      have qs := cell_of_row _ _ m _ 9 (0, 0) (heap_alloc_new wr (.cells #[.string (ByteArray.mk #[98]), .string (ByteArray.mk #[99]), .string (ByteArray.mk #[100])] 9))
      rw [nm3_cell m hm3] at qs
      have hbw0 := hbw.trans (hb0.mono hbw.size)
      have HN0 := Lib.hid hn0
      have HX := Lib.hid hxs
      have HAp := Lib.hid hap
      have HbN := Lib.hid hbN
      have HBW := Lib.hid hbw0
      have HMk := Lib.hid hm
      have HL := Lib.hid hleave
      have HA := Lib.hid hagain
      have HLev := Lib.hid hlev
      have HLv := Lib.hid hlv
      have HW := Lib.hid hwat
      have HWa := Lib.hid hwa
      have HAt := Lib.hid hat
      have HAti := Lib.hid hati
      have HPv := Lib.hid hpv
      have HFi := Lib.hid hfi
      have hnow : (backN n q (nm m)).now = n.now := rfl
      have HNow := Lib.hid hnow
      have hil : (i : Int) < ((backN n q (nm m)).peers.length : Int) := by omega
      have hi0 : (0 : Int) ≤ (i : Int) := by omega
      clear hn hgood hvs hbw HNk hn0 hx hxs hap hbN hbw0 hm hleave hagain hlev hlv hwat hwa hat hati hpv hfi hc4 hcid hbf hb0 hsubs hqi hnow
      go_wp2_with (first
        | (go_at_call 30; refine (within_any _ _ _ (by decide) (by decide)).mono ?_; rintro e w9 ⟨rfl, rfl⟩; rw [HMk.out])
        | (go_at_call 58; refine (leave_any b vs n (nm m) _ HN0.out h8).mono ?_; rintro e w4 ⟨rfl, vs4, hn4, hv4, ht4⟩; rw [HL.out] at hn4 ⊢; have x4 := ht4.cell HX.out HAp.out; have HN4 := Lib.hid hn4; have HV4 := Lib.hid hv4; have HT4 := Lib.hid ht4; clear hn4 hv4 ht4)
        | (go_at_call 58; refine (leave_any b vs4 (leftN n q (nm m)) (nm m) _ HN4.out h8l).mono ?_; rintro e w5 ⟨rfl, vs5, hn5, hv5, ht5⟩; rw [HA.out] at hn5 ⊢; have ht5' := HT4.out.vs HV4.out ht5; have x5 := ht5'.cell HX.out HAp.out; have HN5 := Lib.hid hn5; have HV5 := Lib.hid (HV4.out.trans hv5 HT4.out); have HT5 := Lib.hid ht5'; clear hn5 hv5 ht5 ht5')
        | (go_at_call 44; refine (nlevel_any b vs5 (leftN n q (nm m)) (nm m) _ HN5.out HLv.out).mono ?_; rintro e w6 ⟨rfl, hb6⟩; rw [HLev.out]; have HN6 := Lib.hid (HN5.out.below hb6); have ht6 := HT5.out.vs HV5.out (Touch.of_below hb6); have x6 := ht6.cell HX.out HAp.out; have HT6 := Lib.hid ht6; clear hb6 ht6)
        | (go_at_call 45; refine (nsubs_any b vs5 (leftN n q (nm m)) _ HN6.out h8l).mono ?_; rintro e w7 ⟨⟨v7, rfl, ho7⟩, hb7⟩; obtain ⟨A7, c7, rfl, -⟩ := own_form ho7; have HO7 := Lib.hid ho7; have HN7 := Lib.hid (HN6.out.below hb7); have ht7 := HT6.out.vs HV5.out (Touch.of_below hb7); have x7 := ht7.cell HX.out HAp.out; have HT7 := Lib.hid ht7; clear ho7 hb7 ht7)
        | (go_at_call 59; refine (contains60_any A7 c7 (leftN n q (nm m)).subs (nm m) (wr.heap.size + 1) _ (own_subs HO7.out) h8l x7).mono ?_; rintro e w8 ⟨rfl, hb8⟩; rw [HAt.out]; have HN8 := Lib.hid (HN7.out.below hb8); have ht8 := HT7.out.vs HV5.out (Touch.of_below hb8); have x8 := ht8.cell HX.out HAp.out; have HT8 := Lib.hid ht8; clear hb8 ht8)
        | (go_at_call 61; (with_reducible refine (watch_any b vs5 (leftN n q (nm m)) (nm m) 9 _ HN8.out).mono ?_); rintro e w9 ⟨rfl, hn9, ht9⟩; rw [HW.out] at hn9 ⊢; have ht9' := HT8.out.vs HV5.out (ht9.mono fun _ _ h => .inl h); have x9 := ht9'.cell HX.out HAp.out; have HN9 := Lib.hid hn9; have HT9 := Lib.hid ht9'; clear hn9 ht9 ht9')
        | (go_at_call 61; refine (watch_any b vs5 (backN n q (nm m)) (ByteArray.mk #[97]) 9 _ HN9.out).mono ?_; rintro e w10 ⟨rfl, hn10, ht10⟩; rw [HWa.out] at hn10 ⊢; have ht10' := HT9.out.vs HV5.out (ht10.mono fun _ _ h => .inl h); have x10 := ht10'.cell HX.out HAp.out; have HN10 := Lib.hid hn10; have HT10 := Lib.hid ht10'; clear hn10 ht10 ht10')
        | (go_at_call 46; refine (npeers_any b vs5 (backN n q (nm m)) _ HN10.out hpl HPv.out).mono ?_; rintro e w11 ⟨⟨v11, rfl, ho11⟩, hb11⟩; obtain ⟨A11, c11, rfl, -⟩ := ho11.form; have HP11 := Lib.hid ho11.reads; have HN11 := Lib.hid (HN10.out.below hb11); have ht11 := HT10.out.vs HV5.out (Touch.of_below hb11); have x11 := ht11.cell HX.out HAp.out; have HT11 := Lib.hid ht11; clear ho11 hb11 ht11)
        | (go_at_call 62; refine (index63_any A11 c11 (backN n q (nm m)).peers (nm m) (wr.heap.size + 1) _ HP11.out hpl x11).mono ?_; rintro e w12 ⟨rfl, hb12⟩; rw [HAti.out]; have HN12 := Lib.hid (HN11.out.below hb12); have ht12 := HT11.out.vs HV5.out (Touch.of_below hb12); have x12 := ht12.cell HX.out HAp.out; have HP12 := Lib.hid (HP11.out.below hb12); have HT12 := Lib.hid ht12; clear hb12 ht12)
        | fail)
      obtain ⟨g, off, rfl, hpk⟩ := HP12.out (by omega)
      obtain ⟨A', c', y0, y1, y2, y3, y4, y5, y6, hI, hle⟩ := hpk i hi
      rw [← HFi.out] at y0 y1 y2 y3 y4 y5 y6 hI
      obtain ⟨gA, oA, rfl, hcA⟩ := hI (by show 0 < 1; omega)
      have yA := hcA 0 (by show 0 < 1; omega)
      rw [Nat.add_zero] at yA
      change w12.cell? ⟨g, off + i * 7, none⟩ = some (.string (nm m)) at y0
      change w12.cell? ⟨g, off + i * 7 + 1, none⟩ = some (.int .i64 0) at y1
      change w12.cell? ⟨g, off + i * 7 + 2, none⟩ = some (.int .i64 0) at y2
      change w12.cell? ⟨g, off + i * 7 + 3, none⟩ = some (.int .i64 0) at y3
      change w12.cell? ⟨g, off + i * 7 + 4, none⟩ = some (.int .i64 4) at y4
      change w12.cell? ⟨g, off + i * 7 + 5, none⟩ = some (.slice (some ⟨gA, oA, none⟩) 1 c') at y5
      change w12.cell? ⟨g, off + i * 7 + 6, none⟩ = some (.int .i64 n.now) at y6
      change w12.cell? ⟨gA, oA, none⟩ = some (.int .i64 9) at yA
      obtain ⟨_, _, -, -, -, -, -, yN, -⟩ := HN12.out.cells
      rw [HNow.out] at yN
      have hn0 := blt y0
      have hn1 := blt yA
      have hn2 := blt yN
      have hn3 := blt x12
      have hige : (0 : Int) ≤ (i : Int) := hi0
      have HT := Lib.hid (Touch.below HBW.out HT12.out HBW.out.size HbN.out)
      clear hpk hI hcA
      go_region_held3 (fun w' => w'.cell? ⟨g, off + i * 7, none⟩ = some (.string (nm m)) ∧ w'.cell? ⟨g, off + i * 7 + 1, none⟩ = some (.int .i64 0) ∧ w'.cell? ⟨g, off + i * 7 + 2, none⟩ = some (.int .i64 0) ∧ w'.cell? ⟨g, off + i * 7 + 3, none⟩ = some (.int .i64 0) ∧ w'.cell? ⟨g, off + i * 7 + 4, none⟩ = some (.int .i64 4) ∧ w'.cell? ⟨g, off + i * 7 + 5, none⟩ = some (.slice (some ⟨gA, oA, none⟩) 1 c') ∧ w'.cell? ⟨g, off + i * 7 + 6, none⟩ = some (.int .i64 n.now) ∧ w'.cell? ⟨gA, oA, none⟩ = some (.int .i64 9) ∧ w'.cell? ⟨b, 5, none⟩ = some (.int .i64 n.now) ∧ w'.cell? ⟨wr.heap.size + 1, 0, none⟩ = some (.string (nm m))) (first | go_keep | (refine ⟨?_, ?_, ?_, ?_, ?_, ?_, ?_, ?_, ?_, ?_⟩ <;> exact bsome hb13 (by first | assumption | simp [*])))
        (first
          | (go_at_call 35; refine (now_cell b n.now _ ?_).mono ?_; (first | assumption | simp [*]); rintro e w' ⟨rfl, rfl⟩)
          | (go_at_call 54; refine (samepeer_same (addPeer (nm m) 4 9 n.now) (some ⟨gA, oA, none⟩) _ c' 1 _ (ints_of ?_) (ints_of ?_) (by show 1 ≤ _; omega)).mono ?_; (first | assumption | simp [*]); (first | assumption | simp [*]); rintro e w13 ⟨rfl, hb13⟩))
      all_goals
        go_wp2_with fail
        go_ret
        refine ⟨rfl, HT.out.trans (Below.mono (Below.trans ?_ (hb13.mono ?_)) HT.out.size)⟩
        · repeat first | exact Below.refl _ _ | refine Below.drew ?_ | refine Below.alloc ?_ (by simp) _ | refine below_drewN ?_ _
        · simp

end Go.Proofs.Ytmclalhjnjghnaa
