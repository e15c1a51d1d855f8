/- The walk of hwkeep.NodeQuiet. -/
import Derived.Test.YtmclalhjnjghnaaNodeFns
import Derived.Test.YtmclalhjnjghnaaQuietLaw
import Derived.Test.YtmclalhjnjghnaaSame
import Derived.StillTailTactics
namespace Go.Proofs.Ytmclalhjnjghnaa
open Go.RowKit Hw

/-- Peers, the drops of the first of them struck. -/
def zerTo (l : List Peer) (k : Nat) : List Peer := (l.take k).map zeroed ++ l.drop k

theorem zerTo_len (l : List Peer) (k : Nat) : (zerTo l k).length = l.length := by
  unfold zerTo
  rw [List.length_append, List.length_map, List.length_take, List.length_drop]
  omega

theorem zerTo_get {l : List Peer} {k : Nat} (hk : k < l.length) : (zerTo l k)[k]? = some l[k] := by
  unfold zerTo
  rw [List.getElem?_append_right (by simp; omega)]
  simp [List.length_take, Nat.min_eq_left (Nat.le_of_lt hk), hk]

theorem zerTo_succ {l : List Peer} {k : Nat} (hk : k < l.length) : zerTo l (k + 1) = (zerTo l k).set k (zeroed l[k]) := by
  have hm : ((l.take k).map zeroed).length = k := by simp; omega
  unfold zerTo
  rw [List.take_succ_eq_append_getElem hk, List.map_append, List.set_append_right _ _ (by omega), hm, Nat.sub_self, List.drop_eq_getElem_cons hk, List.set_cons_zero, List.append_assoc]
  rfl

theorem zerTo_zero (l : List Peer) : zerTo l 0 = l := by simp [zerTo]

theorem OwnP.touch {w w' : World} {b : Nat} {vs : Value} {n : Hw.Node} {B : Nat} {v : Value} {l : List Peer} (hn : NodeAt w b vs n) (ht : Touch (NodeS b vs) w w') (h : OwnP w B v l) : OwnP w' B v l :=
  h.typed fun q c t ht' hc => ht.block q (Array.getElem?_eq_some_iff.1 hc).1 (hn.other hc (by rcases ht' with e | e <;> rw [e] <;> decide) (by rcases ht' with e | e <;> rw [e] <;> decide))

theorem OwnP.above {w w' : World} {B : Nat} {v : Value} {l : List Peer} (h : OwnP w B v l) (hk : ∀ k, B ≤ k → k < w.heap.size → w'.heap[k]? = w.heap[k]?) : OwnP w' B v l := by
  obtain ⟨vs, h1, h2, h3⟩ := h
  have key : ∀ {e : TypeId} {s : Nat} {v : Value} {n : Nat} {xs : List Value}, w.ownsRow B e s v n xs → w'.ownsRow B e s v n xs := fun h => by
    obtain ⟨h1, h2 | ⟨g, cap, cur, e1, e2, e3, e4⟩⟩ := h
    · exact ⟨h1, .inl h2⟩
    · exact ⟨h1, .inr ⟨g, cap, cur, e1, e2, (hk g e2 (Array.getElem?_eq_some_iff.1 e3).1).trans e3, e4⟩⟩
  exact ⟨vs, h1, key h2, fun k u p a b => key (h3 k u p a b)⟩

theorem OwnP.toV {w : World} {B : Nat} {v : Value} {l : List Peer} (h : OwnP w B v l) : ∃ vs, OwnV w B v l vs := by
  obtain ⟨vs, h⟩ := h
  exact ⟨vs, h⟩

set_option maxRecDepth 100000 in
set_option maxHeartbeats 2000000 in
theorem quietw_any (every least : Int) (A : Option Addr) (cc : Nat) (L : List (List Int)) (s : ByteArray) (w : World) (hL : ListsR w A L) (hcc : L.length ≤ cc) (hl : L.length ≤ 17592186044416) :
    Calls Try.prog 12 #[.int .i64 every, .int .i64 least, .slice A L.length cc, .string s] w fun e w' => e = .returned (.bool true) ∧ Below w.heap.size w w' := by
  have HL := Lib.hid hL
  clear hL
  go_enter Try.func12, Try.ntmps12
  go_wp2_with (first
    | (go_at_call 28; refine (nodebegun_any _).mono ?_; rintro e w1 ⟨rfl, hb1⟩; have HB1 := Lib.hid hb1; clear hb1)
    | (go_at_call 29; refine (one_any every least _).mono ?_; rintro e w2 ⟨⟨b, rfl, hb, hn⟩, hb2⟩; have HB2 := Lib.hid (HB1.out.trans (hb2.mono HB1.out.size)); have HN2 := Lib.hid hn; have Hb := Lib.hid (Nat.le_trans HB1.out.size hb); clear hb hn hb2)
    | fail)
  rw [show min (L.length : Int) 40 = ((L.take 40).length : Int) from take_min L 40, Int.toNat_natCast, Int.max_eq_left (by omega)]
  have hM : (L.take 40).length ≤ 40 := by rw [List.length_take]; omega
  have hMc : (L.take 40).length ≤ cc := by rw [List.length_take]; omega
  have HM := Lib.hid (HL.out.take 40)
  generalize L.take 40 = M at HM hM hMc ⊢
  have hG := ones_good every least
  have hC := (ones_same every least 3).2.1
  have hD := (ones_same every least 3).2.2.2.2
  have hS := (ones_same every least 3).1
  generalize ones every least 3 = n0 at HN2 hG hC hD hS
  have HG := Lib.hid hG
  have HC := Lib.hid hC
  have HD := Lib.hid hD
  have HS := Lib.hid hS
  clear hG hC hD hS
  go_loopw [32] (fun i wr => ∃ k : Nat, k ≤ M.length ∧ i = .int .i64 k ∧ Hid (NewAt w wr b (askedAll n0 M k))) (fun i _ => M.length - (intOf i).toNat)
  case atStart => exact ⟨0, by omega, rfl, _, HN2.out, fun q hq => by simp [Value.ownBlock] at hq, HB2.out⟩
  case round =>
    obtain ⟨k, hk, rfl, HNk⟩ := hrel
    by_cases hlt : k < M.length
    · obtain ⟨vs, hn, hvs, hbw⟩ := HNk.out
      obtain ⟨A0, off, rfl, hc⟩ := (HM.out.below (hbw.mono (Nat.le_refl _))) (by omega)
      obtain ⟨A', c', h1, h2, h3⟩ := hc k hlt
      have hkM : (k : Int) < (M.length : Int) := by omega
      have hk0 : (0 : Int) ≤ (k : Int) := by omega
      have hkw : IntKind.i64.wrap ((k : Int) + 1) = (k : Int) + 1 := IntWalk.i64_in _ (by omega)
      have hg := askedAll_good HG.out M k
      have hsucc := askedAll_succ n0 M k hlt
      have hkept := askedAll_kept n0 M (k + 1) (by omega)
      rw [hsucc] at hkept
      generalize askedAll n0 M k = n at hn hg hsucc hkept
      have hg' := (asked_good hg M[k]).1
      generalize M[k] = c at h1 h2 h3 hsucc hg' hkept
      have hE : ∃ n', (asked n c).1 = n' := ⟨_, rfl⟩
      obtain ⟨n', hE⟩ := hE
      rw [hE] at hsucc hg' hkept
      have hbn := hn.lt
      have HN := Lib.hid hn
      have HGn := Lib.hid hg
      have HG' := Lib.hid hg'
      have HKt := Lib.hid hkept
      have HVS := Lib.hid hvs
      have HBW := Lib.hid hbw
      have HI := Lib.hid h2
      have Hsucc := Lib.hid hsucc
      have HE := Lib.hid hE
      have hA0 := bsome (Below.refl wr.heap.size wr) h1
      clear hn hg hg' hvs hbw hc h2 hsucc h1 hE hkept
      go_wp2_with (first
        | (go_at_call 43; refine (asked_any b vs n _ c' c _ HN.out HGn.out HI.out h3).mono ?_; rintro e w3 ⟨⟨vn, rfl, ho⟩, vs', hn', hv', ht'⟩; rw [HE.out] at hn'; have HNew := Lib.hid (NewAt.post HVS.out HBW.out Hb.out hn' hv' ht'); have HN' := Lib.hid hn'; clear ho hn' hv' ht')
        | fail)
      go_roundw
      case rel => exact ⟨k + 1, by omega, by go_num, by rw [Hsucc.out]; exact HNew.out⟩
      case measure => simp [intOf]; omega
    · have hkM : ¬ (k : Int) < (M.length : Int) := by omega
      obtain ⟨vs, hn, hvs, hbw⟩ := HNk.out
      have hgood := askedAll_good HG.out M k
      have hdr := (askedAll_kept n0 M k hk).2.1
      rw [HD.out] at hdr
      generalize askedAll n0 M k = n at hn hgood hdr HNk
      have hap := hn.apart
      have h8 := hgood.subs.s8
      have hd1 := hgood.inv.d1
      have hd2 := hgood.inv.d2
      have hbN : ∀ q, q < w.heap.size → ¬ NodeS b vs q := fun q hq => by
        rintro (e | e)
        · have := Hb.out
          omega
        · have := hvs q e
          omega
      obtain ⟨hz0, hz1⟩ := quiet_hear hgood (by omega) s
      have hlv := hear_lv hgood.inv (decode s).1
      obtain ⟨hlen6, -⟩ := hgood.inv.ordered
      have hv64 : ∀ (k : Nat) (p : Peer), n.peers[k]? = some p → p.vals.length ≤ 64 := fun k p hp => win_len (hgood.inv.peer (List.mem_of_getElem? hp)).win
      have hgr := (good_hear hgood s).1
      obtain ⟨hlen6', -⟩ := hgr.inv.ordered
      have hv64' : ∀ (k : Nat) (p : Peer), (nhear n s).1.peers[k]? = some p → p.vals.length ≤ 64 := fun k p hp => win_len (hgr.inv.peer (List.mem_of_getElem? hp)).win
      have h8' := hgr.subs.s8
      have HbN := Lib.hid hbN
      have HN := Lib.hid hn
      have Hap := Lib.hid hap
      have HBW := Lib.hid hbw
      have HV := Lib.hid hv64
      have HV' := Lib.hid hv64'
      have HLV := Lib.hid hlv
      have HZ0 := Lib.hid hz0
      have HZ1 := Lib.hid hz1
      have hbl := hn.lt
      have hdw : IntKind.i64.wrap (n.drops + 1) = n.drops + 1 := IntWalk.i64_in _ (by omega)
      clear hn hgood hap hbw hvs HNk hbN hlv hz0 hz1 hv64 hv64' hgr
      by_cases he : (nhear n s).2.2 = 0
      · have hdd := HZ0.out he
        have HE := Lib.hid he
        have HDr := Lib.hid hdd
        clear he hdd
        go_wp2_with (first
          | (go_at_call 46; refine (npeers_any b vs n _ HN.out hlen6 HV.out).mono ?_; rintro e w4 ⟨⟨v4, rfl, ho4⟩, hb4⟩; obtain ⟨A4, c4, rfl, -⟩ := ho4.form; have HO4 := Lib.hid ho4; have HB4 := Lib.hid hb4; have HN4 := Lib.hid (HN.out.below hb4); clear ho4 hb4)
          | (go_at_call 45; refine (nsubs_any b vs n _ HN4.out h8).mono ?_; rintro e w5 ⟨⟨v5, rfl, ho5⟩, hb5⟩; obtain ⟨A5, c5, rfl, -⟩ := own_form ho5; have HO5 := Lib.hid ho5; have HB5 := Lib.hid (HB4.out.trans (hb5.mono HB4.out.size)); have HN5 := Lib.hid (HN4.out.below hb5); have HO4' := Lib.hid (HO4.out.below hb5); clear ho5 hb5)
          | (go_at_call 35; refine (now_any b vs n _ HN5.out).mono ?_; rintro e w6 ⟨rfl, rfl⟩)
          | (go_at_call 34; refine (seq_any b vs n _ HN5.out).mono ?_; rintro e w6 ⟨rfl, rfl⟩)
          | (go_at_call 52; refine (drops_any b vs n _ HN5.out).mono ?_; rintro e w6 ⟨rfl, rfl⟩)
          | (go_at_call 53; refine (nhear_any b vs n s _ HN5.out hd1 hd2 HLV.out h8).mono ?_; rintro e w7 ⟨⟨vn, rfl, ho7⟩, hn7, ht7⟩; have HO7 := Lib.hid ho7; rw [HE.out]; have HN7 := Lib.hid hn7; have HT7 := Lib.hid ht7; clear ho7 hn7 ht7)
          | (go_at_call 52; refine (drops_any b vs _ _ HN7.out).mono ?_; rintro e w8 ⟨rfl, rfl⟩; rw [HDr.out])
          | fail)
        go_ret
        exact ⟨rfl, Touch.below (HBW.out.trans (HB5.out.mono HBW.out.size)) HT7.out (Nat.le_trans HBW.out.size HB5.out.size) HbN.out⟩
      · obtain ⟨hnil, hq⟩ := HZ1.out he
        have hnn : (nhear n s).2.1 = [] := hnil
        have HNil := Lib.hid hnn
        have heb : ((nhear n s).2.2 == 0) = false := beq_eq_false_iff_ne.2 he
        clear he hnil hnn
        obtain ⟨r, hr⟩ : ∃ r, nhear n s = r := ⟨_, rfl⟩
        rw [hr] at heb hq hlen6' HV' h8'
        have HQ := Lib.hid hq
        have hqd := hq.d
        have hqn := hq.now
        have hqs := hq.seq
        have HQd := Lib.hid hqd
        have HQn := Lib.hid hqn
        have HQs := Lib.hid hqs
        clear hq hqd hqn hqs
        have HR := Lib.hid hr
        clear hr
        obtain ⟨E, hE⟩ : ∃ E, r.2.2 = E := ⟨_, rfl⟩
        rw [hE] at heb
        have HE := Lib.hid hE
        clear hE
        go_wp2_with (first
          | (go_at_call 46; refine (npeers_any b vs n _ HN.out hlen6 HV.out).mono ?_; rintro e w4 ⟨⟨v4, rfl, ho4⟩, hb4⟩; obtain ⟨A4, c4, rfl, -⟩ := ho4.form; have HO4 := Lib.hid ho4; have HB4 := Lib.hid hb4; have HN4 := Lib.hid (HN.out.below hb4); clear ho4 hb4)
          | (go_at_call 45; refine (nsubs_any b vs n _ HN4.out h8).mono ?_; rintro e w5 ⟨⟨v5, rfl, ho5⟩, hb5⟩; obtain ⟨A5, c5, rfl, -⟩ := own_form ho5; have HO5 := Lib.hid ho5; have HB5 := Lib.hid (HB4.out.trans (hb5.mono HB4.out.size)); have HN5 := Lib.hid (HN4.out.below hb5); have HO4' := Lib.hid (HO4.out.below hb5); clear ho5 hb5)
          | (go_at_call 35; refine (now_any b vs n _ HN5.out).mono ?_; rintro e w6 ⟨rfl, rfl⟩)
          | (go_at_call 34; refine (seq_any b vs n _ HN5.out).mono ?_; rintro e w6 ⟨rfl, rfl⟩)
          | (go_at_call 52; refine (drops_any b vs n _ HN5.out).mono ?_; rintro e w6 ⟨rfl, rfl⟩)
          | (go_at_call 53; refine (nhear_any b vs n s _ HN5.out hd1 hd2 HLV.out h8).mono ?_; rintro e w7 ⟨⟨vn, rfl, ho7⟩, hn7, ht7⟩; rw [HNil.out] at ho7; obtain ⟨A7, c7, rfl, -⟩ := own_form (n := 0) ho7; rw [HR.out] at hn7 ⊢; rw [HE.out]; have HN7 := Lib.hid hn7; have HT7 := Lib.hid ht7; clear ho7 hn7 ht7)
          | (go_at_call 52; refine (drops_any b vs r.1 _ HN7.out).mono ?_; rintro e w8 ⟨rfl, rfl⟩; rw [HQd.out])
          | (go_at_call 35; refine (now_any b vs r.1 _ HN7.out).mono ?_; rintro e w8 ⟨rfl, rfl⟩; rw [HQn.out])
          | (go_at_call 34; refine (seq_any b vs r.1 _ HN7.out).mono ?_; rintro e w8 ⟨rfl, rfl⟩; rw [HQs.out])
          | (go_at_call 45; refine (nsubs_any b vs r.1 _ HN7.out h8').mono ?_; rintro e w8 ⟨⟨v8, rfl, ho8⟩, hb8⟩; rw [HQ.out.subs] at ho8; obtain ⟨A8, c8, rfl, -⟩ := own_form ho8; have HO8 := Lib.hid ho8; have HB8 := Lib.hid hb8; have HN8 := Lib.hid (HN7.out.below hb8); have HO5' := Lib.hid (own_below (own_touch HO5.out HT7.out (fun q hq => Hap.out q (Nat.le_trans HB4.out.size hq))) hb8); clear ho8 hb8)
          | (go_at_call 50; refine (equal_subs A8 A5 c8 c5 n.subs _ (own_subs HO8.out) (own_subs HO5'.out) h8).mono ?_; rintro e w9 ⟨rfl, hb9⟩; have HB9 := Lib.hid (HB8.out.trans (hb9.mono HB8.out.size)); have HN9 := Lib.hid (HN8.out.below hb9); clear hb9)
          | (go_at_call 46; refine (npeers_any b vs r.1 _ HN9.out hlen6' HV'.out).mono ?_; rintro e w10 ⟨⟨v10, rfl, ho10⟩, hb10⟩; obtain ⟨A10, c10, rfl, -⟩ := ho10.form; have HB10 := Lib.hid (HB9.out.trans (hb10.mono HB9.out.size)); have HN10 := Lib.hid (HN9.out.below hb10); rw [HQ.out.len]; clear ho10 hb10)
          | (go_at_call 46; refine (npeers_any b vs r.1 _ HN10.out hlen6' HV'.out).mono ?_; rintro e w11 ⟨⟨v11, rfl, ho11⟩, hb11⟩; obtain ⟨A11, c11, rfl, -⟩ := ho11.form; have HO11 := Lib.hid ho11; have HB11 := Lib.hid (HB10.out.trans (hb11.mono HB10.out.size)); clear ho11 hb11; rw [HQ.out.len])
          | fail)
        have ho7 := OwnP.touch HN5.out HT7.out HO4'.out
        have ho11 := ho7.below HB11.out
        have hbw11 := (Touch.below (HBW.out.trans (HB5.out.mono HBW.out.size)) HT7.out (Nat.le_trans HBW.out.size HB5.out.size) HbN.out).trans (HB11.out.mono (Nat.le_trans (Nat.le_trans HBW.out.size HB5.out.size) HT7.out.size))
        have HOw := Lib.hid ho11
        have HBw11 := Lib.hid hbw11
        have hsz10 := HB10.out.size
        obtain ⟨Aw, cw, ew, hgw⟩ := ho7.form
        injection ew with ew1 ew2 ew3
        subst ew1 ew3
        have Hgw := Lib.hid hgw
        have hszw : w.heap.size ≤ wr.heap.size := HBW.out.size
        obtain ⟨B0, hB0⟩ : ∃ B0, wr.heap.size = B0 := ⟨_, rfl⟩
        rw [hB0] at HOw Hgw hszw
        clear ho7 ho11 hbw11 ew2 hgw hB0
        go_loopw [102] (fun i wq => ∃ j : Nat, j ≤ n.peers.length ∧ i = .int .i64 j ∧ Hid (∃ us, OwnV wq B0 (.slice A4 n.peers.length c4) (zerTo n.peers j) us) ∧ Hid (OwnP wq w10.heap.size (.slice A11 r.1.peers.length c11) r.1.peers) ∧ Hid (Below w.heap.size w wq)) (fun i _ => n.peers.length - (intOf i).toNat)
        case atStart => exact ⟨0, by omega, rfl, by rw [zerTo_zero]; exact HOw.out.toV, HO11.out, HBw11.out⟩
        case round =>
          obtain ⟨j, hj, rfl, HJ1, HJ2, HJ3⟩ := hrel
          by_cases hjl : j < n.peers.length
          · obtain ⟨us, hov⟩ := HJ1.out
            obtain ⟨gw, cw, A0', c0', ev, hBg, hgl, hus, hle0, hown0, x0, x1, x2, x3, x4, x5, x6, xf⟩ := hov.at (zerTo_get hjl)
            injection ev with ev1 ev2 ev3
            subst ev1 ev3
            clear ev2
            have hjq : j < r.1.peers.length := by rw [HQ.out.len]; exact hjl
            obtain ⟨gq, oq, rfl, hpk⟩ := HJ2.out.reads (by omega)
            obtain ⟨A', c', y0, y1, y2, y3, y4, y5, y6, hI, hle⟩ := hpk j hjq
            have hz := HQ.out.same j hjq hjl
            have hjw : IntKind.i64.wrap ((j : Int) + 1) = (j : Int) + 1 := IntWalk.i64_in _ (by omega)
            have hji : (j : Int) < (n.peers.length : Int) := by omega
            have hj0 : (0 : Int) ≤ (j : Int) := by omega
            have hqg := blt y0
            obtain ⟨z, hzp⟩ : ∃ z, zeroed n.peers[j] = z := ⟨_, rfl⟩
            rw [hzp] at hz
            have z0 : (r.1.peers[j]).id = z.id := by rw [← hz]; rfl
            have z1 : (r.1.peers[j]).gate.inc = z.gate.inc := by rw [← hz]; rfl
            have z2 : (r.1.peers[j]).gate.seq = z.gate.seq := by rw [← hz]; rfl
            have z3 : z.gate.drops = 0 := by rw [← hz]; rfl
            have z4 : (r.1.peers[j]).cap = z.cap := by rw [← hz]; rfl
            have z5 : (r.1.peers[j]).vals = z.vals := by rw [← hz]; rfl
            have z6 : (r.1.peers[j]).last = z.last := by rw [← hz]; rfl
            have zv : z.vals.length ≤ 64 := by rw [← z5]; exact HV'.out j _ (List.getElem?_eq_getElem hjq)
            rw [z0] at y0
            rw [z1] at y1
            rw [z2] at y2
            rw [z4] at y4
            rw [z5] at y5 hI
            rw [z6] at y6
            generalize (r.1.peers[j]).gate.drops = dq at y3
            obtain ⟨zid, ⟨zi, zs, zd⟩, zc, zvl, zl⟩ := z
            simp only at y0 y1 y2 y4 y5 y6 hI zv z3
            subst z3
            simp only at z5
            have hput := hov.put (by rw [zerTo_len]) (i := j) (j := 3) (p := n.peers[j]) (p' := ⟨zid, ⟨zi, zs, 0⟩, zc, zvl, zl⟩) (V' := .slice A0' (n.peers[j]).vals.length c0') (u := .int .i64 0) (zerTo_get hjl) hus (by omega) (by rw [← hzp]; rfl) (by rw [← hzp]; exact hown0)
            have hput2 : OwnV ((wr.setCell ⟨gw, j * 7 + 1 + 2, none⟩ (.int .i64 0)).alloc (.cells #[.string zid, .int .i64 zi, .int .i64 zs, .int .i64 0, .int .i64 zc, .slice A' zvl.length c', .int .i64 zl] 40)) B0 (.slice (some ⟨gw, 0, none⟩) n.peers.length c4) (zerTo n.peers (j + 1)) (us.set j (.slice A0' (n.peers[j]).vals.length c0')) := by
              rw [zerTo_succ hjl, hzp]
              exact hput.below ((Below.refl _ _).alloc (Nat.le_refl _) _)
            have hnew : ((wr.setCell ⟨gw, j * 7 + 1 + 2, none⟩ (.int .i64 0)).alloc (.cells #[.string zid, .int .i64 zi, .int .i64 zs, .int .i64 0, .int .i64 zc, .slice A' zvl.length c', .int .i64 zl] 40)).heap[wr.heap.size]? = some (.cells #[.string zid, .int .i64 zi, .int .i64 zs, .int .i64 0, .int .i64 zc, .slice A' zvl.length c', .int .i64 zl] 40 (0, 0)) := by
              have := heap_alloc_new (wr.setCell ⟨gw, j * 7 + 1 + 2, none⟩ (.int .i64 0)) (.cells #[.string zid, .int .i64 zi, .int .i64 zs, .int .i64 0, .int .i64 zc, .slice A' zvl.length c', .int .i64 zl] 40)
              simpa [World.setCell] using this
            have hgw := (Hgw.out gw rfl)
            have hrow : OwnP ((wr.setCell ⟨gw, j * 7 + 1 + 2, none⟩ (.int .i64 0)).alloc (.cells #[.string zid, .int .i64 zi, .int .i64 zs, .int .i64 0, .int .i64 zc, .slice A' zvl.length c', .int .i64 zl] 40)) w10.heap.size (.slice (some ⟨gq, oq, none⟩) r.1.peers.length c11) r.1.peers :=
              OwnP.above HJ2.out fun q hq hql => (Below.heap_alloc _ _ _ (by simpa [World.setCell] using hql)).trans (heap_setCell_other _ _ _ _ (by show q ≠ gw; omega))
            have hints : Ints ((wr.setCell ⟨gw, j * 7 + 1 + 2, none⟩ (.int .i64 0)).alloc (.cells #[.string zid, .int .i64 zi, .int .i64 zs, .int .i64 0, .int .i64 zc, .slice A' zvl.length c', .int .i64 zl] 40)) A' zvl := by
              obtain ⟨g2, o2, e2, hpk2⟩ := hrow.reads (by omega)
              obtain ⟨A2, c2, -, -, -, -, -, k5, -, hI2, -⟩ := hpk2 j hjq
              injection e2 with e2
              injection e2 with e2 e3
              subst e2 e3
              rw [z5] at k5 hI2
              have hne : wr.heap.size ≠ gq := by omega
              have k5' := k5
              have h5 : wr.cell? ⟨gq, oq + j * 7 + 5, none⟩ = some (.slice A2 zvl.length c2) := by
                have e : ((wr.setCell ⟨gw, j * 7 + 1 + 2, none⟩ (.int .i64 0)).alloc (.cells #[.string zid, .int .i64 zi, .int .i64 zs, .int .i64 0, .int .i64 zc, .slice A' zvl.length c', .int .i64 zl] 40)).heap[gq]? = wr.heap[gq]? := (Below.heap_alloc _ _ _ (by simpa [World.setCell] using hqg)).trans (heap_setCell_other _ _ _ _ (by
                  obtain ⟨Aq, cq, eq1, hq2⟩ := HJ2.out.form
                  injection eq1 with eq1 _ _
                  have := hq2 gq (by rw [← eq1]; rfl)
                  show gq ≠ gw
                  omega))
                rw [← k5]
                exact (World.cell?_of_block (a := ⟨gq, oq + j * 7 + 5, none⟩) e).symm
              rw [y5] at h5
              injection h5 with h5
              injection h5 with h5 _ _
              cases h5
              exact hI2
            have hlow : Below w.heap.size w ((wr.setCell ⟨gw, j * 7 + 1 + 2, none⟩ (.int .i64 0)).alloc (.cells #[.string zid, .int .i64 zi, .int .i64 zs, .int .i64 0, .int .i64 zc, .slice A' zvl.length c', .int .i64 zl] 40)) :=
              (HJ3.out.setCell (by show w.heap.size ≤ gw; omega) _).alloc (by simpa [World.setCell] using HJ3.out.size) _
            have HW1 := Lib.hid hput2
            have HW2 := Lib.hid hrow
            have HW3 := Lib.hid hints
            have HW4 := Lib.hid hlow
            have HW5 := Lib.hid hnew
            have HZP := Lib.hid hzp
            clear hpk hz hzp z0 z1 z2 z4 z5 z6 hput hput2 hnew hrow hints hlow hov hus hown0 hI hgw
            go_wp2_with fail
            generalize hWW : ((wr.setCell ⟨gw, j * 7 + 1 + 2, none⟩ (.int .i64 0)).alloc (.cells #[.string zid, .int .i64 zi, .int .i64 zs, .int .i64 0, .int .i64 zc, .slice A' zvl.length c', .int .i64 zl] 40)) = W at HW1 HW2 HW3 HW4 HW5 ⊢
            clear hWW x0 x1 x2 x3 x4 x5 x6 xf y0 y1 y2 y3 y4 y5 y6
            obtain ⟨gw2, cw2, A2, c2, ev, -, hgl2, hus2, hle2, hown2, x0, x1, x2, x3, x4, x5, x6, xf⟩ := HW1.out.at (i := j) (p := ⟨zid, ⟨zi, zs, 0⟩, zc, zvl, zl⟩) (by rw [zerTo_succ hjl, HZP.out, List.getElem?_set_self (by rw [zerTo_len]; exact hjl)])
            injection ev with ev1 ev2 ev3
            injection ev1 with ev1
            injection ev1 with ev1
            subst ev1 ev3
            have hI2 := own_ints hown2
            have HI2 := Lib.hid hI2
            have b0 := cell_of_row W wr.heap.size 0 _ 40 (0, 0) HW5.out
            have b1 := cell_of_row W wr.heap.size 1 _ 40 (0, 0) HW5.out
            have b2 := cell_of_row W wr.heap.size 2 _ 40 (0, 0) HW5.out
            have b3 := cell_of_row W wr.heap.size 3 _ 40 (0, 0) HW5.out
            have b4 := cell_of_row W wr.heap.size 4 _ 40 (0, 0) HW5.out
            have b5 := cell_of_row W wr.heap.size 5 _ 40 (0, 0) HW5.out
            have b6 := cell_of_row W wr.heap.size 6 _ 40 (0, 0) HW5.out
            simp at b0 b1 b2 b3 b4 b5 b6
            clear ev2 hus2 hown2 hI2
            simp only at x0 x1 x2 x3 x4 x5 x6
            go_still_tail 5, (by kernel_rfl)
            change wpList _ _ _ _ _ W.drew
            go_wp2_with (go_at_call 54; refine (samepeer_same ⟨zid, ⟨zi, zs, 0⟩, zc, zvl, zl⟩ A' A2 c' c2 _ (HW3.out.below (below_drewN (Below.refl _ _) 1)) (HI2.out.below (below_drewN (Below.refl _ _) 1)) (by show zvl.length ≤ _; omega)).mono ?_; rintro e w12 ⟨rfl, hb12⟩; have HB12 := Lib.hid ((below_drewN (Below.refl _ _) 1).trans hb12 : Below W.heap.size W w12); clear hb12)
            go_roundw
            case rel => exact ⟨j + 1, by omega, by go_num, ⟨_, HW1.out.below HB12.out⟩, HW2.out.below HB12.out, HW4.out.trans (HB12.out.mono HW4.out.size)⟩
            case measure => simp [intOf]; omega
          · have hji : ¬ (j : Int) < (n.peers.length : Int) := by omega
            go_wp2_with fail
            go_ret
            exact ⟨rfl, HJ3.out⟩

end Go.Proofs.Ytmclalhjnjghnaa
