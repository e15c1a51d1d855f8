/- The walk of hwkeep.NodeTurns. -/
import Derived.Test.YtmclalhjnjghnaaTurnsLaw
import Derived.Test.YtmclalhjnjghnaaKeys
import Derived.Test.YtmclalhjnjghnaaSure
namespace Go.Proofs.Ytmclalhjnjghnaa
open Go.RowKit Hw

/-- A map of what was said. -/
def SaidAt (w : World) (mb m : Nat) (f : ByteArray → Int → Bool) : Prop := ∃ m' F, MapV 81 4 (.bool false) w mb m' F ∧ m' ≤ m ∧ ∀ id th, F (whoV id th) = .bool (f id th)

theorem SaidAt.below {w w' : World} {mb m : Nat} {f : ByteArray → Int → Bool} (h : SaidAt w mb m f) (hb : Below w.heap.size w w') : SaidAt w' mb m f := by
  obtain ⟨m', F, h1, h2, h3⟩ := h
  exact ⟨m', F, h1.below hb, h2, h3⟩

theorem SaidAt.touch {w w' : World} {mb m : Nat} {f : ByteArray → Int → Bool} (h : SaidAt w mb m f) {b : Nat} {vs : Value} {n : Hw.Node} (hn : NodeAt w b vs n) (ht : Touch (NodeS b vs) w w') : SaidAt w' mb m f := by
  obtain ⟨m', F, h1, h2, h3⟩ := h
  exact ⟨m', F, h1.touch hn ht, h2, h3⟩

theorem SaidAt.mono {w : World} {mb m m2 : Nat} {f : ByteArray → Int → Bool} (h : SaidAt w mb m f) (hm : m ≤ m2) : SaidAt w mb m2 f := by
  obtain ⟨m', F, h1, h2, h3⟩ := h
  exact ⟨m', F, h1, by omega, h3⟩

theorem SaidAt.lt {w : World} {mb m : Nat} {f : ByteArray → Int → Bool} (h : SaidAt w mb m f) : mb < w.heap.size := by
  obtain ⟨m', F, h1, h2, h3⟩ := h
  exact h1.lt

theorem SaidAt.block {w : World} {mb m : Nat} {f : ByteArray → Int → Bool} (h : SaidAt w mb m f) : ∃ es c, w.heap[mb]? = some (.map es c) := by
  obtain ⟨m', F, h1, h2, h3⟩ := h
  exact h1.block

theorem SaidAt.heap {w w' : World} {mb m : Nat} {f : ByteArray → Int → Bool} (h : SaidAt w mb m f) (he : w'.heap[mb]? = w.heap[mb]?) : SaidAt w' mb m f := by
  obtain ⟨m', F, h1, h2, h3⟩ := h
  exact ⟨m', F, h1.heap he, h2, h3⟩

theorem SaidAt.look {w : World} {mb m : Nat} {f : ByteArray → Int → Bool} (h : SaidAt w mb m f) {id : ByteArray} {th : Int} (h0 : id.size ≤ 100) (h1 : 0 ≤ th) (h2 : th ≤ 1000) {c : Bool} (hc : f id th = c) :
    (Instr.lookup 79 (.map (some mb)) (whoV id th) false).run Try.prog w = .ok (.bool c) w := by
  obtain ⟨m', F, h3, -, h5⟩ := h
  obtain ⟨kl, hkl⟩ := whoKey h0 h1 h2
  exact h3.look_bool whoK Try.underlying79 Try.underlying4 (zero4 _) hkl (by rw [h5, hc])

theorem whoV_inj {id id' : ByteArray} {th th' : Int} (h : whoV id th = whoV id' th') : id = id' ∧ th = th' := by
  simp only [whoV, Value.agg.injEq] at h
  have h0 := congrArg (fun a : Array Value => a[0]?) h
  have h1 := congrArg (fun a : Array Value => a[1]?) h
  simp at h0 h1
  exact ⟨h0, h1⟩

theorem SaidAt.put {w : World} {mb m : Nat} {f f' : ByteArray → Int → Bool} (h : SaidAt w mb m f) (hm : m < 1000) {id : ByteArray} {th : Int} (h0 : id.size ≤ 100) (h1 : 0 ≤ th) (h2 : th ≤ 1000) (c : Bool) (hc : f' id th = c) (hne : ∀ id' th', ¬ (id' = id ∧ th' = th) → f' id' th' = f id' th') :
    ∃ w', (Instr.mapUpdate 79 (.map (some mb)) (whoV id th) (.bool c)).run Try.prog w = .ok () w' ∧ SaidAt w' mb (m + 1) f' ∧ w.grownBy w' (some mb) := by
  obtain ⟨m', F, h3, h4, h5⟩ := h
  obtain ⟨kl, hkl⟩ := whoKey h0 h1 h2
  obtain ⟨F', g1, g2⟩ := upd_exists F (whoV id th) (.bool c)
  obtain ⟨w', hr, hM, hg⟩ := h3.put whoK Try.underlying79 (by unfold maxLen; omega) hkl (plainElem_bool Try.underlying4 c) g1 g2
  refine ⟨w', hr, ⟨m' + 1, F', hM, by omega, fun id' th' => ?_⟩, hg⟩
  by_cases he : id' = id ∧ th' = th
  · obtain ⟨rfl, rfl⟩ := he
    rw [g1, hc]
  · rw [g2 _ (fun e => he (whoV_inj e)), h5, hne id' th' he]

theorem id_small {id : ByteArray} (h : id ∈ I3) : id.size ≤ 100 := by
  simp only [I3, List.mem_cons, List.not_mem_nil, or_false] at h
  rcases h with rfl | rfl | rfl <;> decide

theorem own_mapped {w w' : World} {B : Nat} {e : TypeId} {s : Nat} {v : Value} {n : Nat} {xs : List Value} (h : w.ownsRow B e s v n xs) {mb : Nat} (hm : ∃ es c, w.heap[mb]? = some (.map es c)) (hg : w.grownBy w' (some mb)) : w'.ownsRow B e s v n xs := by
  obtain ⟨es, c, hk⟩ := hm
  refine own_typed h fun q cs _ hq => hg.block q (Array.getElem?_eq_some_iff.1 hq).1 fun he => ?_
  injection he with he
  subst he
  rw [hk] at hq
  injection hq with hq
  cases hq

set_option maxRecDepth 100000 in
set_option maxHeartbeats 2000000 in
theorem turns_any (every least : Int) (A : Option Addr) (cc : Nat) (L : List (List Int)) (w : World) (hL : ListsR w A L) (hcc : L.length ≤ cc) (hl : L.length ≤ 17592186044416) :
    Calls Try.prog 8 #[.int .i64 every, .int .i64 least, .slice A L.length cc] w fun e w' => e = .returned (.bool true) ∧ Below w.heap.size w w' := by
  have HL := Lib.hid hL
  clear hL
  have hmm := @run_makeMap Try.prog
  go_enter Try.func8, Try.ntmps8
  go_wp2_with (first
    | (go_at_call 28; refine (nodebegun_any _).mono ?_; rintro e w1 ⟨rfl, hb1⟩; have HB1 := Lib.hid hb1; clear hb1)
    | (go_at_call 29; refine (one_any every least _).mono ?_; rintro e w2 ⟨⟨b, rfl, hb, hn⟩, hb2⟩; have HB2 := Lib.hid (HB1.out.trans (hb2.mono HB1.out.size)); have HN2 := Lib.hid hn; have Hb := Lib.hid (Nat.le_trans HB1.out.size hb); clear hb hn hb2)
    | fail)
  rw [show min (L.length : Int) 80 = ((L.take 80).length : Int) from take_min L 80, Int.toNat_natCast, Int.max_eq_left (by omega)]
  have hM : (L.take 80).length ≤ 80 := by rw [List.length_take]; omega
  have hMc : (L.take 80).length ≤ cc := by rw [List.length_take]; omega
  have HM := Lib.hid (HL.out.take 80)
  generalize L.take 80 = M at HM hM hMc ⊢
  have hG := ones_good every least
  have hC := (ones_same every least 3).2.1
  have hD := (ones_same every least 3).2.2.2.2
  have hS := (ones_same every least 3).1
  generalize ones every least 3 = n0 at HN2 hG hC hD hS
  have HG := Lib.hid hG
  have HC := Lib.hid hC
  have HD := Lib.hid hD
  have HS := Lib.hid hS
  clear hG hC hD hS
  generalize hmbe : w2.heap.size = mb0
  have HM0 : Hid (MapV 81 4 (.bool false) (w2.alloc (.map #[] 0)) mb0 0 (fun _ => .bool false)) := by rw [← hmbe]; exact MapV.made _ _ _ _
  have hmb0 : w.heap.size ≤ mb0 := by rw [← hmbe]; exact HB2.out.size
  have HN0 : Hid (NewAt w (w2.alloc (.map #[] 0)) b n0) := ⟨_, HN2.out.below ((Below.refl _ _).alloc (Nat.le_refl _) _), fun q hq => by simp [Value.ownBlock] at hq, HB2.out.alloc HB2.out.size _⟩
  clear hmbe
  go_loopw [8, 32] (fun sv i wr => ∃ k mb : Nat, k ≤ M.length ∧ i = .int .i64 k ∧ sv = .map (some mb) ∧ w.heap.size ≤ mb ∧ Hid (NewAt w wr b (askedAll n0 M k)) ∧ Hid (SaidAt wr mb 8 (saidIn (askedAll n0 M k).subs))) (fun _ i _ => M.length - (intOf i).toNat)
  case atStart => exact ⟨0, mb0, by omega, rfl, rfl, hmb0, HN0.out, _, _, HM0.out, by omega, fun id th => by rw [askedAll_zero, HS.out]; rfl⟩
  case round =>
    obtain ⟨k, mb, hk, rfl, rfl, hmb, HNk, HSk⟩ := hrel
    by_cases hlt : k < M.length
    · obtain ⟨vs, hn, hvs, hbw⟩ := HNk.out
      have hsaid := HSk.out
      obtain ⟨A0, off, rfl, hc⟩ := (HM.out.below (hbw.mono (Nat.le_refl _))) (by omega)
      obtain ⟨A', c', h1, h2, h3⟩ := hc k hlt
      have hkM : (k : Int) < (M.length : Int) := by omega
      have hk0 : (0 : Int) ≤ (k : Int) := by omega
      have hkw : IntKind.i64.wrap ((k : Int) + 1) = (k : Int) + 1 := IntWalk.i64_in _ (by omega)
      have hg := askedAll_good HG.out M k
      have hsucc := askedAll_succ n0 M k hlt
      generalize askedAll n0 M k = n at hn hg hsucc hsaid
      have hg' := (asked_good hg M[k]).1
      generalize M[k] = c at h1 h2 h3 hsucc hg'
      have hturn := turn_asked hg c
      have hE : ∃ n', (asked n c).1 = n' := ⟨_, rfl⟩
      obtain ⟨n', hE⟩ := hE
      rw [hE] at hsucc hg' hturn
      obtain ⟨N, hN⟩ : ∃ N, (asked n c).2 = N := ⟨_, rfl⟩
      rw [hN] at hturn
      have hbn := hn.lt
      have HN := Lib.hid hn
      have HGn := Lib.hid hg
      have HG' := Lib.hid hg'
      have HTu := Lib.hid hturn
      have HNt := Lib.hid hN
      have HSa := Lib.hid hsaid
      have HVS := Lib.hid hvs
      have HBW := Lib.hid hbw
      have HI := Lib.hid h2
      have Hsucc := Lib.hid hsucc
      have HE := Lib.hid hE
      have hA0 := bsome (Below.refl wr.heap.size wr) h1
      clear hn hg hg' hvs hbw hc h2 hsucc h1 hE hturn hN hsaid
      have h8' : n'.subs.length ≤ 8 := HG'.out.subs.s8
      have hfew : N.length ≤ 8 := Nat.le_trans HTu.out.few h8'
      go_wp2_with (first
        | (go_at_call 43; refine (asked_any b vs n _ c' c _ HN.out HGn.out HI.out h3).mono ?_; rintro e w3 ⟨⟨vn, rfl, ho⟩, vs', hn', hv', ht'⟩; rw [HE.out] at hn'; rw [HNt.out] at ho; obtain ⟨An, cn, rfl, -⟩ := own_form ho; have HO := Lib.hid ho; have HS3 := Lib.hid (HSa.out.touch HN.out ht'); have HNew := Lib.hid (NewAt.post HVS.out HBW.out Hb.out hn' hv' ht'); have HN' := Lib.hid hn'; have hvs' : ∀ q, some q = vs'.ownBlock → w.heap.size ≤ q := fun q hq => (hv' q hq).elim (HVS.out q) (fun h => Nat.le_trans HBW.out.size h); have HVS' := Lib.hid hvs'; clear ho hn' hv' ht' hvs')
        | fail)
      have hszr : w.heap.size ≤ wr.heap.size := HBW.out.size
      go_loopw [40] (fun i wq => ∃ q : Nat, q ≤ N.length ∧ i = .int .i64 q ∧ Hid (Below w.heap.size w wq) ∧ Hid (NodeAt wq b vs' n') ∧ Hid (wq.ownsRow wr.heap.size 74 3 (.slice An N.length cn) N.length (notesCells N)) ∧ Hid (SaidAt wq mb (8 + q) (saidN n.subs (N.take q)))) (fun i _ => N.length - (intOf i).toNat)
      case atStart =>
        obtain ⟨_, _, _, hb3⟩ := HNew.out
        exact ⟨0, by omega, rfl, hb3, HN'.out, HO.out, HS3.out⟩
      case round =>
        obtain ⟨q, hq, rfl, HBq, HNq, HOq, HSq⟩ := hrel
        by_cases hql : q < N.length
        · obtain ⟨g, rfl, -, -, x0, x1, x2⟩ := note_at HOq.out hql
          have hqw : IntKind.i64.wrap ((q : Int) + 1) = (q : Int) + 1 := IntWalk.i64_in _ (by omega)
          have hqi : (q : Int) < (N.length : Int) := by omega
          have hq0 : (0 : Int) ≤ (q : Int) := by omega
          have hgl := blt x0
          obtain ⟨s', hs', hid, hth⟩ := HTu.out.who N[q] (List.getElem_mem hql)
          have hsz := id_small (HG'.out.subs.known s' hs')
          have hth2 := HG'.out.subs.theta s' hs'
          rw [hid] at hsz
          rw [hth] at hth2
          obtain ⟨l1, l2, l3⟩ := saidN_take HTu.out hql
          have L1 := Lib.hid l1
          have L2 := Lib.hid l2
          have L3 := Lib.hid l3
          clear hs' hid hth l1 l2 l3
          generalize N[q] = x at x0 x1 x2 hsz hth2 L1 L2 L3
          have hW0 := ((Below.refl wr.heap.size wr).alloc (Nat.le_refl _) (.cells #[.string x.id, .int .i64 x.theta, .bool x.suspect] 74)).alloc (by simp) (.cells #[.string x.id, .int .i64 x.theta] 81)
          have HX := Lib.hid (heap_alloc2_old wr (.cells #[.string x.id, .int .i64 x.theta, .bool x.suspect] 74) (.cells #[.string x.id, .int .i64 x.theta] 81))
          have HY := Lib.hid (heap_alloc2_new wr (.cells #[.string x.id, .int .i64 x.theta, .bool x.suspect] 74) (.cells #[.string x.id, .int .i64 x.theta] 81))
          have HW0 := Lib.hid hW0
          clear hW0
          go_wp2_with fail
          generalize ((wr.alloc (.cells #[.string x.id, .int .i64 x.theta, .bool x.suspect] 74)).alloc (.cells #[.string x.id, .int .i64 x.theta] 81)) = W at HX HY HW0 ⊢
          clear x0 x1 x2
          have x2 := cell_of_row _ _ 2 _ 74 (0, 0) HX.out
          have y0 := cell_of_row _ _ 0 _ 81 (0, 0) HY.out
          have y1 := cell_of_row _ _ 1 _ 81 (0, 0) HY.out
          simp at x2 y0 y1
          have hl2 := blt x2
          have hl3 := blt y0
          obtain ⟨c0, hc0⟩ : ∃ c0, saidN n.subs (N.take q) x.id x.theta = c0 := ⟨_, rfl⟩
          have hcs : (c0 == x.suspect) = false := by
            have := L1.out
            rw [hc0] at this
            simpa using this
          have hlook : ∀ m, (Instr.lookup 79 (.map (some mb)) (whoV x.id x.theta) false).run Try.prog (W.drewN m) = .ok (.bool c0) (W.drewN m) := fun m => (HSq.out.below (HW0.out.trans (below_drewN (HW0.out.mono (Nat.le_refl _) |> fun _ => Below.refl _ _) m))).look hsz (by omega) (by omega) hc0
          have hput : ∀ m, ∃ w', (Instr.mapUpdate 79 (.map (some mb)) (whoV x.id x.theta) (.bool x.suspect)).run Try.prog (W.drewN m) = .ok () w' ∧ SaidAt w' mb (8 + q + 1) (saidN n.subs (N.take (q + 1))) ∧ (W.drewN m).grownBy w' (some mb) := fun m => (HSq.out.below (HW0.out.trans (below_drewN (Below.refl _ _) m))).put (by omega) hsz (by omega) (by omega) x.suspect L2.out L3.out
          have HPut := Lib.hid hput
          have HC0 := Lib.hid hc0
          clear hput hc0
          go_quiet (fail)
          obtain ⟨w5, hr5, hS5, hg5⟩ := HPut.out nq
          have hWd := HW0.out.trans (below_drewN (Below.refl _ _) nq)
          have hblk := (HSq.out.below hWd).block
          have HS5 := Lib.hid hS5
          have HN5 := Lib.hid ((HNq.out.below hWd).mapped hblk hg5)
          have HO5 := Lib.hid (own_mapped (own_below HOq.out hWd) hblk hg5)
          have HB5 := Lib.hid (below_mapped (HBq.out.trans (hWd.mono HBq.out.size)) hmb hg5 (Nat.le_trans HBq.out.size hWd.size))
          clear hS5 hg5 hWd hblk hlook
          go_wp2_with fail
          go_roundw
          case rel => exact ⟨q + 1, by omega, by go_num, HB5.out, HN5.out, HO5.out, HS5.out⟩
          case measure => simp [intOf]; omega
        · have hqi : ¬ (q : Int) < (N.length : Int) := by omega
          have hqn : q = N.length := by omega
          have hsq := HSq.out
          rw [List.take_of_length_le (by omega)] at hsq
          have HSd := Lib.hid (hsq.below ((Below.refl wr.heap.size wr).alloc (Nat.le_refl _) (.map #[] 0)))
          have HNd := Lib.hid (HNq.out.below ((Below.refl wr.heap.size wr).alloc (Nat.le_refl _) (.map #[] 0)))
          have HM2 := Lib.hid (MapV.made 81 4 (.bool false) wr)
          have HBd := Lib.hid (HBq.out.alloc HBq.out.size (.map #[] 0))
          have hmb2 : w.heap.size ≤ wr.heap.size := HBq.out.size
          have hmne : mb ≠ wr.heap.size := by have := hsq.lt; omega
          clear hsq
          go_wp2_with (first
            | (go_at_call 45; refine (nsubs_any b vs' n' _ HNd.out h8').mono ?_; rintro e w6 ⟨⟨v6, rfl, ho6⟩, hb6⟩; obtain ⟨A6, c6, rfl, -⟩ := own_form ho6; have HO6 := Lib.hid ho6; have HN6 := Lib.hid (HNd.out.below hb6); have HS6 := Lib.hid (HSd.out.below hb6); have HM6 := Lib.hid (HM2.out.below hb6); have HB6 := Lib.hid (HBd.out.trans (hb6.mono HBd.out.size)); clear ho6 hb6)
            | fail)
          generalize hmb2e : wr.heap.size = mb2 at HM6 hmb2 hmne ⊢
          go_loopw [64] (fun i wq => ∃ r : Nat, r ≤ n'.subs.length ∧ i = .int .i64 r ∧ Hid (Below w.heap.size w wq) ∧ Hid (NodeAt wq b vs' n') ∧ Hid (wq.ownsRow wr.heap.size 85 3 (.slice A6 n'.subs.length c6) n'.subs.length (subsCells n'.subs)) ∧ Hid (SaidAt wq mb (8 + q) (saidN n.subs N)) ∧ Hid (SaidAt wq mb2 r (saidIn (n'.subs.take r)))) (fun i _ => n'.subs.length - (intOf i).toNat)
          case atStart => exact ⟨0, by omega, rfl, HB6.out, HN6.out, own_base HO6.out (by simp), HS6.out, _, _, HM6.out, by omega, fun id th => rfl⟩
          case round =>
            obtain ⟨r, hr, rfl, HBr, HNr, HOr, HSr, HTr⟩ := hrel
            by_cases hrl : r < n'.subs.length
            · obtain ⟨g, rfl, -, -, x0, x1, x2⟩ := sub_at HOr.out hrl
              have hrw : IntKind.i64.wrap ((r : Int) + 1) = (r : Int) + 1 := IntWalk.i64_in _ (by omega)
              have hri : (r : Int) < (n'.subs.length : Int) := by omega
              have hr0 : (0 : Int) ≤ (r : Int) := by omega
              have hgl := blt x0
              have hm := List.getElem_mem hrl
              have hsz := id_small (HG'.out.subs.known _ hm)
              have hth2 := HG'.out.subs.theta _ hm
              have hsaid := HTu.out.now _ hm
              have hon := HG'.out.on _ hm
              have hlv2 := (HG'.out.inv.level_ok (HG'.out.subs.known _ hm)).1
              obtain ⟨l2, l3⟩ := saidIn_take HG'.out.subs.dup hrl
              have L2 := Lib.hid l2
              have L3 := Lib.hid l3
              clear hm l2 l3
              generalize n'.subs[r] = s at x0 x1 x2 hsz hth2 hsaid hon hlv2 L2 L3
              obtain ⟨lv, hlv⟩ : ∃ lv, (level n' s.id).1 = lv := ⟨_, rfl⟩
              have hdec : decide (s.theta ≤ lv) = s.on := by
                rw [hon]
                unfold onNow
                rw [hlv]
              obtain ⟨o, ho⟩ : ∃ o, s.on = o := ⟨_, rfl⟩
              rw [ho] at x2 hsaid L2 hdec
              have HLv := Lib.hid hlv
              have HLv2 := Lib.hid hlv2
              have HSaid := Lib.hid hsaid.symm
              have HDec := Lib.hid hdec
              have hW0 := ((Below.refl wr.heap.size wr).alloc (Nat.le_refl _) (.cells #[.string s.id, .int .i64 s.theta, .bool o] 85)).alloc (by simp) (.cells #[.string s.id, .int .i64 s.theta] 81)
              have HX := Lib.hid (heap_alloc2_old wr (.cells #[.string s.id, .int .i64 s.theta, .bool o] 85) (.cells #[.string s.id, .int .i64 s.theta] 81))
              have HY := Lib.hid (heap_alloc2_new wr (.cells #[.string s.id, .int .i64 s.theta, .bool o] 85) (.cells #[.string s.id, .int .i64 s.theta] 81))
              have HW0 := Lib.hid hW0
              have HNW := Lib.hid (HNr.out.below hW0)
              clear hW0 hon hlv hlv2 hsaid ho hdec
              go_wp2_with (first
                | (go_at_call 44; refine (nlevel_any b vs' n' s.id _ HNW.out HG'.out.inv.lv).mono ?_; rintro e W ⟨rfl, hbW⟩; rw [HLv.out, HLv2.out]; have hx := (hbW.block _ (Array.getElem?_eq_some_iff.1 HX.out).1).trans HX.out; have hy := (hbW.block _ (Array.getElem?_eq_some_iff.1 HY.out).1).trans HY.out; have z1 := cell_of_row _ _ 1 _ 85 (0, 0) hx; have z2 := cell_of_row _ _ 2 _ 85 (0, 0) hx; have y0 := cell_of_row _ _ 0 _ 81 (0, 0) hy; have y1 := cell_of_row _ _ 1 _ 81 (0, 0) hy; simp at z1 z2 y0 y1; have hzl := blt z1; have hyl := blt y0; have HbW := Lib.hid (HW0.out.trans (hbW.mono HW0.out.size)); clear hx hy hbW)
                | fail)
              clear x0 x1 x2
              have hlook : ∀ m, (Instr.lookup 79 (.map (some mb)) (whoV s.id s.theta) false).run Try.prog (W.drewN m) = .ok (.bool o) (W.drewN m) := fun m => (HSr.out.below (HbW.out.trans (below_drewN (Below.refl _ _) m))).look hsz (by omega) (by omega) HSaid.out
              have hput : ∀ m, ∃ w', (Instr.mapUpdate 79 (.map (some mb2)) (whoV s.id s.theta) (.bool o)).run Try.prog (W.drewN m) = .ok () w' ∧ SaidAt w' mb2 (r + 1) (saidIn (n'.subs.take (r + 1))) ∧ (W.drewN m).grownBy w' (some mb2) := fun m => (HTr.out.below (HbW.out.trans (below_drewN (Below.refl _ _) m))).put (by omega) hsz (by omega) (by omega) o L2.out L3.out
              have HPut := Lib.hid hput
              have hdec := HDec.out
              have hoo : (o != o) = false := by simp
              clear hput
              go_quiet (fail)
              obtain ⟨w5, hr5, hS5, hg5⟩ := HPut.out nq
              have hWd := HbW.out.trans (below_drewN (Below.refl _ _) nq)
              have hblk := (HTr.out.below hWd).block
              have HT5 := Lib.hid hS5
              have HN5 := Lib.hid ((HNr.out.below hWd).mapped hblk hg5)
              have HO5 := Lib.hid (own_mapped (own_below HOr.out hWd) hblk hg5)
              have HS5 := Lib.hid ((HSr.out.below hWd).heap (hg5.block mb (HSr.out.below hWd).lt (fun e => hmne (by injection e))))
              have HB5 := Lib.hid (below_mapped (HBr.out.trans (hWd.mono HBr.out.size)) hmb2 hg5 (Nat.le_trans HBr.out.size hWd.size))
              clear hS5 hg5 hWd hblk hlook hdec
              go_wp2_with fail
              go_roundw
              case rel => exact ⟨r + 1, by omega, by go_num, HB5.out, HN5.out, HO5.out, HS5.out, HT5.out⟩
              case measure => simp [intOf]; omega
            · have hri : ¬ (r : Int) < (n'.subs.length : Int) := by omega
              have htr := HTr.out
              rw [List.take_of_length_le (by omega)] at htr
              have HTz := Lib.hid (htr.mono (show r ≤ 8 by omega))
              clear htr
              go_wp2_with fail
              go_roundw
              case rel => exact ⟨k + 1, mb2, by omega, by go_num, rfl, hmb2, by rw [Hsucc.out]; exact ⟨vs', HNr.out, HVS'.out, HBr.out⟩, by rw [Hsucc.out]; exact HTz.out⟩
              case measure => simp [intOf]; omega
    · have hkM : ¬ (k : Int) < (M.length : Int) := by omega
      obtain ⟨vs, hn, hvs, hbw⟩ := HNk.out
      have Hbw := Lib.hid hbw
      clear hn hvs hbw
      go_wp2_with fail
      go_ret
      exact ⟨rfl, Hbw.out⟩

end Go.Proofs.Ytmclalhjnjghnaa
