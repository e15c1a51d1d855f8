/- The contract of hwkeep.asked: a node that is asked by turns. -/
import Derived.Test.YtmclalhjnjghnaaInv
import Derived.Test.YtmclalhjnjghnaaJoin
namespace Go.Proofs.Ytmclalhjnjghnaa
open Go.RowKit Hw

set_option maxRecDepth 100000 in
set_option maxHeartbeats 1000000 in
/-- '(*Node).Tick', of a node of which all is so. -/
theorem tickg_any {I : List ByteArray} (b : Nat) (vs : Value) (n : Hw.Node) (t : Int) (w : World) (h : NodeAt w b vs n) (hg : Good I n) (ht0 : 0 ≤ t) :
    Calls Try.prog 31 #[.pointer (some ⟨b, 0, none⟩), .int .i64 t] w (TickPost b vs n t w) := by
  by_cases hbig : n.now + t ≤ 1073741824
  · exact tick_any b vs n t w h hg.inv.ok fun w' h' => told_any b vs _ w' h' (tick_lv hg ht0 hbig) hg.subs.s8
  · obtain ⟨k1, k2, k3, k4, k5, k6⟩ := hg.inv.ok
    have HN := Lib.hid h
    obtain ⟨A, c, c0, c1, c2, -, -, c5, c6, -, -, -, -, -, -⟩ := h.cells
    clear h hg
    by_cases ha : t < 1 ∨ 1073741824 < t
    · have hr : tick n t = (n, [], [], 1) := by unfold tick; rw [if_pos ha]
      have Hr := Lib.hid hr
      clear hr
      go_enter Try.func31, Try.ntmps31
      go_wp2_with fail
      all_goals
        go_ret3
        unfold TickPost
        rw [Hr.out]
        exact ⟨⟨_, _, rfl, World.ownsRow_nil _ _ _ _, World.ownsRow_nil _ _ _ _⟩, HN.out, Touch.refl _ _⟩
    · have ha1 : 1 ≤ t := by omega
      have ha2 : t ≤ 1073741824 := by omega
      have hb : 1073741824 < n.now + t := by omega
      have hr : tick n t = (n, [], [], 2) := by unfold tick; rw [if_neg ha, if_pos (.inl hb)]
      have Hr := Lib.hid hr
      clear hr ha
      go_enter Try.func31, Try.ntmps31
      go_wp2_with fail
      all_goals
        go_ret3
        unfold TickPost
        rw [Hr.out]
        exact ⟨⟨_, _, rfl, World.ownsRow_nil _ _ _ _, World.ownsRow_nil _ _ _ _⟩, HN.out, Touch.refl _ _⟩

def askAt (c : List Int) (i : Nat) : Int := c.getD i 0

set_option maxRecDepth 100000 in
theorem at_any (A : Option Addr) (cc : Nat) (c : List Int) (k g : Nat) (w : World) (h : Ints w A c) (hl : c.length ≤ 17592186044416) (hg : w.cell? ⟨g, 0, none⟩ = some (.slice A c.length cc)) :
    Calls Try.prog 101 #[.int .i64 k, .pointer (some ⟨g, 0, none⟩)] w fun e w' => e = .returned (.int .i64 (askAt c k)) ∧ w = w' := by
  by_cases hk : k < c.length
  · obtain ⟨b, off, rfl, hc⟩ := h (by omega)
    have q := hc k hk
    have hki : (k : Int) < (c.length : Int) := by omega
    have hk0 : (0 : Int) ≤ (k : Int) := by omega
    clear h hc
    go_enter Try.func101, Try.ntmps101
    go_wp2_with fail
    go_ret
    exact ⟨ret_int (by unfold askAt; rw [List.getD_eq_getElem?_getD, List.getElem?_eq_getElem hk]; rfl), rfl⟩
  · have hki : ¬ (k : Int) < (c.length : Int) := by omega
    have hr : askAt c k = 0 := by
      unfold askAt
      rw [List.getD_eq_getElem?_getD, List.getElem?_eq_none (by omega)]
      rfl
    have Hr := Lib.hid hr
    clear h hr
    go_enter Try.func101, Try.ntmps101
    go_wp2_with fail
    go_ret
    rw [Hr.out]
    exact ⟨rfl, rfl⟩

def nm4 (k : Nat) : ByteArray := match k with | 0 => ByteArray.mk #[98] | 1 => ByteArray.mk #[99] | 2 => ByteArray.mk #[100] | _ => ByteArray.mk #[101]

def askId (c : List Int) : ByteArray := nm4 (within (askAt c 1) 4).toNat

/-- 'hwkeep.asked'. -/
def asked (n : Hw.Node) (c : List Int) : Hw.Node × List Note :=
  if within (askAt c 0) 5 = 0 then ((tick n (1 + within (askAt c 1) 60)).1, (tick n (1 + within (askAt c 1) 60)).2.2.1)
  else if within (askAt c 0) 5 = 1 then ((nhear n (encode ⟨askId c, 0, 1 + within (askAt c 2) 30⟩).1).1, (nhear n (encode ⟨askId c, 0, 1 + within (askAt c 2) 30⟩).1).2.1)
  else if within (askAt c 0) 5 = 2 then ((njoin n (askId c) (1 + within (askAt c 2) 12)).1, (njoin n (askId c) (1 + within (askAt c 2) 12)).2.1)
  else if within (askAt c 0) 5 = 3 then ((npart n (askId c) (1 + within (askAt c 2) 12)).1, [])
  else ((nhear n (ByteArray.mk #[72] ++ askId c)).1, (nhear n (ByteArray.mk #[72] ++ askId c)).2.1)

def AskPost (b : Nat) (vs : Value) (w : World) (r : Hw.Node × List Note) (e : Ending) (w' : World) : Prop :=
  (∃ vn, e = .returned vn ∧ w'.ownsRow w.heap.size 74 3 vn r.2.length (notesCells r.2)) ∧ ∃ vs', NodeAt w' b vs' r.1 ∧ VsTo vs vs' w ∧ Touch (NodeS b vs) w w'

theorem askId_size (c : List Int) : (askId c).size = 1 := by
  unfold askId nm4
  split <;> rfl

theorem nm4_cell (k : Nat) (hk : k < 4) : #[Value.string (ByteArray.mk #[98]), .string (ByteArray.mk #[99]), .string (ByteArray.mk #[100]), .string (ByteArray.mk #[101])][k]? = some (.string (nm4 k)) := by
  obtain rfl | rfl | rfl | rfl : k = 0 ∨ k = 1 ∨ k = 2 ∨ k = 3 := by omega
  all_goals rfl

set_option maxRecDepth 100000 in
set_option maxHeartbeats 2000000 in
theorem asked_any {I : List ByteArray} (b : Nat) (vs : Value) (n : Hw.Node) (A : Option Addr) (cc : Nat) (c : List Int) (w : World) (h : NodeAt w b vs n) (hg : Good I n) (hc : Ints w A c) (hl : c.length ≤ 17592186044416) :
    Calls Try.prog 43 #[.pointer (some ⟨b, 0, none⟩), .slice A c.length cc] w (AskPost b vs w (asked n c)) := by
  have HN := Lib.hid h
  have HG := Lib.hid hg
  have HC := Lib.hid hc
  have hbl := h.lt
  have hb2 := ((Below.refl w.heap.size w).alloc (Nat.le_refl _) (.cells #[.slice A c.length cc] 36)).alloc (by simp) (.cells #[.string (ByteArray.mk #[98]), .string (ByteArray.mk #[99]), .string (ByteArray.mk #[100]), .string (ByteArray.mk #[101])] 9)
  have g0 := heap_alloc2_old w (.cells #[.slice A c.length cc] 36) (.cells #[.string (ByteArray.mk #[98]), .string (ByteArray.mk #[99]), .string (ByteArray.mk #[100]), .string (ByteArray.mk #[101])] 9)
  have g1 := heap_alloc2_new w (.cells #[.slice A c.length cc] 36) (.cells #[.string (ByteArray.mk #[98]), .string (ByteArray.mk #[99]), .string (ByteArray.mk #[100]), .string (ByteArray.mk #[101])] 9)
  have HB2 := Lib.hid hb2
  have HP0 := Lib.hid (cell_of_row _ _ 0 _ 36 (0, 0) g0)
  obtain ⟨k, hk⟩ := Int.eq_ofNat_of_zero_le (within_in (n := askAt c 1) (k := 4) (by omega)).1
  have hk4 : k < 4 := by have := (within_in (n := askAt c 1) (k := 4) (by omega)).2; omega
  have hid : askId c = nm4 k := by unfold askId; rw [hk]; rfl
  have q := cell_of_row _ _ k _ 9 (0, 0) g1
  rw [nm4_cell k hk4, ← hid] at q
  have hk0 : (0 : Int) ≤ (k : Int) := by omega
  have hk4' : (k : Int) < 4 := by omega
  have HQ := Lib.hid q
  have HK := Lib.hid hk
  clear h hg hc hb2 g0 g1 hid q hk
  have hmm := within_in (n := askAt c 0) (k := 5) (by omega)
  obtain ⟨m, hm⟩ : ∃ m, within (askAt c 0) 5 = m := ⟨_, rfl⟩
  rw [hm] at hmm
  have HM := Lib.hid hm
  clear hm
  have hcases : m = 0 ∨ m = 1 ∨ m = 2 ∨ m = 3 ∨ m = 4 := by omega
  clear hmm
  rcases hcases with rfl | rfl | rfl | rfl | rfl
  · have hr : asked n c = ((tick n (1 + within (askAt c 1) 60)).1, (tick n (1 + within (askAt c 1) 60)).2.2.1) := by unfold asked; rw [if_pos HM.out]
    have Hr := Lib.hid hr
    have h60 := within_in (n := askAt c 1) (k := 60) (by omega)
    have hww : wrap64 (1 + within (askAt c 1) 60) = 1 + within (askAt c 1) 60 := IntWalk.wrap64_in _ (by omega)
    clear hr
    go_enter Try.func43, Try.ntmps43
    go_wp2_with (first
      | (go_at_call_of 101 (Value.int IntKind.i64 1); first | (refine (at_any A cc c 1 w.heap.size _ (HC.out.below HB2.out) hl HP0.out).mono ?_; rintro e w0 ⟨rfl, hw⟩; have HB0 := Lib.hid (hw ▸ HB2.out : Below w.heap.size w w0); have P0 := Lib.hid (hw ▸ HP0.out : w0.cell? ⟨w.heap.size, 0, none⟩ = some (.slice A c.length cc)); have q0 := (hw ▸ HQ.out : w0.cell? ⟨w.heap.size + 1, k, none⟩ = some (.string (askId c))); clear hw) | (refine (at_any A cc c 1 w.heap.size _ (HC.out.below HB0.out) hl P0.out).mono ?_; rintro e w9 ⟨rfl, rfl⟩))
      | (go_at_call_of 101 (Value.int IntKind.i64 0); refine (at_any A cc c 0 w.heap.size _ (HC.out.below HB0.out) hl P0.out).mono ?_; rintro e w9 ⟨rfl, rfl⟩)
      | (go_at_call_of 101 (Value.int IntKind.i64 2); refine (at_any A cc c 2 w.heap.size _ (HC.out.below HB0.out) hl P0.out).mono ?_; rintro e w9 ⟨rfl, rfl⟩)
      | (go_at_call 30; refine (within_any _ _ _ (by decide) (by decide)).mono ?_; rintro e w9 ⟨rfl, rfl⟩; first | rw [HK.out] | rw [HM.out] | skip)
      | (go_at_call 31; refine (tickg_any b vs n (1 + within (askAt c 1) 60) _ (HN.out.below HB0.out) HG.out (by omega)).mono ?_; rintro e w2 ⟨⟨vt, vn, rfl, ho1, ho2⟩, hn2, ht2⟩; have HO2 := Lib.hid (own_base ho2 HB0.out.size); have HN2 := Lib.hid hn2; have HT2 := Lib.hid ((Touch.of_below HB0.out).trans ht2); obtain ⟨A1, d1, rfl, -⟩ := own_form ho1; obtain ⟨A2, d2, rfl, -⟩ := own_form ho2; clear ho1 ho2 hn2 ht2)
      | fail)
    go_ret
    unfold AskPost
    rw [Hr.out]
    exact ⟨⟨_, rfl, HO2.out⟩, vs, HN2.out, VsTo.refl _ _, HT2.out⟩
  · have hr : asked n c = ((nhear n (encode ⟨askId c, 0, 1 + within (askAt c 2) 30⟩).1).1, (nhear n (encode ⟨askId c, 0, 1 + within (askAt c 2) 30⟩).1).2.1) := by unfold asked; rw [if_neg (by rw [HM.out]; decide), if_pos HM.out]
    have Hr := Lib.hid hr
    have h30 := within_in (n := askAt c 2) (k := 30) (by omega)
    have hww : wrap64 (1 + within (askAt c 2) 30) = 1 + within (askAt c 2) 30 := IntWalk.wrap64_in _ (by omega)
    clear hr
    go_enter Try.func43, Try.ntmps43
    go_wp2_with (first
      | (go_at_call_of 101 (Value.int IntKind.i64 1); first | (refine (at_any A cc c 1 w.heap.size _ (HC.out.below HB2.out) hl HP0.out).mono ?_; rintro e w0 ⟨rfl, hw⟩; have HB0 := Lib.hid (hw ▸ HB2.out : Below w.heap.size w w0); have P0 := Lib.hid (hw ▸ HP0.out : w0.cell? ⟨w.heap.size, 0, none⟩ = some (.slice A c.length cc)); have q0 := (hw ▸ HQ.out : w0.cell? ⟨w.heap.size + 1, k, none⟩ = some (.string (askId c))); clear hw) | (refine (at_any A cc c 1 w.heap.size _ (HC.out.below HB0.out) hl P0.out).mono ?_; rintro e w9 ⟨rfl, rfl⟩))
      | (go_at_call_of 101 (Value.int IntKind.i64 0); refine (at_any A cc c 0 w.heap.size _ (HC.out.below HB0.out) hl P0.out).mono ?_; rintro e w9 ⟨rfl, rfl⟩)
      | (go_at_call_of 101 (Value.int IntKind.i64 2); refine (at_any A cc c 2 w.heap.size _ (HC.out.below HB0.out) hl P0.out).mono ?_; rintro e w9 ⟨rfl, rfl⟩)
      | (go_at_call 30; refine (within_any _ _ _ (by decide) (by decide)).mono ?_; rintro e w9 ⟨rfl, rfl⟩; first | rw [HK.out] | rw [HM.out] | skip)
      | (go_at_call 94; refine (encode_any ⟨askId c, 0, 1 + within (askAt c 2) 30⟩ _).mono ?_; rintro e w1 ⟨rfl, hb1⟩; have HB1 := Lib.hid (HB0.out.trans (hb1.mono HB0.out.size)); clear hb1)
      | (go_at_call 53; refine (nhear_any b vs n _ _ (HN.out.below HB1.out) HG.out.inv.d1 HG.out.inv.d2 (hear_lv HG.out.inv _) HG.out.subs.s8).mono ?_; rintro e w2 ⟨⟨vn, rfl, ho2⟩, hn2, ht2⟩; have HO2 := Lib.hid (own_base ho2 HB1.out.size); have HN2 := Lib.hid hn2; have HT2 := Lib.hid ((Touch.of_below HB1.out).trans ht2); obtain ⟨A2, d2, rfl, -⟩ := own_form ho2; clear ho2 hn2 ht2)
      | fail)
    go_ret
    unfold AskPost
    rw [Hr.out]
    exact ⟨⟨_, rfl, HO2.out⟩, vs, HN2.out, VsTo.refl _ _, HT2.out⟩
  · have hr : asked n c = ((njoin n (askId c) (1 + within (askAt c 2) 12)).1, (njoin n (askId c) (1 + within (askAt c 2) 12)).2.1) := by unfold asked; rw [if_neg (by rw [HM.out]; decide), if_neg (by rw [HM.out]; decide), if_pos HM.out]
    have Hr := Lib.hid hr
    have h12 := within_in (n := askAt c 2) (k := 12) (by omega)
    have hww : wrap64 (1 + within (askAt c 2) 12) = 1 + within (askAt c 2) 12 := IntWalk.wrap64_in _ (by omega)
    clear hr
    go_enter Try.func43, Try.ntmps43
    go_wp2_with (first
      | (go_at_call_of 101 (Value.int IntKind.i64 1); first | (refine (at_any A cc c 1 w.heap.size _ (HC.out.below HB2.out) hl HP0.out).mono ?_; rintro e w0 ⟨rfl, hw⟩; have HB0 := Lib.hid (hw ▸ HB2.out : Below w.heap.size w w0); have P0 := Lib.hid (hw ▸ HP0.out : w0.cell? ⟨w.heap.size, 0, none⟩ = some (.slice A c.length cc)); have q0 := (hw ▸ HQ.out : w0.cell? ⟨w.heap.size + 1, k, none⟩ = some (.string (askId c))); clear hw) | (refine (at_any A cc c 1 w.heap.size _ (HC.out.below HB0.out) hl P0.out).mono ?_; rintro e w9 ⟨rfl, rfl⟩))
      | (go_at_call_of 101 (Value.int IntKind.i64 0); refine (at_any A cc c 0 w.heap.size _ (HC.out.below HB0.out) hl P0.out).mono ?_; rintro e w9 ⟨rfl, rfl⟩)
      | (go_at_call_of 101 (Value.int IntKind.i64 2); refine (at_any A cc c 2 w.heap.size _ (HC.out.below HB0.out) hl P0.out).mono ?_; rintro e w9 ⟨rfl, rfl⟩)
      | (go_at_call 30; refine (within_any _ _ _ (by decide) (by decide)).mono ?_; rintro e w9 ⟨rfl, rfl⟩; first | rw [HK.out] | rw [HM.out] | skip)
      | (go_at_call 49; refine (njoin_any b vs n (askId c) (1 + within (askAt c 2) 12) _ (HN.out.below HB0.out) HG.out.inv.lv HG.out.subs.s8).mono ?_; rintro e w2 ⟨⟨vn, rfl, ho2⟩, vs2, hn2, hv2, ht2⟩; have HO2 := Lib.hid (own_base ho2 HB0.out.size); have HN2 := Lib.hid hn2; have HV2 := Lib.hid ((VsTo.refl vs w).trans hv2 (Touch.of_below (S := NodeS b vs) HB0.out)); have HT2 := Lib.hid ((Touch.of_below HB0.out).trans ht2); obtain ⟨A2, d2, rfl, -⟩ := own_form ho2; clear ho2 hn2 hv2 ht2)
      | fail)
    go_ret
    unfold AskPost
    rw [Hr.out]
    exact ⟨⟨_, rfl, HO2.out⟩, vs2, HN2.out, HV2.out, HT2.out⟩
  · have hr : asked n c = ((npart n (askId c) (1 + within (askAt c 2) 12)).1, []) := by unfold asked; rw [if_neg (by rw [HM.out]; decide), if_neg (by rw [HM.out]; decide), if_neg (by rw [HM.out]; decide), if_pos HM.out]
    have Hr := Lib.hid hr
    have h12 := within_in (n := askAt c 2) (k := 12) (by omega)
    have hww : wrap64 (1 + within (askAt c 2) 12) = 1 + within (askAt c 2) 12 := IntWalk.wrap64_in _ (by omega)
    clear hr
    go_enter Try.func43, Try.ntmps43
    go_wp2_with (first
      | (go_at_call_of 101 (Value.int IntKind.i64 1); first | (refine (at_any A cc c 1 w.heap.size _ (HC.out.below HB2.out) hl HP0.out).mono ?_; rintro e w0 ⟨rfl, hw⟩; have HB0 := Lib.hid (hw ▸ HB2.out : Below w.heap.size w w0); have P0 := Lib.hid (hw ▸ HP0.out : w0.cell? ⟨w.heap.size, 0, none⟩ = some (.slice A c.length cc)); have q0 := (hw ▸ HQ.out : w0.cell? ⟨w.heap.size + 1, k, none⟩ = some (.string (askId c))); clear hw) | (refine (at_any A cc c 1 w.heap.size _ (HC.out.below HB0.out) hl P0.out).mono ?_; rintro e w9 ⟨rfl, rfl⟩))
      | (go_at_call_of 101 (Value.int IntKind.i64 0); refine (at_any A cc c 0 w.heap.size _ (HC.out.below HB0.out) hl P0.out).mono ?_; rintro e w9 ⟨rfl, rfl⟩)
      | (go_at_call_of 101 (Value.int IntKind.i64 2); refine (at_any A cc c 2 w.heap.size _ (HC.out.below HB0.out) hl P0.out).mono ?_; rintro e w9 ⟨rfl, rfl⟩)
      | (go_at_call 30; refine (within_any _ _ _ (by decide) (by decide)).mono ?_; rintro e w9 ⟨rfl, rfl⟩; first | rw [HK.out] | rw [HM.out] | skip)
      | (go_at_call 51; refine (npart_any b vs n (askId c) (1 + within (askAt c 2) 12) _ (HN.out.below HB0.out) HG.out.subs.s8).mono ?_; rintro e w2 ⟨rfl, vs2, hn2, hv2, ht2⟩; have HN2 := Lib.hid hn2; have HV2 := Lib.hid ((VsTo.refl vs w).trans hv2 (Touch.of_below (S := NodeS b vs) HB0.out)); have HT2 := Lib.hid ((Touch.of_below HB0.out).trans ht2); clear hn2 hv2 ht2)
      | fail)
    go_ret
    unfold AskPost
    rw [Hr.out]
    exact ⟨⟨_, rfl, World.ownsRow_nil _ _ _ _⟩, vs2, HN2.out, HV2.out, HT2.out⟩
  · have hr : asked n c = ((nhear n (ByteArray.mk #[72] ++ askId c)).1, (nhear n (ByteArray.mk #[72] ++ askId c)).2.1) := by unfold asked; rw [if_neg (by rw [HM.out]; decide), if_neg (by rw [HM.out]; decide), if_neg (by rw [HM.out]; decide), if_neg (by rw [HM.out]; decide)]
    have Hr := Lib.hid hr
    have hsz := askId_size c
    clear hr
    go_enter Try.func43, Try.ntmps43
    go_wp2_with (first
      | (go_at_call_of 101 (Value.int IntKind.i64 1); first | (refine (at_any A cc c 1 w.heap.size _ (HC.out.below HB2.out) hl HP0.out).mono ?_; rintro e w0 ⟨rfl, hw⟩; have HB0 := Lib.hid (hw ▸ HB2.out : Below w.heap.size w w0); have P0 := Lib.hid (hw ▸ HP0.out : w0.cell? ⟨w.heap.size, 0, none⟩ = some (.slice A c.length cc)); have q0 := (hw ▸ HQ.out : w0.cell? ⟨w.heap.size + 1, k, none⟩ = some (.string (askId c))); clear hw) | (refine (at_any A cc c 1 w.heap.size _ (HC.out.below HB0.out) hl P0.out).mono ?_; rintro e w9 ⟨rfl, rfl⟩))
      | (go_at_call_of 101 (Value.int IntKind.i64 0); refine (at_any A cc c 0 w.heap.size _ (HC.out.below HB0.out) hl P0.out).mono ?_; rintro e w9 ⟨rfl, rfl⟩)
      | (go_at_call_of 101 (Value.int IntKind.i64 2); refine (at_any A cc c 2 w.heap.size _ (HC.out.below HB0.out) hl P0.out).mono ?_; rintro e w9 ⟨rfl, rfl⟩)
      | (go_at_call 30; refine (within_any _ _ _ (by decide) (by decide)).mono ?_; rintro e w9 ⟨rfl, rfl⟩; first | rw [HK.out] | rw [HM.out] | skip)
      | (go_at_call 53; refine (nhear_any b vs n _ _ (HN.out.below HB0.out) HG.out.inv.d1 HG.out.inv.d2 (hear_lv HG.out.inv _) HG.out.subs.s8).mono ?_; rintro e w2 ⟨⟨vn, rfl, ho2⟩, hn2, ht2⟩; have HO2 := Lib.hid (own_base ho2 HB0.out.size); have HN2 := Lib.hid hn2; have HT2 := Lib.hid ((Touch.of_below HB0.out).trans ht2); obtain ⟨A2, d2, rfl, -⟩ := own_form ho2; clear ho2 hn2 ht2)
      | fail)
    go_ret
    unfold AskPost
    rw [Hr.out]
    exact ⟨⟨_, rfl, HO2.out⟩, vs, HN2.out, VsTo.refl _ _, HT2.out⟩

end Go.Proofs.Ytmclalhjnjghnaa
