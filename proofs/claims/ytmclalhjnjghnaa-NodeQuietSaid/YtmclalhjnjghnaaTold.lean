/- The contract of (*Node).told. -/
import Derived.Test.YtmclalhjnjghnaaSubs
import Derived.Test.YtmclalhjnjghnaaNLevel
import Derived.Test.YtmclalhjnjghnaaSlotsb
namespace Go.Proofs.Ytmclalhjnjghnaa
open Go.RowKit Hw

def toldSub (n : Hw.Node) (s : Sub) : Sub := { s with on := onNow n s }
def noteOf (n : Hw.Node) (s : Sub) : Option Note := if onNow n s == s.on then none else some ⟨s.id, s.theta, onNow n s⟩
def subsTo (n : Hw.Node) (k : Nat) : List Sub := (n.subs.take k).map (toldSub n) ++ n.subs.drop k
def notesTo (n : Hw.Node) (k : Nat) : List Note := (n.subs.take k).filterMap (noteOf n)

theorem subsTo_len (n : Hw.Node) (k : Nat) : (subsTo n k).length = n.subs.length := by
  unfold subsTo
  simp
  omega

theorem subsTo_get {n : Hw.Node} {k : Nat} (hk : k < n.subs.length) : (subsTo n k)[k]'(by rw [subsTo_len]; exact hk) = n.subs[k] := by
  unfold subsTo
  rw [List.getElem_append_right (by simp; omega)]
  simp
  congr 1
  omega

theorem subsTo_succ {n : Hw.Node} {k : Nat} (hk : k < n.subs.length) : subsTo n (k + 1) = (subsTo n k).set k (toldSub n n.subs[k]) := by
  unfold subsTo
  rw [List.set_append_right _ _ (by simp; omega), List.take_succ_eq_append_getElem hk, List.map_append, List.append_assoc]
  congr 1
  have : k - (List.map (toldSub n) (List.take k n.subs)).length = 0 := by simp; omega
  rw [this, List.drop_eq_getElem_cons hk]
  rfl

theorem subsTo_same {n : Hw.Node} {k : Nat} (hk : k < n.subs.length) (h : onNow n n.subs[k] = (n.subs[k]).on) : subsTo n (k + 1) = subsTo n k := by
  rw [subsTo_succ hk]
  have e : toldSub n n.subs[k] = (subsTo n k)[k]'(by rw [subsTo_len]; exact hk) := by
    rw [subsTo_get hk]
    unfold toldSub
    rw [h]
  rw [e]
  exact List.set_getElem_self _

theorem notesTo_succ {n : Hw.Node} {k : Nat} (hk : k < n.subs.length) : notesTo n (k + 1) = notesTo n k ++ (noteOf n n.subs[k]).toList := by
  unfold notesTo
  rw [List.take_succ_eq_append_getElem hk, List.filterMap_append]
  cases h : noteOf n n.subs[k] <;> simp [h]

theorem subsTo_all (n : Hw.Node) : subsTo n n.subs.length = toldSubs n := by
  unfold subsTo toldSubs
  rw [List.take_length, List.drop_length, List.append_nil]
  rfl
theorem notesTo_all (n : Hw.Node) : notesTo n n.subs.length = toldNotes n := by
  unfold notesTo toldNotes
  rw [List.take_length]
  rfl
theorem subsTo_zero (n : Hw.Node) : subsTo n 0 = n.subs := by simp [subsTo]

theorem notesCells_snoc (l : List Note) (x : Note) : notesCells (l ++ [x]) = notesCells l ++ noteCells x := by simp [notesCells]

/-- The block of a node's subs is none of notes. -/
theorem NodeAt.own_ne74 {w : World} {b : Nat} {vs v : Value} {n : Hw.Node} {B m : Nat} {xs : List Value} (h : NodeAt w b vs n) (ho : w.ownsRow B 74 3 v m xs) (g : Nat) (hg : some g = vs.ownBlock) : ¬ v.ownBlock = some g := by
  intro e
  rcases ho.2 with ⟨e1, _⟩ | ⟨g', cap, cur, e1, _, e3, _⟩
  · rw [e1] at e
    simp [Value.ownBlock] at e
  · rw [e1] at e
    simp [Value.ownBlock] at e
    subst e
    exact h.other e3 (by decide) (by decide) (.inr hg)

def V95 (B g k : Nat) (s : Sub) (on : Bool) (u3 : Value) (m : Nat) (xs : List Value) (j : Nat) (v : Value) (w : World) : Prop :=
  match j with
  | 0 => v = u3
  | 1 => v = .pointer (some ⟨g, k * 3, none⟩)
  | 2 => v = .pointer (some ⟨g, k * 3, none⟩)
  | 3 => v = .pointer (some ⟨g, k * 3, none⟩)
  | 4 => v = .string s.id
  | 5 => v = .pointer (some ⟨g, k * 3, none⟩)
  | 6 => v = .pointer (some ⟨g, k * 3, none⟩)
  | 7 => v = .pointer (some ⟨g, k * 3 + 1, none⟩)
  | 8 => v = .int .i64 s.theta
  | 9 => v = .bool on
  | 10 => v = .agg #[.string s.id, .int .i64 s.theta, .bool on]
  | 11 => ∃ x, v = .slice (some ⟨x, 0, none⟩) 1 1 ∧ w.heap[x]? = some (.cells #[.string s.id, .int .i64 s.theta, .bool on] 74 (0, 0)) ∧ u3.ownBlock ≠ some x
  | _ => w.ownsRow B 74 3 v (m + 1) (xs ++ [.string s.id, .int .i64 s.theta, .bool on])
def V95S : List Nat := [48, 49, 50, 51, 52, 53, 54, 55, 56, 57, 58, 59, 60, 3]

theorem V95.below {B g k : Nat} {s : Sub} {on : Bool} {u3 : Value} {m : Nat} {xs : List Value} {j : Nat} {v : Value} {w w' : World} (h : V95 B g k s on u3 m xs j v w) (hb : Below w.heap.size w w') : V95 B g k s on u3 m xs j v w' := by
  unfold V95 at *
  split at h
  all_goals first
    | exact h
    | (obtain ⟨x, e1, e2, e3⟩ := h; exact ⟨x, e1, (hb.block x (Array.getElem?_eq_some_iff.1 e2).1).trans e2, e3⟩)
    | exact own_below h hb

theorem V95.grown {B g k : Nat} {s : Sub} {on : Bool} {u3 : Value} {m : Nat} {xs : List Value} {j : Nat} {v : Value} {w w' : World} (h : V95 B g k s on u3 m xs j v w) (hj : j < 12) (hg : w.grownBy w' u3.ownBlock) : V95 B g k s on u3 m xs j v w' := by
  have hjj : j = 0 ∨ j = 1 ∨ j = 2 ∨ j = 3 ∨ j = 4 ∨ j = 5 ∨ j = 6 ∨ j = 7 ∨ j = 8 ∨ j = 9 ∨ j = 10 ∨ j = 11 := by omega
  rcases hjj with rfl | rfl | rfl | rfl | rfl | rfl | rfl | rfl | rfl | rfl | rfl | rfl
  all_goals first
    | exact h
    | (obtain ⟨x, e1, e2, e3⟩ := h; exact ⟨x, e1, (hg.block x (Array.getElem?_eq_some_iff.1 e2).1 (Ne.symm e3)).trans e2, e3⟩)

theorem V95S_3 : ∀ j, j < 14 → V95S.getD j 0 = 3 → j = 13 := by decide
theorem V95S_5 : ∀ j, j < 14 → V95S.getD j 0 ≠ 5 := by decide
theorem V95S_8 : ∀ j, j < 14 → V95S.getD j 0 ≠ 8 := by decide

def C95 (b : Nat) (vs : Value) (n : Hw.Node) (w0 : World) (g k : Nat) (s : Sub) (u3 : Value) (m : Nat) (xs : List Value) (L : Nat → Bool) (w : World) : Prop :=
  (NodeAt w b vs n ∧ Touch (NodeS b vs) w0 w ∧ w.cell? ⟨g, k * 3, none⟩ = some (.string s.id) ∧ w.cell? ⟨g, k * 3 + 1, none⟩ = some (.int .i64 s.theta)) ∧
    (L 12 = false → w.ownsRow w0.heap.size 74 3 u3 m xs) ∧ (L 12 = false → L 13 = false) ∧ (L 0 = false → L 13 = false) ∧ (L 11 = false → L 12 = false)

theorem C95.up {b : Nat} {vs : Value} {n : Hw.Node} {w0 : World} {g k : Nat} {s : Sub} {u3 : Value} {m : Nat} {xs : List Value} {L : Nat → Bool} {w : World} (h : C95 b vs n w0 g k s u3 m xs L w) {i : Nat} (hi : i < 12) : C95 b vs n w0 g k s u3 m xs (upd L i) w := by
  obtain ⟨h1, h2, h3, h4, h5⟩ := h
  have e : upd L i 12 = L 12 := by unfold upd; rw [show ((12 : Nat) == i) = false by simp; omega]; rfl
  have e2 : upd L i 13 = L 13 := by unfold upd; rw [show ((13 : Nat) == i) = false by simp; omega]; rfl
  refine ⟨h1, by rw [e]; exact h2, by rw [e, e2]; exact h3, fun h0 => ?_, fun h0 => ?_⟩
  · rw [e2]
    exact h4 (Bool.or_eq_false_iff.1 h0).2
  · rw [e]
    exact h5 (Bool.or_eq_false_iff.1 h0).2

theorem C95.below {b : Nat} {vs : Value} {n : Hw.Node} {w0 : World} {g k : Nat} {s : Sub} {u3 : Value} {m : Nat} {xs : List Value} {L : Nat → Bool} {w w' : World} (h : C95 b vs n w0 g k s u3 m xs L w) (hb : Below w.heap.size w w') : C95 b vs n w0 g k s u3 m xs L w' := by
  obtain ⟨⟨h1, h2, h3, h4⟩, h5, h6⟩ := h
  exact ⟨⟨h1.below hb, h2.trans (Touch.of_below hb), bsome hb h3, bsome hb h4⟩, fun e => own_below (h5 e) hb, h6⟩

theorem C95.grown {b : Nat} {vs : Value} {n : Hw.Node} {w0 : World} {g k : Nat} {s : Sub} {u3 : Value} {m : Nat} {xs : List Value} {L : Nat → Bool} {w w' : World} (h : C95 b vs n w0 g k s u3 m xs L w) (hL : L 12 = false) (hL1 : L 11 = true) (hv : vs.ownBlock = some g) (hg : w.grownBy w' u3.ownBlock) : C95 b vs n w0 g k s u3 m xs (upd L 12) w' := by
  obtain ⟨⟨h1, h2, h3, h4⟩, h5, h6⟩ := h
  have ho := h5 hL
  have hgl := blt h3
  have hgn : some g ≠ u3.ownBlock := fun e => h1.own_ne74 ho g hv.symm e.symm
  have hc := fun j => World.cell?_of_block (a := ⟨g, j, none⟩) (hg.block g hgl hgn)
  refine ⟨⟨h1.grown ho hg (by decide), h2.grown hg fun q hq => (ho.lt q hq.symm).1, (hc _).trans h3, (hc _).trans h4⟩, fun e => ?_, ?_⟩
  · simp [upd] at e
  · refine ⟨fun e => by simp [upd] at e, fun e => ?_, fun e => ?_⟩
    · have e := (Bool.or_eq_false_iff.1 e).2
      have := h6.2.1 e
      unfold upd
      rw [this]
      rfl
    · have e := (Bool.or_eq_false_iff.1 e).2
      rw [hL1] at e
      cases e

set_option maxRecDepth 100000 in
set_option maxHeartbeats 2000000 in
theorem told_any (b : Nat) (vs : Value) (n : Hw.Node) (w : World) (h : NodeAt w b vs n) (hlv : NodeLv n) (h8 : n.subs.length ≤ 8) : Calls Try.prog 95 #[.pointer (some ⟨b, 0, none⟩)] w (ToldPost b vs n w) := by
  obtain ⟨i0, hi0, hz0, hz1, hz2⟩ := info_parts (show (Try.prog.info? 74).map (fun i => (i.zero, i.size, i.bytes)) = some (some (.agg #[.string ByteArray.empty, .int .i64 0, .bool false]), 3, 32) by kernel_rfl)
  have HN := Lib.hid h
  have HL := Lib.hid hlv
  obtain ⟨A, c, -, -, -, -, -, -, -, -, -, c9, -, -, -⟩ := h.cells
  obtain ⟨A9, d9, evs, -⟩ := h.sub
  have hbl := h.lt
  rw [evs] at c9
  have Hevs := Lib.hid evs
  clear h hlv evs
  go_enter Try.func95, Try.ntmps95
  go_wp2_with fail
  go_loopw [3, 14] (fun v i wr => ∃ k : Nat, k ≤ n.subs.length ∧ i = .int .i64 k ∧ Hid (NodeAt wr b vs { n with subs := subsTo n k }) ∧ Hid (wr.ownsRow w.heap.size 74 3 v (notesTo n k).length (notesCells (notesTo n k))) ∧ Hid (Touch (NodeS b vs) w wr)) (fun _ i _ => n.subs.length - (intOf i).toNat)
  case atStart => exact ⟨0, by omega, rfl, by rw [subsTo_zero]; exact HN.out, World.ownsRow_nil _ _ _ _, Touch.refl _ _⟩
  case round =>
    obtain ⟨k, hk, rfl, HM, HO, HTo⟩ := hrel
    have hkw : IntKind.i64.wrap ((k : Int) + 1) = (k : Int) + 1 := IntWalk.i64_in _ (by omega)
    by_cases hlt : k < n.subs.length
    · obtain ⟨A1, d1, -, -, -, -, -, -, -, -, -, m9, -, -, -⟩ := HM.out.cells
      obtain ⟨g, d, e, hgb, s0, s1, s2, sf⟩ := HM.out.subAt (k := k) (by simp only [subsTo_len]; exact hlt)
      simp only [subsTo_get hlt, subsTo_len] at s0 s1 s2 e
      rw [e] at m9
      have Hsf := Lib.hid sf
      have He := Lib.hid e
      have hki : (k : Int) < (n.subs.length : Int) := by omega
      have hk0 : (0 : Int) ≤ (k : Int) := by omega
      have hlvl : level { n with subs := subsTo n k } (n.subs[k]).id = level n (n.subs[k]).id := rfl
      have hon : onNow n n.subs[k] = decide ((n.subs[k]).theta ≤ (level n (n.subs[k]).id).1) := rfl
      obtain ⟨s, hs⟩ : ∃ s, n.subs[k] = s := ⟨_, rfl⟩
      rw [hs] at s0 s1 s2 hlvl hon
      obtain ⟨q, hq⟩ : ∃ q, (level n s.id).1 = q := ⟨_, rfl⟩
      have HQ := Lib.hid hq
      have HS := Lib.hid hs
      have Hon := Lib.hid hon
      have Hlvl := Lib.hid hlvl
      have hbw := HM.out.lt
      clear sf e hs hq hon hlvl
      go_wp2_with (first | (go_at_call 44; refine (nlevel_any b vs { n with subs := subsTo n k } s.id _ HM.out HL.out).mono ?_; rintro e w1 ⟨rfl, hb1⟩; rw [Hlvl.out, HQ.out]; have sf := (hb1.frozen (p := ⟨g, k * 3 + 2, none⟩) (blt s0)).trans (Hsf.out _); have m9 := bsome hb1 m9; have s0 := bsome hb1 s0; have s1 := bsome hb1 s1; have s2 := bsome hb1 s2; have Hb1 := Lib.hid hb1; clear hb1) | fail)
      · have hne : (!decide (s.theta ≤ q) == s.on) = true := by assumption
        have hon2 : onNow n s = decide (s.theta ≤ q) := by rw [Hon.out, HQ.out]
        have hno : noteOf n s = some ⟨s.id, s.theta, decide (s.theta ≤ q)⟩ := by
          unfold noteOf
          rw [hon2, if_neg]
          intro e
          have e := eq_of_beq e
          rw [e] at hne
          cases hb : s.on <;> rw [hb] at hne <;> cases hne
        have hm1 := HM.out.below Hb1.out
        rw [He.out] at hm1
        have hm2 := hm1.putSub (k := k) (j := 2) (u := .bool (decide (s.theta ≤ q))) (s' := toldSub n s) (by simp only [subsTo_len]) (by simp only [subsTo_len]; exact hlt) (by omega) (by
          simp only [subsTo_get hlt, HS.out]
          unfold toldSub subCells
          rw [hon2]
          rfl)
        simp only at hm2
        rw [← HS.out, ← subsTo_succ hlt, HS.out] at hm2
        have ht2 := (HTo.out.trans (Touch.of_below Hb1.out)).setCell (a := ⟨g, k * 3 + 2, none⟩) (by right; rw [He.out]; rfl) (.bool (decide (s.theta ≤ q)))
        have ho2 : (w1.setCell ⟨g, k * 3 + 2, none⟩ (.bool (decide (s.theta ≤ q)))).ownsRow w.heap.size 74 3 u3 (notesTo n k).length (notesCells (notesTo n k)) := by
          refine ownsRow_setCell_other (own_below HO.out Hb1.out) (a := ⟨g, k * 3 + 2, none⟩) ?_ _
          intro e
          exact HM.out.own_ne74 HO.out g (by rw [He.out]; rfl) e
        have r0 : (w1.setCell ⟨g, k * 3 + 2, none⟩ (.bool (decide (s.theta ≤ q)))).cell? ⟨g, k * 3, none⟩ = some (.string s.id) := (World.cell?_setCell_other _ _ _ _ (by simp)).trans s0
        have r1 : (w1.setCell ⟨g, k * 3 + 2, none⟩ (.bool (decide (s.theta ≤ q)))).cell? ⟨g, k * 3 + 1, none⟩ = some (.int .i64 s.theta) := (World.cell?_setCell_other _ _ _ _ (by simp)).trans s1
        generalize w1.setCell ⟨g, k * 3 + 2, none⟩ (.bool (decide (s.theta ≤ q))) = W at hm2 ht2 ho2 r0 r1 ⊢
        clear sf s0 s1 s2 m9
        rw [← He.out] at hm2
        have HM2 := Lib.hid hm2
        have HT2 := Lib.hid ht2
        have HO2 := Lib.hid ho2
        have Hno := Lib.hid hno
        have hsz := ht2.size
        clear hm1 hm2 ht2 ho2 hno hne
        refine wp_region_inv (V95 w.heap.size g k s (decide (s.theta ≤ q)) u3 (notesTo n k).length (notesCells (notesTo n k))) (C95 b vs { n with subs := subsTo n (k + 1) } w g k s u3 (notesTo n k).length (notesCells (notesTo n k))) V95S (by kernel_rfl) (by rfl) (by kernel_rfl)
          (fun i hi hn => absurd hn (by have hi' : i < 14 := hi; show ¬ (63 ≤ V95S.getD i 0); clear hi hn; revert i; decide)) ?hc ?hs ?hd
        case hc => exact ⟨⟨HM2.out.below (below_drewN (Below.refl _ _) 1), HT2.out.drew, r0, r1⟩, fun _ => HO2.out, fun _ => rfl, fun _ => rfl, fun _ => rfl⟩
        case hs =>
          refine AllOps.cons ?_ ?_
          focus
            intro L a wx hLi hC hk hv K hK
            have h3 := hk 3 (fun j hj hl => by
              intro e
              have hj13 : j = 13 := V95S_3 j hj e
              rw [hj13, hC.2.2.2.1 hLi] at hl
              cases hl)
            simp at h3
            go_simp
            exact hK _ _ (hC.up (by decide)) (fun _ _ _ _ h => h) rfl
          iterate 10 (refine AllOps.cons ?_ ?_; focus (
            intro L a wx hLi hC hk hv K hK
            have h5 := hk 5 (fun j hj _ => V95S_5 j hj)
            have h8 := hk 8 (fun j hj _ => V95S_8 j hj)
            have e0 := hC.1.2.2.1
            have e1 := hC.1.2.2.2
            have HC := Lib.hid hC
            clear hk hC
            simp [Region.binds, V95, V95S] at hv h5 h8
            go_simp
            exact hK _ _ (HC.out.up (by decide)) (fun _ _ _ _ h => h) rfl))
          refine AllOps.cons ?_ ?_
          focus
            intro L a wx hLi hC hk hv K hK
            have hs11 := (hC.2.1 (hC.2.2.2.2 hLi))
            have hb : Below wx.heap.size wx (wx.alloc (.cells #[.string s.id, .int .i64 s.theta, .bool (decide (s.theta ≤ q))] 74)) := (Below.refl _ _).alloc (Nat.le_refl _) _
            have HC := Lib.hid hC
            have H11 := Lib.hid hs11
            have HB := Lib.hid hb
            clear hk hC hs11 hb
            simp [Region.binds, V95, V95S] at hv
            go_simp
            refine hK _ _ ((HC.out.below HB.out).up (by decide)) (fun _ _ _ _ h => h.below HB.out) ⟨_, rfl, heap_alloc_new _ _, fun e => ?_⟩
            have := (H11.out.lt _ e).2
            omega
          refine AllOps.cons ?_ ?_
          focus
            intro L a wx hLi hC hk hv K hK
            have ho := hC.2.1 hLi
            have HC := Lib.hid hC
            have HOo := Lib.hid ho
            clear hk hC ho
            simp [Region.binds, V95, V95S] at hv
            obtain ⟨hv0, hL11, x, hx1, hx2, hx3⟩ := hv
            have HK := Lib.hid hK
            clear hK
            have hlen : (notesTo n k).length ≤ 8 := by
              have := List.length_filterMap_le (noteOf n) (n.subs.take k)
              unfold notesTo
              simp at this ⊢
              omega
            refine oper_append_own (.tmp 48) (.tmp 59) 49 (by rfl) w.heap.size 74 i0 _ 3 32 Try.underlying49 hi0 hz0 hz1 hz2 rfl (by omega) u3 (notesTo n k).length _ (by simpa [Act.eval] using hv0.2) (by exact HOo.out) ⟨x, 0, none⟩ 1 1 [.string s.id, .int .i64 s.theta, .bool (decide (s.theta ≤ q))] (by simpa [Act.eval] using hx1) rfl ?b1 ?b2 ?b3 ?b4 ?b5 ?_
            case b1 =>
              intro j u hu
              rw [add_lit, Nat.zero_add, cell_of_row _ _ _ _ _ _ hx2]
              simpa using hu
            case b2 => simp [Value.oneCell']
            case b3 => simp only [maxLen]; omega
            case b4 => omega
            case b5 => have := HC.out.1.2.1.size; omega
            intro v9 w9 ho9 hg9 _ _
            refine HK.out v9 w9 (HC.out.grown hLi hL11 (by rw [He.out]; rfl) hg9) (fun j u hjl hj hu => ?_) ho9
            have hjl : j < 14 := hjl
            by_cases h12 : j < 12
            · exact hu.grown h12 hg9
            · exfalso
              by_cases e : j = 12
              · rw [e, hLi] at hj
                cases hj
              · have e : j = 13 := by omega
                rw [e, HC.out.2.2.1 hLi] at hj
                cases hj
          refine AllOps.cons ?_ ?_
          focus
            intro L a wx hLi hC hk hv K hK
            clear hk
            simp [Region.binds, V95, V95S] at hv
            obtain ⟨⟨l12, hv12⟩, ⟨l0, -⟩, -, -, -, -, -, -, -, -, -, -, ⟨l11, -⟩, -⟩ := hv
            go_simp
            have l12' : upd L 13 12 = true := by unfold upd; rw [l12]; rfl
            have l0' : upd L 13 0 = true := by unfold upd; rw [l0]; rfl
            have l11' : upd L 13 11 = true := by unfold upd; rw [l11]; rfl
            refine hK _ _ ⟨hC.1, fun e => ?_, fun e => ?_, fun e => ?_, fun e => ?_⟩ (fun _ _ _ _ h => h) hv12
            · exact absurd (l12'.symm.trans e) (by decide)
            · exact absurd (l12'.symm.trans e) (by decide)
            · exact absurd (l0'.symm.trans e) (by decide)
            · exact absurd (l11'.symm.trans e) (by decide)
          exact AllOps.nil
        case hd =>
          intro us L w2 hL hC hv
          have e13 : w2.ownsRow w.heap.size 74 3 (us 13) ((notesTo n k).length + 1) (notesCells (notesTo n k) ++ [.string s.id, .int .i64 s.theta, .bool (decide (s.theta ≤ q))]) := hv 13 (by decide)
          have HC := Lib.hid hC
          have H13 := Lib.hid e13
          have Hus := Lib.hid (show us 13 = us 13 from rfl)
          clear hv hC e13 hL
          simp only [setAll, V95S, List.setIfInBounds_toArray, List.set_cons_zero, List.set_cons_succ]
          generalize us 13 = u13 at H13 ⊢
          go_wp2_with fail
          go_roundw
          case rel =>
            refine ⟨k + 1, by omega, by go_num, HC.out.1.1, ?_, HC.out.1.2.1⟩
            show w2.ownsRow w.heap.size 74 3 _ _ _
            rw [notesTo_succ hlt, HS.out, Hno.out]
            simp only [Option.toList, List.length_append, List.length_singleton, notesCells_snoc]
            exact H13.out
          case measure => simp [intOf]; omega
      · have hne : (!decide (s.theta ≤ q) == s.on) = false := by assumption
        have hon2 : onNow n s = s.on := by
          rw [Hon.out, HQ.out]
          cases ha : decide (s.theta ≤ q) <;> cases hb : s.on <;> rw [ha, hb] at hne <;> first | rfl | cases hne
        have hno : noteOf n s = none := by
          unfold noteOf
          rw [hon2, if_pos (by simp)]
        have Hon2 := Lib.hid hon2
        have Hno := Lib.hid hno
        clear hon2 hno hne
        go_roundw
        case rel =>
          refine ⟨k + 1, by omega, by go_num, ?_, ?_, HTo.out.trans (Touch.of_below Hb1.out)⟩
          · rw [subsTo_same hlt (by rw [HS.out]; exact Hon2.out)]
            exact HM.out.below Hb1.out
          · rw [notesTo_succ hlt, HS.out, Hno.out]
            simp only [Option.toList, List.append_nil]
            exact own_below HO.out Hb1.out
        case measure => simp [intOf]; omega
    · have hkl : ¬ (k : Int) < (n.subs.length : Int) := by omega
      obtain rfl : k = n.subs.length := by omega
      go_wp2_with fail
      go_ret
      rw [subsTo_all] at HM
      rw [notesTo_all] at HO
      exact ⟨⟨_, rfl, HO.out⟩, HM.out, HTo.out⟩

end Go.Proofs.Ytmclalhjnjghnaa
