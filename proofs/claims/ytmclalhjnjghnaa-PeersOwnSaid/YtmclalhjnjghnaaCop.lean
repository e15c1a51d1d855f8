/- The contract of the law's own copied: peers in new memory, marks behind every list. -/
import Derived.Test.YtmclalhjnjghnaaRoomyP
namespace Go.Proofs.Ytmclalhjnjghnaa
open Go.RowKit Hw

abbrev restCells : List Value := spareCells ++ (spareCells ++ spareCells)

/-- Peers in a row of the call's own, marks behind every list. -/
def InP (w : World) (B g : Nat) (l : List Peer) (us : List Value) : Prop :=
  us.length = l.length ∧ B ≤ g ∧ w.heap[g]? = some (.cells (cellsOf l us ++ restCells).toArray 40 (0, 0)) ∧
    ∀ (k : Nat) (u : Value) (p : Peer), us[k]? = some u → l[k]? = some p → RoomI w B u p.vals (-78)

theorem RoomI.keep {w w' : World} {B B' : Nat} {v : Value} {l : List Int} {x : Int} (h : RoomI w B v l x) (hB : B' ≤ B) (hk : ∀ (g : Nat) (o : Obj), w.heap[g]? = some o → (∀ c t fz, o = .cells c t fz → t = 3) → w'.heap[g]? = some o) : RoomI w' B' v l x := by
  obtain ⟨g, e, hg, hc⟩ := h
  exact ⟨g, e, by omega, hk g _ hc (fun c t fz e => by injection e with _ e _; exact e.symm)⟩

theorem RoomI.below {w w' : World} {B : Nat} {v : Value} {l : List Int} {x : Int} (h : RoomI w B v l x) (hb : Below w.heap.size w w') : RoomI w' B v l x :=
  h.keep (Nat.le_refl _) (fun g o hg _ => (hb.block g (Array.getElem?_eq_some_iff.1 hg).1).trans hg)

theorem RoomI.reads {w : World} {B : Nat} {A : Option Addr} {n c : Nat} {l : List Int} {x : Int} (h : RoomI w B (.slice A n c) l x) : n = l.length ∧ Ints w A l ∧ l.length ≤ c := by
  obtain ⟨g, e, hg, hc⟩ := h
  injection e with e1 e2 e3
  subst e1 e2 e3
  refine ⟨rfl, fun _ => ⟨g, 0, rfl, fun j hj => ?_⟩, by omega⟩
  rw [cell_of_row w g _ _ 3 (0, 0) hc, Nat.zero_add, List.getElem?_toArray, List.getElem?_append_left (by simpa using hj), List.getElem?_map]
  simp [List.getElem?_eq_getElem hj, List.getD]

theorem InP.below {w w' : World} {B g : Nat} {l : List Peer} {us : List Value} (h : InP w B g l us) (hb : Below w.heap.size w w') : InP w' B g l us := by
  obtain ⟨h1, h2, h3, h4⟩ := h
  exact ⟨h1, h2, (hb.block g (Array.getElem?_eq_some_iff.1 h3).1).trans h3, fun k u p a b => (h4 k u p a b).below hb⟩

theorem InP.reads {w : World} {B g : Nat} {l : List Peer} {us : List Value} (h : InP w B g l us) : PeersR w (some ⟨g, 0, none⟩) l := by
  obtain ⟨h1, h2, h3, h4⟩ := h
  intro h0
  refine ⟨g, 0, rfl, fun k hk => ?_⟩
  have hv : us[k]? = some (us[k]'(by omega)) := List.getElem?_eq_getElem (by omega)
  have hp : l[k]? = some l[k] := List.getElem?_eq_getElem hk
  have hr := h4 k _ _ hv hp
  have hr2 := hr
  obtain ⟨g2, ev, _, _⟩ := hr2
  have hlen := cellsOf_length l us h1
  have hcell : ∀ j u, j < 7 → (peerCells l[k] (us[k]'(by omega)))[j]? = some u → w.cell? ⟨g, 0 + k * 7 + j, none⟩ = some u := by
    intro j u hj hu
    rw [cell_of_row w g _ _ 40 (0, 0) h3, List.getElem?_toArray, show 0 + k * 7 + j = k * 7 + j by omega, List.getElem?_append_left (by rw [hlen]; omega), cellsOf_get l us k j h1 hk hj]
    exact hu
  rw [ev] at hr
  obtain ⟨-, hi, hc⟩ := hr.reads
  refine ⟨_, _, hcell 0 _ (by omega) rfl, hcell 1 _ (by omega) rfl, hcell 2 _ (by omega) rfl, hcell 3 _ (by omega) rfl, hcell 4 _ (by omega) rfl, ?_, hcell 6 _ (by omega) rfl, hi, hc⟩
  have := hcell 5 _ (by omega) rfl
  rw [this, ev]

theorem set_mid {α : Type} (us vs : List α) (k : Nat) (u : α) (hu : us.length = k) (hk : k < vs.length) : (us ++ vs.drop k).set k u = us ++ [u] ++ vs.drop (k + 1) := by
  subst hu
  rw [List.set_append_right _ _ (Nat.le_refl _), Nat.sub_self, List.drop_eq_getElem_cons hk, List.set_cons_zero, List.append_assoc]
  rfl

theorem mid_get {α : Type} (us vs : List α) (k : Nat) (hu : us.length = k) (hk : k < vs.length) : (us ++ vs.drop k)[k]? = some vs[k] := by
  subst hu
  rw [List.getElem?_append_right (Nat.le_refl _), Nat.sub_self, List.drop_eq_getElem_cons hk]
  rfl

theorem vs_one {w : World} {l : List Peer} {vs : List Value} (h : vs.length = l.length) (hv : ∀ (k : Nat) (u : Value) (p : Peer), vs[k]? = some u → l[k]? = some p → ∃ A' c', u = .slice A' p.vals.length c' ∧ Ints w A' p.vals ∧ p.vals.length ≤ c') :
    ∀ u ∈ cellsOf l vs, u.oneCell' = true := by
  refine cellsOf_one l vs (fun u hu => ?_)
  obtain ⟨k, hk, e⟩ := List.getElem_of_mem hu
  obtain ⟨A', c', e2, -, -⟩ := hv k u (l[k]'(by omega)) (by rw [List.getElem?_eq_getElem hk, e]) (List.getElem?_eq_getElem (by omega))
  exact ⟨A', _, c', e2⟩

set_option maxRecDepth 100000 in
set_option maxHeartbeats 2000000 in
theorem cop_any (A : Option Addr) (c : Nat) (l : List Peer) (w : World) (h : PeersR w A l) (hl : l.length ≤ 1759218604441) (hv : ∀ (k : Nat) (p : Peer), l[k]? = some p → p.vals.length ≤ 17592186044416) :
    Calls Try.prog 21 #[.slice A l.length c] w fun e w' => (∃ g us, e = .returned (.slice (some ⟨g, 0, none⟩) l.length (l.length + 3)) ∧ InP w' w.heap.size g l us) ∧ Below w.heap.size w w' := by
  obtain ⟨vs, hvs, hA, hU⟩ := h.cells
  have HA := Lib.hid hA
  have HU := Lib.hid hU
  have Hvs := Lib.hid hvs
  have HV := Lib.hid hv
  have H1 := Lib.hid (vs_one hvs hU)
  clear hA hU hvs hv h
  go_enter Try.func21, Try.ntmps21
  go_wp2_with (go_at_call 82; refine (roomyp_any A c l vs _ Hvs.out HA.out H1.out hl).mono ?_; rintro e w1 ⟨⟨v1, rfl, g, rfl, hg1, hc1⟩, hb1⟩; have Hc1 := Lib.hid hc1; have Hb1 := Lib.hid hb1; clear hc1 hb1)
  go_loopw [4, 10] (fun _ i wr => ∃ (k : Nat) (us : List Value), us.length = k ∧ k ≤ l.length ∧ i = .int .i64 k ∧ Hid (wr.heap[g]? = some (.cells (cellsOf l (us ++ vs.drop k) ++ restCells).toArray 40 (0, 0))) ∧
    Hid (∀ (j : Nat) (u : Value) (p : Peer), us[j]? = some u → l[j]? = some p → RoomI wr w.heap.size u p.vals (-78)) ∧ Below w.heap.size w wr) (fun _ i _ => l.length - (intOf i).toNat)
  case atStart => exact ⟨0, [], rfl, Nat.zero_le _, rfl, Hc1.out, fun j u p hu => by simp at hu, Hb1.out⟩
  case round =>
    obtain ⟨k, us, hus, hk, rfl, HC, HR, hb⟩ := hrel
    have Hb := Lib.hid hb
    clear hb
    have hkw : IntKind.i64.wrap ((k : Int) + 1) = (k : Int) + 1 := IntWalk.i64_in _ (by omega)
    by_cases hlt : k < l.length
    · have hvl : k < vs.length := by rw [Hvs.out]; exact hlt
      obtain ⟨A', c', ev, hi, hle⟩ := HU.out k vs[k] l[k] (List.getElem?_eq_getElem hvl) (List.getElem?_eq_getElem hlt)
      have hlv := HV.out k l[k] (List.getElem?_eq_getElem hlt)
      have hlen : (us ++ vs.drop k).length = l.length := by rw [List.length_append, List.length_drop, Hvs.out]; omega
      have hcl := cellsOf_length l (us ++ vs.drop k) hlen
      have hgt := cellsOf_get l (us ++ vs.drop k) k 5 hlen hlt (by omega)
      have hmid := mid_get us vs k hus hvl
      have hel : (us ++ vs.drop k)[k]'(by omega) = vs[k] := by
        have := List.getElem?_eq_getElem (l := us ++ vs.drop k) (i := k) (by omega)
        rw [this] at hmid
        injection hmid
      have q : wr.cell? ⟨g, k * 7 + 4 + 1, none⟩ = some (.slice A' l[k].vals.length c') := by
        rw [cell_of_row wr g _ _ 40 (0, 0) HC.out, List.getElem?_toArray, List.getElem?_append_left (by rw [hcl]; omega)]
        show (cellsOf l (us ++ vs.drop k))[k * 7 + 5]? = _
        rw [hgt, hel, ev]
        rfl
      have f : wr.frozen? ⟨g, k * 7 + 4 + 1, none⟩ = false := frozen_of_row wr _ _ _ 40 HC.out
      have zg := blt q
      have Hi := Lib.hid (hi.below Hb.out)
      have Hmid := Lib.hid hmid
      have Hlen := Lib.hid hlen
      have Hev := Lib.hid ev
      have hkk : (k : Int) < (l.length : Int) := by omega
      have hk0 : (0 : Int) ≤ (k : Int) := by omega
      clear hi hmid hlen hgt hel ev hcl
      go_wp2_with (go_at_call 66; refine (roomyi_any A' c' l[k].vals (-78) _ Hi.out hlv).mono ?_; rintro e w2 ⟨⟨v2, rfl, hr2⟩, hb2⟩; have q2 := bsome hb2 q; have f2 := (hb2.frozen (p := ⟨g, k * 7 + 4 + 1, none⟩) zg).trans f; have Hr2 := Lib.hid hr2; have Hb2 := Lib.hid hb2; clear hb2; obtain ⟨g2, rfl, hg2, hc2⟩ := hr2; have Hc2 := Lib.hid hc2; clear hc2)
      have hcur := (Hb2.out.block g zg).trans HC.out
      have hset := heap_setCell_same w2 g (k * 7 + 5) _ 40 (.slice (some ⟨g2, 0, none⟩) l[k].vals.length (l[k].vals.length + 3)) hcur
      have hfin : (w2.setCell ⟨g, k * 7 + 4 + 1, none⟩ (.slice (some ⟨g2, 0, none⟩) l[k].vals.length (l[k].vals.length + 3))).heap[g]? =
          some (.cells (cellsOf l ((us ++ [.slice (some ⟨g2, 0, none⟩) l[k].vals.length (l[k].vals.length + 3)]) ++ vs.drop (k + 1)) ++ restCells).toArray 40 (0, 0)) := by
        refine hset.trans ?_
        rw [List.setIfInBounds_toArray, List.set_append_left _ _ (by rw [cellsOf_length l _ Hlen.out]; omega),
          ← cellsOf_set l _ k 5 l[k] l[k] _ (.slice (some ⟨g2, 0, none⟩) l[k].vals.length (l[k].vals.length + 3)) _ Hlen.out (List.getElem?_eq_getElem hlt) Hmid.out (by omega) rfl, List.set_getElem_self, set_mid us vs k _ hus hvl]
      have hW : ∀ (g' : Nat) (o : Obj), w2.heap[g']? = some o → (∀ c t fz, o = .cells c t fz → t = 3) → (w2.setCell ⟨g, k * 7 + 4 + 1, none⟩ (.slice (some ⟨g2, 0, none⟩) l[k].vals.length (l[k].vals.length + 3))).heap[g']? = some o := by
        intro g' o ho ht
        by_cases hg' : g' = g
        · subst hg'
          rw [hcur] at ho
          injection ho with ho
          exact absurd (ht _ _ _ ho.symm) (by decide)
        · rw [heap_setCell_other _ _ _ _ hg']
          exact ho
      have hB3 : Below w.heap.size w (w2.setCell ⟨g, k * 7 + 4 + 1, none⟩ (.slice (some ⟨g2, 0, none⟩) l[k].vals.length (l[k].vals.length + 3))) := (Hb.out.trans (Hb2.out.mono Hb.out.size)).setCell hg1 _
      generalize w2.setCell ⟨g, k * 7 + 4 + 1, none⟩ (.slice (some ⟨g2, 0, none⟩) l[k].vals.length (l[k].vals.length + 3)) = W at hfin hW hB3 ⊢
      have Hfin := Lib.hid hfin
      have HW := Lib.hid hW
      have HB3 := Lib.hid hB3
      clear hcur hset hfin hW hB3
      go_roundw
      case rel =>
        refine ⟨k + 1, us ++ [Value.slice (some ⟨g2, 0, none⟩) l[k].vals.length (l[k].vals.length + 3)], by simp [hus], hlt, by go_num, Hfin.out, fun j u p hu hp => ?_, HB3.out⟩
        rcases Nat.lt_or_ge j k with hj | hj
        · rw [List.getElem?_append_left (by omega)] at hu
          exact (((HR.out j u p hu hp).below Hb2.out).keep (Nat.le_refl _) HW.out)
        · rw [List.getElem?_append_right (by omega), hus] at hu
          rcases Nat.eq_zero_or_pos (j - k) with e | e
          · have ejk : j = k := by omega
            subst ejk
            rw [e] at hu
            simp at hu
            subst hu
            rw [List.getElem?_eq_getElem hlt] at hp
            injection hp with hp
            subst hp
            exact Hr2.out.keep Hb.out.size HW.out
          · rw [List.getElem?_eq_none (by simp; omega)] at hu
            cases hu
      case measure => simp [intOf]; omega
    · have hkl : k = l.length := by omega
      subst hkl
      go_wp2_with fail
      go_ret
      have e : us ++ vs.drop l.length = us := by rw [← Hvs.out]; simp
      have h3 := HC.out
      rw [e] at h3
      exact ⟨⟨g, us, rfl, hus, hg1, h3, HR.out⟩, Hb.out⟩

end Go.Proofs.Ytmclalhjnjghnaa
