/- The contract of slices.DeleteFunc of subs by their name. -/
import Derived.Test.YtmclalhjnjghnaaBaseN
import Derived.Test.YtmclalhjnjghnaaBaseP
namespace Go.Proofs.Ytmclalhjnjghnaa
open Go.RowKit Hw

/-- Those that stay. -/
def keepF (id : ByteArray) (l : List Sub) : List Sub := l.filter (fun s => !sq s.id id)

theorem keepF_snoc (id : ByteArray) (l : List Sub) (j : Nat) (hj : j < l.length) : keepF id (l.take (j + 1)) = if sq (l[j]).id id then keepF id (l.take j) else keepF id (l.take j) ++ [l[j]] := by
  unfold keepF
  rw [List.take_succ_eq_append_getElem hj, List.filter_append]
  cases hq : sq (l[j]).id id <;> simp [hq]

theorem keepF_all {id : ByteArray} {l : List Sub} (h : ∀ s ∈ l, sq s.id id = false) : keepF id l = l := by
  unfold keepF
  refine List.filter_eq_self.2 fun s hs => ?_
  rw [h s hs]
  rfl

theorem keepF_len (id : ByteArray) (l : List Sub) : (keepF id l).length ≤ l.length := List.length_filter_le _ _

theorem set3_take {α : Type} (L : List α) (p : Nat) (a b c : α) (h : p + 3 ≤ L.length) : (((L.set p a).set (p + 1) b).set (p + 2) c).take (p + 3) = L.take p ++ [a, b, c] := by
  apply List.ext_getElem?
  intro x
  rw [List.getElem?_take]
  rcases Nat.lt_or_ge x p with h1 | h1
  · rw [if_pos (by omega), List.getElem?_set_ne (by omega), List.getElem?_set_ne (by omega), List.getElem?_set_ne (by omega), List.getElem?_append_left (by simp; omega), List.getElem?_take, if_pos h1]
  · rw [List.getElem?_append_right (by simp; omega)]
    have hl : (L.take p).length = p := by simp; omega
    rw [hl]
    obtain h2 | h2 | h2 | h2 : x = p ∨ x = p + 1 ∨ x = p + 2 ∨ p + 3 ≤ x := by omega
    · subst h2
      rw [if_pos (by omega), List.getElem?_set_ne (by omega), List.getElem?_set_ne (by omega), List.getElem?_set_self (by omega), Nat.sub_self]
      rfl
    · subst h2
      rw [if_pos (by omega), List.getElem?_set_ne (by omega), List.getElem?_set_self (by simp; omega), show p + 1 - p = 1 by omega]
      rfl
    · subst h2
      rw [if_pos (by omega), List.getElem?_set_self (by simp; omega), show p + 2 - p = 2 by omega]
      rfl
    · rw [if_neg (by omega), List.getElem?_eq_none (by simp; omega)]

theorem set3_drop {α : Type} (L : List α) (p q : Nat) (a b c : α) (h : p + 3 ≤ q) : (((L.set p a).set (p + 1) b).set (p + 2) c).drop q = L.drop q := by
  rw [List.drop_set_of_lt (by omega), List.drop_set_of_lt (by omega), List.drop_set_of_lt (by omega)]

def zs3 (n : Nat) : List Value := (Builtin.zeroCells (Value.agg #[.string ByteArray.empty, .int .i64 0, .bool false]).cells n).toList

theorem zs3_ok {n : Nat} (h : n ≤ 8) : (zs3 n).length = n * 3 ∧ ∀ u ∈ zs3 n, u.oneCell' = true := by
  have h1 : (List.range 9).all (fun n => (zs3 n).length == n * 3 && (zs3 n).all (·.oneCell')) = true := by kernel_rfl
  have h2 := List.all_eq_true.1 h1 n (List.mem_range.2 (by omega))
  rw [Bool.and_eq_true, beq_iff_eq, List.all_eq_true] at h2
  exact h2

/-- The row, so far: what stays of the first j, in front; what is to come, where it was. -/
def DelAt (g c : Nat) (l : List Sub) (id : ByteArray) (j : Nat) (w : World) : Prop :=
  ∃ cur : Array Value, w.heap[g]? = some (.cells cur 85 (0, 0)) ∧ cur.size = c * 3 ∧ cur.toList.take ((keepF id (l.take j)).length * 3) = subsCells (keepF id (l.take j)) ∧ (cur.toList.drop (j * 3)).take ((l.length - j) * 3) = subsCells (l.drop j)

theorem DelAt.cell {g c : Nat} {l : List Sub} {id : ByteArray} {j : Nat} {w : World} (h : DelAt g c l id j w) (hj : j < l.length) :
    w.cell? ⟨g, j * 3, none⟩ = some (.string (l[j]).id) ∧ w.cell? ⟨g, j * 3 + 1, none⟩ = some (.int .i64 (l[j]).theta) ∧ w.cell? ⟨g, j * 3 + 2, none⟩ = some (.bool (l[j]).on) ∧ ∀ q, w.frozen? ⟨g, q, none⟩ = false := by
  obtain ⟨cur, h1, h2, -, h4⟩ := h
  have hd : l.drop j = l[j] :: l.drop (j + 1) := List.drop_eq_getElem_cons hj
  have hx : ∀ q u, q < 3 → (subCells l[j])[q]? = some u → w.cell? ⟨g, j * 3 + q, none⟩ = some u := fun q u hq hu => by
    have e := congrArg (fun L => L[q]?) h4
    simp only [List.getElem?_take, List.getElem?_drop] at e
    rw [if_pos (by omega), hd, subsCells_cons, List.getElem?_append_left (by rw [subCells_len]; exact hq), hu] at e
    rw [cell_of_row w g _ cur 85 (0, 0) h1]
    simpa using e
  exact ⟨hx 0 _ (by omega) rfl, hx 1 _ (by omega) rfl, hx 2 _ (by omega) rfl, fun q => frozen_of_row _ _ _ _ _ h1⟩

theorem DelAt.below {g c : Nat} {l : List Sub} {id : ByteArray} {j : Nat} {w w' : World} (h : DelAt g c l id j w) (hb : Below w.heap.size w w') : DelAt g c l id j w' := by
  obtain ⟨cur, h1, h2, h3, h4⟩ := h
  exact ⟨cur, (hb.block g (Array.getElem?_eq_some_iff.1 h1).1).trans h1, h2, h3, h4⟩

theorem DelAt.any {g c : Nat} {l : List Sub} {id : ByteArray} {j : Nat} {w : World} (h : DelAt g c l id j w) {x : Nat} (hx : x < c * 3) : (∃ v, w.cell? ⟨g, x, none⟩ = some v) ∧ w.frozen? ⟨g, x, none⟩ = false := by
  obtain ⟨cur, h1, h2, h3, h4⟩ := h
  refine ⟨⟨cur[x]'(by omega), ?_⟩, frozen_of_row _ _ _ _ _ h1⟩
  rw [cell_of_row w g x cur 85 (0, 0) h1, Array.getElem?_eq_getElem (by omega)]

theorem DelAt.skip {g c : Nat} {l : List Sub} {id : ByteArray} {j : Nat} {w w' : World} (h : DelAt g c l id j w) (hb : Below w.heap.size w w') (hj : j < l.length) (hs : sq (l[j]).id id = true) : DelAt g c l id (j + 1) w' := by
  obtain ⟨cur, h1, h2, h3, h4⟩ := h
  refine ⟨cur, (hb.block g (Array.getElem?_eq_some_iff.1 h1).1).trans h1, h2, by rw [keepF_snoc id l j hj, if_pos hs]; exact h3, ?_⟩
  have hd : l.drop j = l[j] :: l.drop (j + 1) := List.drop_eq_getElem_cons hj
  have e := congrArg (List.drop 3) h4
  rw [hd, subsCells_cons, List.drop_append_of_le_length (by rw [subCells_len]; omega), List.drop_of_length_le (l := subCells _) (by rw [subCells_len]; omega), List.nil_append, List.drop_take, List.drop_drop] at e
  rw [show (j + 1) * 3 = j * 3 + 3 by omega, show (l.length - (j + 1)) * 3 = (l.length - j) * 3 - 3 by omega]
  exact e

theorem DelAt.put {g c : Nat} {l : List Sub} {id : ByteArray} {j i : Nat} {w w' : World} (h : DelAt g c l id j w) (hb : Below w.heap.size w w') (hj : j < l.length) (hc : l.length ≤ c) (hs : sq (l[j]).id id = false) (hi : i = (keepF id (l.take j)).length) (hij : i < j) :
    DelAt g c l id (j + 1) (((w'.setCell ⟨g, i * 3, none⟩ (.string (l[j]).id)).setCell ⟨g, i * 3 + 1, none⟩ (.int .i64 (l[j]).theta)).setCell ⟨g, i * 3 + 2, none⟩ (.bool (l[j]).on)) := by
  obtain ⟨cur, h1, h2, h3, h4⟩ := h
  have h1' := (hb.block g (Array.getElem?_eq_some_iff.1 h1).1).trans h1
  have g1 := heap_set (j := i * 3) (.string (l[j]).id) h1'
  have g2 := heap_set (j := i * 3 + 1) (.int .i64 (l[j]).theta) g1
  have g3 := heap_set (j := i * 3 + 2) (.bool (l[j]).on) g2
  have hsz : i * 3 + 3 ≤ cur.toList.length := by
    have : cur.toList.length = c * 3 := by simpa using h2
    omega
  refine ⟨_, g3, by simpa using h2, ?_, ?_⟩
  · rw [keepF_snoc id l j hj, if_neg (by rw [hs]; decide), List.length_append, ← hi, subsCells_app]
    rw [← hi] at h3
    simp only [Array.toList_setIfInBounds]
    rw [show (i + [l[j]].length) * 3 = i * 3 + 3 by simp; omega, set3_take _ _ _ _ _ hsz, h3]
    simp [subsCells, subCells]
  · simp only [Array.toList_setIfInBounds]
    rw [set3_drop _ _ _ _ _ _ (by omega)]
    have hd : l.drop j = l[j] :: l.drop (j + 1) := List.drop_eq_getElem_cons hj
    have e := congrArg (List.drop 3) h4
    rw [hd, subsCells_cons, List.drop_append_of_le_length (by rw [subCells_len]; omega), List.drop_of_length_le (l := subCells _) (by rw [subCells_len]; omega), List.nil_append, List.drop_take, List.drop_drop] at e
    rw [show (j + 1) * 3 = j * 3 + 3 by omega, show (l.length - (j + 1)) * 3 = (l.length - j) * 3 - 3 by omega]
    exact e

theorem grown_below {w w' : World} {r : Option Nat} (hb : Below w.heap.size w w') : w.grownBy w' r := ⟨hb.os, hb.tape, hb.output, hb.size, fun k hk _ => hb.block k hk⟩

theorem grown_set {w w' : World} {g : Nat} (h : w.grownBy w' (some g)) (j : Nat) (v : Value) : w.grownBy (w'.setCell ⟨g, j, none⟩ v) (some g) :=
  ⟨h.os, h.tape, h.output, by simpa [World.setCell] using h.size, fun k hk hne => (heap_setCell_other _ _ _ _ (fun e => hne (by rw [e]))).trans (h.block k hk hne)⟩

set_option maxRecDepth 100000 in
set_option maxHeartbeats 2000000 in
theorem delfunc_any (A : Option Addr) (c : Nat) (l : List Sub) (id : ByteArray) (g0 B : Nat) (w : World) (h : w.ownsRow B 85 3 (.slice A l.length c) l.length (subsCells l)) (hl : l.length ≤ 8) (hc : w.cell? ⟨g0, 0, none⟩ = some (.string id)) (hne : A.map (·.block) ≠ some g0) :
    Calls Try.prog 112 #[.slice A l.length c, .func (.func 113) #[] #[.pointer (some ⟨g0, 0, none⟩)]] w
      fun e w' => (∃ v, e = .returned v ∧ w'.ownsRow B 85 3 v (keepF id l).length (subsCells (keepF id l)) ∧ v.ownBlock = A.map (·.block)) ∧ w.grownBy w' (A.map (·.block)) := by
  have H := Lib.hid h
  have HC := Lib.hid hc
  rcases at_cases (fun s => sq s.id id) l with ⟨ha, hf⟩ | ⟨k, hk, ha, -, hsq⟩
  · have hno : ∀ s ∈ l, sq s.id id = false := at_neg (f := fun s : Sub => sq s.id id) (by rw [ha]; decide)
    have hkeep := keepF_all hno
    have Ha := Lib.hid ha
    have Hkeep := Lib.hid hkeep
    clear h hc ha hf hno hkeep hne
    go_enter Try.func112, Try.ntmps112
    go_wp2_with (go_at_call 107; refine (index113_any A c l id g0 _ (own_subs H.out) hl HC.out).mono ?_; rintro e w1 ⟨rfl, hb1⟩; rw [Ha.out]; have Hb1 := Lib.hid hb1; clear hb1)
    go_ret
    rw [Hkeep.out]
    exact ⟨⟨_, rfl, own_below H.out Hb1.out, by cases A <;> rfl⟩, grown_below Hb1.out⟩
  · have hfirst : ∀ j (hj : j < l.length), j < k → sq (l[j]).id id = false := by
      intro j hj hjk
      unfold at? at ha
      split at ha
      · rename_i q hq
        have : q = k := by omega
        subst this
        have := (List.findIdx?_eq_some_iff_getElem.1 hq).2.2 j hjk
        simpa using this
      · omega
    have htk : keepF id (l.take k) = l.take k := keepF_all fun s hs => by
      obtain ⟨j, hj, rfl⟩ := List.mem_iff_getElem.1 hs
      rw [List.getElem_take]
      exact hfirst j (by simp at hj; omega) (by simp at hj; omega)
    rcases h.2 with ⟨_, e2⟩ | ⟨g, cap, cur, e, hBg, hg, hnc, hcm, hcs, htake⟩
    · omega
    · injection e with e1 _ e3
      subst e1 e3
      have hstart : DelAt g c l id (k + 1) w := by
        refine DelAt.skip ⟨cur, hg, hcs, ?_, ?_⟩ (Below.refl _ _) hk hsq
        · rw [htk, subsCells_take _ _ (by omega), ← htake, List.take_take]
          congr 1
          rw [List.length_take]
          omega
        · rw [subsCells_drop _ _ (by omega), ← htake, List.drop_take]
          congr 1
          omega
      have hk1 : (keepF id (l.take (k + 1))).length = k := by
        rw [keepF_snoc id l k hk, if_pos hsq, htk, List.length_take]
        omega
      have hg0 : g0 ≠ g := fun e => hne (by rw [e]; rfl)
      have HS := Lib.hid hstart
      have Hk1 := Lib.hid hk1
      have Ha := Lib.hid ha
      have hkw : IntKind.i64.wrap ((k : Int) + 1) = (k : Int) + 1 := IntWalk.i64_in _ (by omega)
      have hkm : ((k : Int) == -1) = false := beq_eq_false_iff_ne.2 (by omega)
      have hcm' : c ≤ 9223372036854775807 := by simp only [maxLen] at hcm; omega
      obtain ⟨i0, hi0, hz0, -, -⟩ := info_parts info85
      clear h hc hstart hk1 ha htk hfirst hsq hg htake hcs hne
      go_enter Try.func112, Try.ntmps112
      go_wp2_with (go_at_call 107; refine (index113_any _ c l id g0 _ (own_subs H.out) hl HC.out).mono ?_; rintro e w1 ⟨rfl, hb1⟩; rw [Ha.out]; have Hb1 := Lib.hid hb1; clear hb1)
      go_loopw [5, 6] (fun i j wr => ∃ i0 j0 : Nat, j0 ≤ l.length ∧ i0 < j0 ∧ i = .int .i64 i0 ∧ j = .int .i64 j0 ∧ Hid (i0 = (keepF id (l.take j0)).length) ∧ Hid (DelAt g c l id j0 wr) ∧ Hid (w.grownBy wr (some g))) (fun _ j _ => l.length - (intOf j).toNat)
      case atStart => exact ⟨k, k + 1, by omega, by omega, rfl, by go_num, Hk1.out.symm, DelAt.below HS.out Hb1.out, grown_below Hb1.out⟩
      case round =>
        obtain ⟨i, j, hj, hij, rfl, rfl, HI, HD, HG⟩ := hrel
        by_cases hlt : j < l.length
        · obtain ⟨x0, x1, x2, xf⟩ := HD.out.cell hlt
          have hgr := HG.out
          have hg0w : wr.cell? ⟨g0, 0, none⟩ = some (.string id) := (World.cell?_of_block (a := ⟨g0, 0, none⟩) (hgr.block g0 (blt HC.out) (fun e => hg0 (by injection e)))).trans HC.out
          have HG0 := Lib.hid hg0w
          have hjl : (j : Int) < (l.length : Int) := by omega
          have hj0 : (0 : Int) ≤ (j : Int) := by omega
          have hil : (i : Int) < (l.length : Int) := by omega
          have hi0 : (0 : Int) ≤ (i : Int) := by omega
          have hjw : IntKind.i64.wrap ((j : Int) + 1) = (j : Int) + 1 := IntWalk.i64_in _ (by omega)
          have hiw : IntKind.i64.wrap ((i : Int) + 1) = (i : Int) + 1 := IntWalk.i64_in _ (by omega)
          have hgl := blt x0
          clear hgr hg0w
          have hsk := fun (h : sq (l[j]).id id = true) (w' : World) (hb : Below wr.heap.size wr w') => DelAt.skip HD.out hb hlt h
          have hpt := fun (h : sq (l[j]).id id = false) (w' : World) (hb : Below wr.heap.size wr w') => DelAt.put HD.out hb hlt hnc h HI.out hij
          have hks := keepF_snoc id l j hlt
          have Hsk := Lib.hid hsk
          have Hpt := Lib.hid hpt
          have Hks := Lib.hid hks
          clear hsk hpt hks
          generalize l[j] = s at x0 x1 x2 Hsk Hpt Hks
          cases hq : sq s.id id with
          | true =>
            have Hq := Lib.hid hq
            clear hq
            go_wp2_with (go_at_call 113; refine (sub113_any s id g0 _ (bsome ((Below.refl _ _).alloc (Nat.le_refl _) _) HG0.out)).mono ?_; rintro e w3 ⟨rfl, hb3⟩; rw [Hq.out]; obtain ⟨-, -, -, hb4⟩ := keep1 hb3; have HB3 := Lib.hid hb4; clear hb3 hb4)
            go_roundw
            case rel => exact ⟨i, j + 1, by omega, by omega, rfl, by go_num, by rw [Hks.out, if_pos Hq.out]; exact HI.out, Hsk.out Hq.out _ HB3.out, HG.out.trans (grown_below HB3.out)⟩
            case measure => simp [intOf]; omega
          | false =>
            have Hq := Lib.hid hq
            clear hq
            go_wp2_with (go_at_call 113; refine (sub113_any s id g0 _ (bsome ((Below.refl _ _).alloc (Nat.le_refl _) _) HG0.out)).mono ?_; rintro e w3 ⟨rfl, hb3⟩; rw [Hq.out]; obtain ⟨c3, -, -, hb4⟩ := keep1 hb3; have d0 := c3 0; have d1 := c3 1; have d2 := c3 2; simp at d0 d1 d2; have HB3 := Lib.hid hb4; have hA := HD.out.below hb4; obtain ⟨⟨v0, y0⟩, f0⟩ := hA.any (x := i * 3) (by omega); obtain ⟨⟨v1, y1⟩, f1⟩ := hA.any (x := i * 3 + 1) (by omega); obtain ⟨⟨v2, y2⟩, f2⟩ := hA.any (x := i * 3 + 2) (by omega); clear c3 hb3 hb4 hA)
            go_roundw
            case rel => exact ⟨i + 1, j + 1, by omega, by omega, by go_num, by go_num, by rw [Hks.out, if_neg (by rw [Hq.out]; decide), List.length_append, ← HI.out]; rfl, Hpt.out Hq.out _ HB3.out, grown_set (grown_set (grown_set (HG.out.trans (grown_below HB3.out)) _ _) _ _) _ _⟩
            case measure => simp [intOf]; omega
        · have hjn : j = l.length := by omega
          subst hjn
          have hI := HI.out
          rw [List.take_length] at hI
          obtain ⟨cur', q1, q2, q3, -⟩ := HD.out
          rw [List.take_length, ← hI] at q3
          have hkl := keepF_len id l
          rw [← hI] at hkl
          obtain ⟨z1, z2⟩ := zs3_ok (n := l.length - i) (by omega)
          have hic : (i : Int) < (c : Int) := by omega
          have hil : (i : Int) ≤ (l.length : Int) := by omega
          have hlc : (l.length : Int) ≤ (c : Int) := by omega
          have hi0' : (0 : Int) ≤ (i : Int) := by omega
          have hcm'' : (c : Int) ≤ 9223372036854775807 := by omega
          have Q1 := Lib.hid q1
          have Q2 := Lib.hid q2
          have Q3 := Lib.hid q3
          have Z2 := Lib.hid z2
          have HI2 := Lib.hid hI
          clear q1 q2 q3 z2 hI HI HD
          go_wp2_with ((refine wpList_clear_cells (o := ⟨none, _, _, _, _, _⟩) (by rfl) (.tmp 38) 82 (by rfl) 85 i0 _ Try.underlying82 hi0 hz0 g (i * 3) (l.length - i) _ (by rfl) cur' (by exact Q1.out) (by omega) (zs3 (l.length - i)) rfl (by rw [z1, Q2.out]; omega) Z2.out ?_; intro w3 hh3 hg3))
          go_ret
          have hts : cur'.toList.length = c * 3 := by have := Q2.out; simpa using this
          refine ⟨⟨_, rfl, ⟨by rw [subsCells_len], .inr ⟨g, c, _, by show Value.slice (some ⟨g, 0, none⟩) i c = _; rw [← HI2.out], hBg, hh3.out, by rw [← HI2.out]; omega, hcm, ?_, ?_⟩⟩, rfl⟩, HG.out.trans hg3⟩
          · simp only [List.size_toArray, List.length_append, List.length_take, List.length_drop, z1, hts]
            omega
          · rw [← HI2.out, List.append_assoc, List.take_append_of_le_length (by rw [List.length_take]; omega), List.take_take, Nat.min_self]
            exact Q3.out

end Go.Proofs.Ytmclalhjnjghnaa
