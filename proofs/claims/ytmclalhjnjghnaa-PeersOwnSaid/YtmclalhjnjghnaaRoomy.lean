/- Contracts of roomy: a list with three more places behind it; and of marked: they hold what stood there. -/
import Derived.Test.YtmclalhjnjghnaaSame
namespace Go.Proofs.Ytmclalhjnjghnaa
open Go.RowKit Hw

/-- A list of numbers in a block of the call's own, with three marks behind it. -/
def RoomI (w : World) (B : Nat) (v : Value) (l : List Int) (x : Int) : Prop :=
  ∃ g, v = .slice (some ⟨g, 0, none⟩) l.length (l.length + 3) ∧ B ≤ g ∧ w.heap[g]? = some (.cells (ints l ++ [Value.int .i64 x, .int .i64 x, .int .i64 x]).toArray 3 (0, 0))

theorem owns_zero {w : World} {base e size g n : Nat} (h : w.ownsRow base e size (.slice (some ⟨g, 0, none⟩) 0 n) 0 []) : ∃ cur, w.heap[g]? = some (.cells cur e (0, 0)) ∧ cur.size = n * size := by
  rcases h.2 with ⟨e1, _⟩ | ⟨g', cap, cur, e1, _, e3, _, _, e4, _⟩
  · simp at e1
  · simp only [Value.slice.injEq, Option.some.injEq, Addr.mk.injEq, and_true, true_and] at e1
    obtain ⟨rfl, rfl⟩ := e1
    exact ⟨cur, e3, e4⟩

section
variable {P : Program} {w : World}

theorem run_append_nil (t ty e : TypeId) (i : TypeInfo) (ht : P.underlying t = some (.slice e)) (hi : P.info? e = some i) (g sLen sCap c : Nat) (hroom : sLen ≤ sCap) :
    (Builtin.append_ #[t, t] ty #[.slice (some ⟨g, 0, none⟩) sLen sCap, .slice none 0 c]).run P w = .ok (.slice (some ⟨g, 0, none⟩) sLen sCap) w := by
  simp [Builtin.append_, run_underlying ht, sizeOf, typeInfo, hi, Builtin.lenOf, hroom, storeCells, Builtin.firstCells]

/-- 'append' within the room of a row that is known whole, of whatever slice. -/
theorem wpList_append_into {ops : Array Oper} {rest : List Oper} {o : Oper} {a : Act} {Q : Exit → Act → World → Prop} (hgd : o.guard = none) (s x : Operand) (t : TypeId)
    (ho : o.op = .call { callee := .builtin .append, args := #[s, x], argTypes := #[t, t] }) (e : TypeId) (i : TypeInfo) (ht : P.underlying t = some (.slice e)) (hi : P.info? e = some i)
    (g sLen sCap m c : Nat) (A : Option Addr) (hs : a.eval s = .slice (some ⟨g, 0, none⟩) sLen sCap) (hx : a.eval x = .slice A m c) (cur : Array Value) (hg : w.heap[g]? = some (.cells cur e (0, 0)))
    (news : List Value) (hl : news.length = m * i.size) (hnews : 0 < m → ∃ ad, A = some ad ∧ ∀ j u, news[j]? = some u → w.cell? (ad.add j) = some u) (h1 : ∀ u ∈ news, u.oneCell' = true) (hroom : sLen + m ≤ sCap)
    (hfit : sLen * i.size + news.length ≤ cur.size)
    (h : ∀ w', Hid (w'.heap[g]? = some (.cells (cur.toList.take (sLen * i.size) ++ news ++ cur.toList.drop (sLen * i.size + news.length)).toArray e (0, 0))) → w.grownBy w' (some g) →
      wpList P ops Q rest (a.put o.dst (.slice (some ⟨g, 0, none⟩) (sLen + m) sCap)) w') : wpList P ops Q (o :: rest) a w := by
  cases A with
  | some ad =>
    refine wpList_append_within hgd s x t ho e i ht hi g sLen sCap m c _ ad hs hx cur hg news hl ?_ h1 rfl hroom hfit h
    rcases Nat.eq_zero_or_pos m with h0 | h0
    · subst h0
      have : news = [] := by simpa using hl
      subst this
      simp
    · obtain ⟨ad', e1, e2⟩ := hnews h0
      cases e1
      exact e2
  | none =>
    have h0 : m = 0 := by
      rcases Nat.eq_zero_or_pos m with h0 | h0
      · exact h0
      · obtain ⟨ad', e1, e2⟩ := hnews h0
        cases e1
    subst h0
    have hn : news = [] := by simpa using hl
    subst hn
    have hr := run_append_nil (P := P) (w := w) t o.type e i ht hi g sLen sCap c hroom
    refine Lib.wpList_append_run w hgd s x t t ho _ _ hs hx _ _ hr (h _ ?_ (World.grownBy.refl _ _))
    have e2 : (cur.toList.take (sLen * i.size) ++ [] ++ cur.toList.drop (sLen * i.size + ([] : List Value).length)).toArray = cur := by simp
    rw [e2]
    exact hg
end

theorem take_set_succ {α : Type} (l : List α) (j : Nat) (u : α) (h : j < l.length) : (l.set j u).take (j + 1) = l.take j ++ [u] := by
  rw [List.take_succ_eq_append_getElem (by simpa using h), List.take_set_of_le (Nat.le_refl _)]
  simp

theorem below_grown {w w' : World} (h : w.grownBy w' none) : Below w.heap.size w w' := (Below.refl _ _).grown h (Nat.le_refl _) (fun k hk => by cases hk)

theorem ints_into {w : World} {A : Option Addr} {l : List Int} (h : Ints w A l) (h0 : 0 < l.length) : ∃ ad, A = some ad ∧ ∀ j u, (ints l)[j]? = some u → w.cell? (ad.add j) = some u := by
  obtain ⟨b, off, e, _⟩ := h h0
  exact ⟨_, e, h.news _ e⟩

set_option maxRecDepth 100000 in
theorem roomyi_any (A : Option Addr) (c : Nat) (l : List Int) (x : Int) (w : World) (h : Ints w A l) (hl : l.length ≤ 17592186044416) :
    Calls Try.prog 66 #[.slice A l.length c, .int .i64 x] w fun e w' => (∃ v, e = .returned v ∧ RoomI w' w.heap.size v l x) ∧ Below w.heap.size w w' := by
  obtain ⟨i0, hi0, hz0, hz1, hz2⟩ := info_parts info3
  have hw3 : IntKind.i64.wrap ((l.length : Int) + 3) = (l.length : Int) + 3 := IntWalk.i64_in _ (by omega)
  have Hh := Lib.hid h
  clear h
  go_enter Try.func66, Try.ntmps66
  go_wp2_with (first
    | (refine wpList_make_own _ rfl _ _ 36 rfl w.heap.size 3 i0 _ 1 Try.underlying36 hi0 hz0 hz1 .i64 .i64 ((l.length : Int) + 3) (l.length + 3) ?a1 ?a2 ?a3 ?a4 ?a5 (Nat.le_refl _) ?_; (case a1 => rfl); (case a2 => rfl); (case a3 => omega); (case a4 => (rw [hz2]; omega)); (case a5 => (simp only [maxLen]; omega)); intro w1 ho1 hg1; obtain ⟨cur, hcur, hcs⟩ := owns_zero ho1; have Hc := Lib.hid hcur; have Hg1 := Lib.hid hg1; clear ho1 hcur hg1)
    | (at_builtin; refine wpList_append_into rfl (.tmp 10) (.tmp 11) 36 rfl 3 i0 Try.underlying36 hi0 w.heap.size 0 (l.length + 3) l.length c A rfl rfl cur Hc.out (ints l) ?b1 ?b2 (ints_one l) ?b3 ?b4 ?_; (case b1 => simp [hz1]); (case b2 => exact fun h0 => ints_into (Hh.out.below (below_grown Hg1.out)) h0); (case b3 => omega); (case b4 => (simp [hz1, hcs])); intro w2 hw2 hg2; have Hw2 := Lib.hid hw2; have Hg2 := Lib.hid hg2; clear hw2 hg2)
    | fail)
  go_loopw [6, 13] (fun _ i wr => ∃ (k : Nat) (cur' : Array Value), k ≤ 3 ∧ i = .int .i64 k ∧ Hid (wr.heap[w.heap.size]? = some (.cells cur' 3 (0, 0))) ∧ cur'.size = l.length + 3 ∧
    Hid (cur'.toList.take (l.length + k) = ints l ++ List.replicate k (.int .i64 x)) ∧ Below w.heap.size w wr) (fun _ i _ => 3 - (intOf i).toNat)
  case atStart =>
    have h1 := below_grown Hg1.out
    have hz : 0 * i0.size = 0 := by simp
    have e := Hw2.out.out
    rw [hz] at e
    refine ⟨0, _, by omega, rfl, e, ?_, ?_, h1.grown Hg2.out h1.size (fun k hk => by cases hk; omega)⟩
    · simp
      omega
    · show List.take _ _ = _
      simp
  case round =>
    obtain ⟨k, cur', hk, rfl, HC, hcs', HT, hb⟩ := hrel
    have hkw : IntKind.i64.wrap ((k : Int) + 1) = (k : Int) + 1 := IntWalk.i64_in _ (by omega)
    have Hb := Lib.hid hb
    clear hb
    by_cases hlt : k < 3
    · have q : wr.cell? ⟨w.heap.size, l.length + k, none⟩ = some (cur'[l.length + k]'(by omega)) := by
        rw [cell_of_row wr _ _ cur' 3 (0, 0) HC.out]; simp [hcs', hlt]
      have f : wr.frozen? ⟨w.heap.size, l.length + k, none⟩ = false := frozen_of_row wr _ _ cur' 3 HC.out
      have hlt' : (k : Int) < 3 := by omega
      have hkw2 : IntKind.i64.wrap ((l.length : Int) + (k : Int)) = (l.length : Int) + (k : Int) := IntWalk.i64_in _ (by omega)
      have hi1 : (0 : Int) ≤ (l.length : Int) + (k : Int) := by omega
      have hi2 : (l.length : Int) + (k : Int) < (l.length : Int) + 3 := by omega
      go_wp2_with fail
      go_roundw
      case rel =>
        refine ⟨k + 1, cur'.setIfInBounds (l.length + k) (.int .i64 x), by omega, by go_num, heap_setCell_same wr _ _ cur' 3 _ HC.out, by simp [hcs'], ?_, Hb.out.setCell (Nat.le_refl _) _⟩
        show List.take _ _ = _
        rw [Array.toList_setIfInBounds, show l.length + (k + 1) = (l.length + k) + 1 by omega, take_set_succ _ _ _ (by simp [hcs']; omega), HT.out, List.append_assoc, List.replicate_succ']
      case measure => simp [intOf]; omega
    · have hk3 : k = 3 := by omega
      subst hk3
      go_wp2_with fail
      go_ret
      refine ⟨⟨_, rfl, w.heap.size, rfl, Nat.le_refl _, ?_⟩, Hb.out⟩
      have e : cur' = (ints l ++ [Value.int .i64 x, .int .i64 x, .int .i64 x]).toArray := by
        have h3 := HT.out
        rw [List.take_of_length_le (by simp [hcs'])] at h3
        apply Array.ext'
        rw [h3]
        simp [List.replicate]
      rw [← e]
      exact HC.out

theorem marked_any (g : Nat) (l : List Int) (x : Int) (w : World) (h : w.heap[g]? = some (.cells (ints l ++ [Value.int .i64 x, .int .i64 x, .int .i64 x]).toArray 3 (0, 0))) (hl : l.length ≤ 17592186044416) :
    Calls Try.prog 26 #[.slice (some ⟨g, 0, none⟩) l.length (l.length + 3), .int .i64 x] w fun e w' => e = .returned (.bool true) ∧ Below w.heap.size w w' := by
  have Hh := Lib.hid h
  clear h
  go_enter Try.func26, Try.ntmps26
  go_wp2_with fail
  rw [show l.length + 3 - l.length = 3 by omega]
  go_loopw [6, 14] (fun _ i wr => ∃ k : Nat, k ≤ 3 ∧ i = .int .i64 k ∧ wr = w) (fun _ i _ => 3 - (intOf i).toNat)
  case atStart => exact ⟨0, by omega, rfl, rfl⟩
  case round =>
    obtain ⟨k, hk, rfl, rfl⟩ := hrel
    by_cases hlt : k < 3
    · have q : wr.cell? ⟨g, l.length + k, none⟩ = some (.int .i64 x) := by
        rw [cell_of_row wr _ _ _ 3 (0, 0) Hh.out, List.getElem?_toArray, List.getElem?_append_right (by simp)]
        obtain rfl | rfl | rfl : k = 0 ∨ k = 1 ∨ k = 2 := by omega
        all_goals simp
      have hlt' : (k : Int) < 3 := by omega
      have hkw : IntKind.i64.wrap ((k : Int) + 1) = (k : Int) + 1 := IntWalk.i64_in _ (by omega)
      go_wp2_with fail
      go_roundw
      case rel => exact ⟨k + 1, by omega, by go_num, trivial⟩
      case measure => simp [intOf]; omega
    · have hk3 : k = 3 := by omega
      subst hk3
      go_wp2_with fail
      go_ret
      exact ⟨rfl, Below.refl _ _⟩

end Go.Proofs.Ytmclalhjnjghnaa
