/- The contracts of a town of two. -/
import Derived.Test.YtmclalhjnjghnaaTownTwo
namespace Go.Proofs.Ytmclalhjnjghnaa
open Go.RowKit Hw

section
variable {c0 c1 : Config} {B t : Nat} {N M : Int} {a b : Hw.Node} {d : Bool} {W : List ByteArray} {w : World}

theorem tw_way (h : TownAt B w t (tw c0 c1 a b d W)) (hW : W.length ≤ 1000) : Calls Try.prog 42 #[.pointer (some ⟨t, 0, none⟩)] w fun e w' => (∃ A c, e = .returned (.slice A W.length c) ∧ w'.ownsRow w.heap.size 9 1 (.slice A W.length c) W.length (W.map .string)) ∧ Below w.heap.size w w' := by
  refine (way_any B t _ w h (by show W.length ≤ 100000; omega)).mono ?_
  rintro e w' ⟨⟨v, rfl, ho⟩, hb⟩
  have ho' : w'.ownsRow w.heap.size 9 1 v W.length (W.map .string) := ho
  obtain ⟨A, c, rfl, -⟩ := own_form ho'
  exact ⟨⟨A, c, rfl, ho'⟩, hb⟩

theorem tw_level (h : TownAt B w t (tw c0 c1 a b d W)) (hg : TG c0 c1 N M a b W) (id : ByteArray) : Calls Try.prog 40 #[.pointer (some ⟨t, 0, none⟩), .int .i64 0, .string id] w fun e w' => e = .returned (.tuple #[.int .i64 (level a id).1, .int .i64 (level a id).2]) ∧ Below w.heap.size w w' :=
  tlevel_any B t _ 0 0 id w h rfl (by show 0 < 2; omega) rfl hg.na.good.inv.lv

theorem tw_level1 (h : TownAt B w t (tw c0 c1 a b false W)) (hg : TG c0 c1 N M a b W) (id : ByteArray) : Calls Try.prog 40 #[.pointer (some ⟨t, 0, none⟩), .int .i64 1, .string id] w fun e w' => e = .returned (.tuple #[.int .i64 (level b id).1, .int .i64 (level b id).2]) ∧ Below w.heap.size w w' :=
  tlevel_any B t _ 1 1 id w h rfl (by show 1 < 2; omega) rfl hg.nb.good.inv.lv

theorem notes_none {w : World} {B : Nat} {v : Value} {l : List Note} (h : w.ownsRow B 74 3 v l.length (notesCells l)) (hl : l = []) : ∃ A c, v = .slice A 0 c := by
  subst hl
  obtain ⟨A, c, e, -⟩ := own_form h
  exact ⟨A, c, e⟩

theorem tw_bring0 (hc : TC c0 c1) (h : TownAt B w t (tw c0 c1 a b d W)) (hg : TG c0 c1 N M a b W) (hNM : N ≤ M) {i : Int} {q : Nat} (hi : i = (q : Int)) (hq : q < W.length) :
    Calls Try.prog 56 #[.pointer (some ⟨t, 0, none⟩), .int .i64 i, .int .i64 0] w fun e w' => (∃ A c, e = .returned (.tuple #[.slice A 0 c, .int .i64 (nhear a W[q]).2.2])) ∧ TownAt B w' t (tw c0 c1 (nhear a W[q]).1 b d W) ∧ TStep B w w' := by
  have hh := hears_any hg.na hNM (hg.way _ (List.getElem_mem hq)) hc.ne
  refine (bring_any B t (tw c0 c1 a b d W) i 0 q 0 w h hi rfl hq (by show 0 < 2; omega) rfl hg.na.good.inv.d1 hg.na.good.inv.d2 (hear_lv hg.na.good.inv _) (by show a.subs.length ≤ 8; rw [hg.na.subs]; simp)).mono ?_
  rintro e w' ⟨⟨v, rfl, ho⟩, ht, hs⟩
  obtain ⟨A, c, rfl⟩ := notes_none ho hh.notes
  exact ⟨⟨A, c, rfl⟩, ht, hs⟩

theorem tw_bring1 (hc : TC c0 c1) (h : TownAt B w t (tw c0 c1 a b false W)) (hg : TG c0 c1 N M a b W) (hNM : N ≤ M) {i : Int} {q : Nat} (hi : i = (q : Int)) (hq : q < W.length) :
    Calls Try.prog 56 #[.pointer (some ⟨t, 0, none⟩), .int .i64 i, .int .i64 1] w fun e w' => (∃ A c, e = .returned (.tuple #[.slice A 0 c, .int .i64 (nhear b W[q]).2.2])) ∧ TownAt B w' t (tw c0 c1 a (nhear b W[q]).1 false W) ∧ TStep B w w' := by
  have hh := hears_any hg.nb hNM (hg.way _ (List.getElem_mem hq)).symm (Ne.symm hc.ne)
  refine (bring_any B t (tw c0 c1 a b false W) i 1 q 1 w h hi rfl hq (by show 1 < 2; omega) rfl hg.nb.good.inv.d1 hg.nb.good.inv.d2 (hear_lv hg.nb.good.inv _) (by show b.subs.length ≤ 8; rw [hg.nb.subs]; simp)).mono ?_
  rintro e w' ⟨⟨v, rfl, ho⟩, ht, hs⟩
  obtain ⟨A, c, rfl⟩ := notes_none ho hh.notes
  exact ⟨⟨A, c, rfl⟩, ht, hs⟩

/-- How many texts a tick makes. -/
def wayT (a b : Hw.Node) (d : Bool) (W : List ByteArray) (tt : Int) : List ByteArray := W ++ texts a (beats a tt) ++ if d then [] else texts b (beats b tt)

theorem tw_tick (hc : TC c0 c1) (h : TownAt B w t (tw c0 c1 a b d W)) (hB : B ≤ w.heap.size) (hg : TG c0 c1 N M a b W) (hW : W.length ≤ 1000) {tt : Int} (t1 : 1 ≤ tt) (t2 : tt ≤ 1000) (hN : N + tt ≤ 1073741824) (hf0 : tt / c0.every < 64) (hf1 : tt / c1.every < 64) :
    Calls Try.prog 39 #[.pointer (some ⟨t, 0, none⟩), .int .i64 tt] w fun e w' => ∃ A c ee, e = .returned (.tuple #[.slice A 0 c, .int .i64 ee]) ∧ TStep B w w' ∧
      ((ee = 0 ∧ TownAt B w' t (tw c0 c1 (ticked a tt) (if d then b else ticked b tt) d (wayT a b d W tt)) ∧ TG c0 c1 (N + tt) M (ticked a tt) (if d then b else ticked b tt) (wayT a b d W tt) ∧ (wayT a b d W tt).length ≤ 1000) ∨
      (ee = 10 ∧ TownAt B w' t (tw c0 c1 a b d W) ∧ 1000 < (wayT a b d W tt).length)) := by
  have hk := hg.tk d hW t1 t2 hN hf0 hf1
  obtain ⟨he, hg'⟩ := hg.ticks hc d t1 t2 hN hf0 hf1
  have hin := (tickTo_in hk 2 (Nat.le_refl _)).1
  have hw : ((tickTo (tw c0 c1 a b d W) tt 2).1.way) = wayT a b d W tt := by
    show (ttick (tw c0 c1 a b d W) tt).1.way = _
    rw [he]
    rfl
  rw [hw] at hin
  refine (ttick_any B t _ tt w h hB hk).mono ?_
  rintro e w' (⟨hm, ⟨v, rfl, ho⟩, ht, hs⟩ | ⟨hm, rfl, ht, hs⟩)
  · rw [he] at ho ht
    have hm : moreTo (tw c0 c1 a b d W) tt 2 ≤ 1000 := hm
    obtain ⟨A, c, rfl⟩ := notes_none ho rfl
    exact ⟨A, c, 0, rfl, hs, .inl ⟨rfl, ht, hg', by omega⟩⟩
  · have hm : 1000 < moreTo (tw c0 c1 a b d W) tt 2 := hm
    exact ⟨none, 0, 10, rfl, hs, .inr ⟨rfl, ht, by omega⟩⟩

theorem tw_lose (h : TownAt B w t (tw c0 c1 a b d W)) (hB : B ≤ w.heap.size) (hW : W.length ≤ 1000) {i : Int} (hi : 0 ≤ i) :
    Calls Try.prog 57 #[.pointer (some ⟨t, 0, none⟩), .int .i64 i] w fun e w' => ∃ ee, e = .returned (.int .i64 ee) ∧ TownAt B w' t (tw c0 c1 a b d (W.eraseIdx i.toNat)) ∧ TStep B w w' ∧ (i.toNat < W.length → ee = 0) := by
  by_cases hq : i.toNat < W.length
  · refine (lose_any B t _ i i.toNat w h hB (by omega) hq (by show W.length ≤ 100000; omega)).mono ?_
    rintro e w' ⟨rfl, ht, hs⟩
    exact ⟨0, rfl, ht, hs, fun _ => rfl⟩
  · refine (lose_none B t _ i i.toNat w h (by omega) (by show W.length ≤ _; omega)).mono ?_
    rintro e w' ⟨rfl, rfl⟩
    refine ⟨4, rfl, ?_, TStep.refl _ _, fun h => absurd h hq⟩
    rw [List.eraseIdx_of_length_le (by omega)]
    exact h

theorem tw_stop (h : TownAt B w t (tw c0 c1 a b false W)) : Calls Try.prog 64 #[.pointer (some ⟨t, 0, none⟩), .int .i64 1] w fun e w' => e = .returned (.int .i64 0) ∧ TownAt B w' t (tw c0 c1 a b true W) ∧ TStep B w w' :=
  stop_any B t _ 1 1 w h rfl (by show 1 < 2; omega) rfl

end

/-- A town of two, somewhere. -/
def TwAt (c0 c1 : Config) (B t : Nat) (N M : Int) (d : Bool) (w : World) : Prop := ∃ a b W, TownAt B w t (tw c0 c1 a b d W) ∧ TG c0 c1 N M a b W ∧ W.length ≤ 1000

theorem few_in {t e : Int} (h0 : 0 ≤ t) (_ : 1 ≤ e) (ht : t < 64) : t / e < 64 := by
  have := Int.ediv_le_self e h0
  omega

end Go.Proofs.Ytmclalhjnjghnaa
