/- A town in memory; contracts of its Way, Level, Join, Bring, Lose, Stop. -/
import Derived.Test.YtmclalhjnjghnaaBaseM
import Derived.Test.YtmclalhjnjghnaaBaseP
import Derived.StillTailTactics
import Derived.Deep.RegionHeld3
namespace Go.Proofs.Ytmclalhjnjghnaa.Hw
open Go

structure Town where
  all : List Config
  nodes : List Hw.Node
  dead : List Bool
  way : List ByteArray

end Go.Proofs.Ytmclalhjnjghnaa.Hw
namespace Go.Proofs.Ytmclalhjnjghnaa
open Go.RowKit Hw

def confCells (c : Config) : List Value := [.string c.id, .int .i64 c.inc, .int .i64 c.every, .int .i64 c.cap, .int .i64 c.least]
def confsCells (l : List Config) : List Value := l.flatMap confCells
def nodePtr (p : Nat × Value) : Value := .pointer (some ⟨p.1, 0, none⟩)

/-- Nodes, each where it stands. -/
structure NodesAt (B : Nat) (w : World) (bs : List (Nat × Value)) (ns : List Hw.Node) : Prop where
  len : bs.length = ns.length
  here : ∀ (k : Nat) (p : Nat × Value) (n : Hw.Node), bs[k]? = some p → ns[k]? = some n → B ≤ p.1 ∧ NodeAt w p.1 p.2 n
  ne : ∀ (i j : Nat) (p q : Nat × Value), i ≠ j → bs[i]? = some p → bs[j]? = some q → p.1 ≠ q.1 ∧ ∀ x : Nat, some x = p.2.ownBlock → some x ≠ q.2.ownBlock

/-- A step of one node leaves the others. -/
theorem NodesAt.step {B : Nat} {w w' : World} {bs : List (Nat × Value)} {ns : List Hw.Node} (h : NodesAt B w bs ns) {i : Nat} {p : Nat × Value} (hp : bs[i]? = some p) {n' : Hw.Node} {vs' : Value} (hn : NodeAt w' p.1 vs' n') (hv : VsTo p.2 vs' w) (ht : Touch (NodeS p.1 p.2) w w') :
    NodesAt B w' (bs.set i (p.1, vs')) (ns.set i n') := by
  have hi : i < bs.length := (List.getElem?_eq_some_iff.1 hp).1
  have hi2 : i < ns.length := by rw [← h.len]; exact hi
  obtain ⟨hBp, hpn⟩ := h.here i p ns[i] hp (List.getElem?_eq_getElem hi2)
  refine ⟨by simp [h.len], fun k q n hq hk => ?_, fun a b q r hab hq hr => ?_⟩
  · by_cases e : k = i
    · subst e
      rw [List.getElem?_set_self hi] at hq
      rw [List.getElem?_set_self hi2] at hk
      injection hq with hq
      injection hk with hk
      subst hq hk
      exact ⟨hBp, hn⟩
    · rw [List.getElem?_set_ne (Ne.symm e)] at hq hk
      obtain ⟨h1, h2⟩ := h.here k q n hq hk
      obtain ⟨n1, n2⟩ := h.ne k i q p e hq hp
      refine ⟨h1, h2.touch ht ?_ ?_ ?_⟩
      · rintro (e | e)
        · exact n1 e
        · obtain ⟨-, cur, hc⟩ := hpn.own85 e
          obtain ⟨cur2, hc2⟩ := h2.row145
          exact cells_ne hc hc2 (by decide) rfl
      · intro x hx
        obtain ⟨-, cur, hc⟩ := h2.own85 hx
        rintro (e | e)
        · obtain ⟨cur2, hc2⟩ := hpn.row145
          exact cells_ne hc hc2 (by decide) e
        · exact n2 x hx e
      · intro x c t ht' hc
        exact hpn.other hc (by rcases ht' with e | e <;> rw [e] <;> decide) (by rcases ht' with e | e <;> rw [e] <;> decide)
  · have key : ∀ k q, bs[k]? = some q → k ≠ i → p.1 ≠ q.1 ∧ ∀ x, some x = vs'.ownBlock → some x ≠ q.2.ownBlock := fun k q hq hk => by
      obtain ⟨n1, n2⟩ := h.ne i k p q (Ne.symm hk) hp hq
      refine ⟨n1, fun x hx hxq => ?_⟩
      have hkl : k < ns.length := by rw [← h.len]; exact (List.getElem?_eq_some_iff.1 hq).1
      obtain ⟨-, h2⟩ := h.here k q ns[k] hq (List.getElem?_eq_getElem hkl)
      rcases hv x hx with e | e
      · exact n2 x e hxq
      · have := h2.vs_lt x hxq
        omega
    by_cases ha : a = i
    · subst ha
      rw [List.getElem?_set_self hi] at hq
      rw [List.getElem?_set_ne hab] at hr
      injection hq with hq
      subst hq
      exact key b r hr (Ne.symm hab)
    · rw [List.getElem?_set_ne (Ne.symm ha)] at hq
      by_cases hb : b = i
      · subst hb
        rw [List.getElem?_set_self hi] at hr
        injection hr with hr
        subst hr
        obtain ⟨k1, k2⟩ := key a q hq ha
        exact ⟨Ne.symm k1, fun x hx hx2 => k2 x hx2 hx⟩
      · rw [List.getElem?_set_ne (Ne.symm hb)] at hr
        exact h.ne a b q r hab hq hr

theorem NodesAt.keep {B : Nat} {w w' : World} {bs : List (Nat × Value)} {ns : List Hw.Node} (h : NodesAt B w bs ns) (hk : ∀ p n, p ∈ bs → NodeAt w p.1 p.2 n → NodeAt w' p.1 p.2 n) : NodesAt B w' bs ns :=
  ⟨h.len, fun k p n hp hn => ⟨(h.here k p n hp hn).1, hk p n (List.mem_of_getElem? hp) (h.here k p n hp hn).2⟩, h.ne⟩

/-- A town in memory, all of it above B. -/
structure TownR (B : Nat) (w : World) (t : Nat) (va vn vd vw : Value) (bs : List (Nat × Value)) (T : Hw.Town) : Prop where
  base : B ≤ t
  blk : w.heap[t]? = some (.cells #[va, vn, vd, vw] 156 (0, 0))
  all : w.ownsRow B 62 5 va T.all.length (confsCells T.all)
  ptrs : w.ownsRow B 45 1 vn T.nodes.length (bs.map nodePtr)
  dead : w.ownsRow B 4 1 vd T.dead.length (T.dead.map .bool)
  way : w.ownsRow B 9 1 vw T.way.length (T.way.map .string)
  nodes : NodesAt B w bs T.nodes

/-- .. a whole one. -/
structure TownV (B : Nat) (w : World) (t : Nat) (va vn vd vw : Value) (bs : List (Nat × Value)) (T : Hw.Town) : Prop extends TownR B w t va vn vd vw bs T where
  dlen : T.dead.length = T.nodes.length
  alen : T.all.length = T.nodes.length

def TownAt (B : Nat) (w : World) (t : Nat) (T : Hw.Town) : Prop := ∃ va vn vd vw bs, TownV B w t va vn vd vw bs T

/-- What a town's step keeps. -/
structure TStep (B : Nat) (w w' : World) : Prop where
  below : Below B w w'
  maps : ∀ (k : Nat) (es : Array MapEntry) (c : Nat), w.heap[k]? = some (.map es c) → w'.heap[k]? = w.heap[k]?

theorem TStep.refl (B : Nat) (w : World) : TStep B w w := ⟨⟨rfl, rfl, rfl, Nat.le_refl _, fun _ _ => rfl⟩, fun _ _ _ _ => rfl⟩
theorem TStep.trans {B : Nat} {w w1 w2 : World} (h : TStep B w w1) (h2 : TStep B w1 w2) : TStep B w w2 :=
  ⟨h.below.trans h2.below, fun k es c hk => (h2.maps k es c ((h.maps k es c hk).trans hk)).trans (h.maps k es c hk)⟩
theorem TStep.of_below {B : Nat} {w w' : World} (hb : Below w.heap.size w w') (hB : B ≤ w.heap.size) : TStep B w w' :=
  ⟨hb.mono hB, fun k _ _ hk => hb.block k (Array.getElem?_eq_some_iff.1 hk).1⟩

theorem TStep.of_touch {B : Nat} {w w' : World} {b : Nat} {vs : Value} {n : Hw.Node} (h : NodeAt w b vs n) (hB : B ≤ b) (ht : Touch (NodeS b vs) w w') : TStep B w w' := by
  refine ⟨⟨ht.os, ht.tape, ht.output, ht.size, fun k hk => ht.block k (by have := h.lt; omega) ?_⟩, fun k es c hk => ht.block k (Array.getElem?_eq_some_iff.1 hk).1 ?_⟩
  · rintro (e | e)
    · omega
    · have := (h.own85 e).1
      omega
  · rintro (e | e)
    · subst e
      obtain ⟨cur, hc⟩ := h.row145
      rw [hk] at hc
      injection hc with hc
      cases hc
    · obtain ⟨-, cur, hc⟩ := h.own85 e
      rw [hk] at hc
      injection hc with hc
      cases hc

theorem own_other {w w' : World} {b : Nat} {vs : Value} {n : Hw.Node} (hn : NodeAt w b vs n) (ht : Touch (NodeS b vs) w w') {B : Nat} {e : TypeId} {s : Nat} {v : Value} {m : Nat} {xs : List Value} (h : w.ownsRow B e s v m xs) (h1 : e ≠ 145) (h2 : e ≠ 85) : w'.ownsRow B e s v m xs :=
  own_typed h fun k _ _ hc => ht.block k (Array.getElem?_eq_some_iff.1 hc).1 (hn.other hc h1 h2)

theorem TownR.below {B : Nat} {w w' : World} {t : Nat} {va vn vd vw : Value} {bs : List (Nat × Value)} {T : Hw.Town} (h : TownR B w t va vn vd vw bs T) (hb : Below w.heap.size w w') : TownR B w' t va vn vd vw bs T :=
  ⟨h.base, (hb.block t (Array.getElem?_eq_some_iff.1 h.blk).1).trans h.blk, own_below h.all hb, own_below h.ptrs hb, own_below h.dead hb, own_below h.way hb, h.nodes.keep fun _ _ _ hn => hn.below hb⟩

theorem TownV.below {B : Nat} {w w' : World} {t : Nat} {va vn vd vw : Value} {bs : List (Nat × Value)} {T : Hw.Town} (h : TownV B w t va vn vd vw bs T) (hb : Below w.heap.size w w') : TownV B w' t va vn vd vw bs T :=
  ⟨h.toTownR.below hb, h.dlen, h.alen⟩

theorem TownAt.below {B : Nat} {w w' : World} {t : Nat} {T : Hw.Town} (h : TownAt B w t T) (hb : Below w.heap.size w w') : TownAt B w' t T := by
  obtain ⟨va, vn, vd, vw, bs, h⟩ := h
  exact ⟨va, vn, vd, vw, bs, h.below hb⟩

theorem TownV.lt {B : Nat} {w : World} {t : Nat} {va vn vd vw : Value} {bs : List (Nat × Value)} {T : Hw.Town} (h : TownV B w t va vn vd vw bs T) : t < w.heap.size := (Array.getElem?_eq_some_iff.1 h.blk).1

theorem TownAt.lt {B : Nat} {w : World} {t : Nat} {T : Hw.Town} (h : TownAt B w t T) : B ≤ t ∧ t < w.heap.size := by
  obtain ⟨va, vn, vd, vw, bs, h⟩ := h
  exact ⟨h.base, h.lt⟩

/-- A node of the town. -/
theorem TownV.node {B : Nat} {w : World} {t : Nat} {va vn vd vw : Value} {bs : List (Nat × Value)} {T : Hw.Town} (h : TownV B w t va vn vd vw bs T) {k : Nat} (hk : k < T.nodes.length) :
    ∃ p A c, vn = .slice (some ⟨A, 0, none⟩) T.nodes.length c ∧ w.cell? ⟨A, k, none⟩ = some (.pointer (some ⟨p.1, 0, none⟩)) ∧ bs[k]? = some p ∧ B ≤ p.1 ∧ NodeAt w p.1 p.2 T.nodes[k] := by
  have hkb : k < bs.length := by rw [h.nodes.len]; exact hk
  obtain ⟨h1, h2⟩ := h.nodes.here k bs[k] T.nodes[k] (List.getElem?_eq_getElem hkb) (List.getElem?_eq_getElem hk)
  rcases h.ptrs.2 with ⟨e, e2⟩ | ⟨g, cap, cur, e, hB, e3, _⟩
  · omega
  · have hc := h.ptrs.cells (g := g) (by rw [e]; rfl) k (nodePtr bs[k]) (by simp [hkb])
    rw [add_lit, Nat.zero_add] at hc
    exact ⟨bs[k], g, cap, e, hc, List.getElem?_eq_getElem hkb, h1, h2⟩

theorem TownV.deadAt {B : Nat} {w : World} {t : Nat} {va vn vd vw : Value} {bs : List (Nat × Value)} {T : Hw.Town} (h : TownV B w t va vn vd vw bs T) {k : Nat} (hk : k < T.nodes.length) :
    ∃ A c, vd = .slice (some ⟨A, 0, none⟩) T.nodes.length c ∧ w.cell? ⟨A, k, none⟩ = some (.bool (T.dead[k]'(by rw [h.dlen]; exact hk))) ∧ ∀ j, w.frozen? ⟨A, j, none⟩ = false := by
  have hk' : k < T.dead.length := by rw [h.dlen]; exact hk
  rcases h.dead.2 with ⟨e, e2⟩ | ⟨g, cap, cur, e, hB, e3, _⟩
  · omega
  · have hc := h.dead.cells (g := g) (by rw [e]; rfl) k (.bool T.dead[k]) (by simp [hk'])
    rw [add_lit, Nat.zero_add] at hc
    exact ⟨g, cap, by rw [e, h.dlen], hc, fun j => frozen_of_row _ _ _ _ _ e3⟩

theorem TownV.wayAt {B : Nat} {w : World} {t : Nat} {va vn vd vw : Value} {bs : List (Nat × Value)} {T : Hw.Town} (h : TownV B w t va vn vd vw bs T) {k : Nat} (hk : k < T.way.length) :
    ∃ A c, vw = .slice (some ⟨A, 0, none⟩) T.way.length c ∧ w.cell? ⟨A, k, none⟩ = some (.string T.way[k]) := by
  rcases h.way.2 with ⟨e, e2⟩ | ⟨g, cap, cur, e, hB, e3, _⟩
  · omega
  · have hc := h.way.cells (g := g) (by rw [e]; rfl) k (.string T.way[k]) (by simp [hk])
    rw [add_lit, Nat.zero_add] at hc
    exact ⟨g, cap, e, hc⟩

theorem TownV.cells {B : Nat} {w : World} {t : Nat} {va vn vd vw : Value} {bs : List (Nat × Value)} {T : Hw.Town} (h : TownV B w t va vn vd vw bs T) :
    w.cell? ⟨t, 0, none⟩ = some va ∧ w.cell? ⟨t, 1, none⟩ = some vn ∧ w.cell? ⟨t, 2, none⟩ = some vd ∧ w.cell? ⟨t, 3, none⟩ = some vw ∧ ∀ j, w.frozen? ⟨t, j, none⟩ = false :=
  ⟨cell_of_row _ _ 0 _ 156 (0, 0) h.blk, cell_of_row _ _ 1 _ 156 (0, 0) h.blk, cell_of_row _ _ 2 _ 156 (0, 0) h.blk, cell_of_row _ _ 3 _ 156 (0, 0) h.blk, fun _ => frozen_of_row _ _ _ _ _ h.blk⟩

/-- The town whose node k is another. -/
def withNode (T : Hw.Town) (k : Nat) (n : Hw.Node) : Hw.Town := { T with nodes := T.nodes.set k n }

theorem TownV.step {B : Nat} {w w' : World} {t : Nat} {va vn vd vw : Value} {bs : List (Nat × Value)} {T : Hw.Town} (h : TownV B w t va vn vd vw bs T) {k : Nat} (hk : k < T.nodes.length) {p : Nat × Value} (hp : bs[k]? = some p) {n' : Hw.Node} {vs' : Value}
    (hn : NodeAt w' p.1 vs' n') (hv : VsTo p.2 vs' w) (ht : Touch (NodeS p.1 p.2) w w') : TownV B w' t va vn vd vw (bs.set k (p.1, vs')) (withNode T k n') ∧ TStep B w w' := by
  obtain ⟨hB, hpn⟩ := h.nodes.here k p T.nodes[k] hp (List.getElem?_eq_getElem hk)
  refine ⟨⟨⟨h.base, ?_, own_other hpn ht h.all (by decide) (by decide), ?_, own_other hpn ht h.dead (by decide) (by decide), own_other hpn ht h.way (by decide) (by decide), h.nodes.step hp hn hv ht⟩, by simp [withNode, h.dlen], by simp [withNode, h.alen]⟩, TStep.of_touch hpn hB ht⟩
  · exact (ht.block t h.lt (hpn.other h.blk (by decide) (by decide))).trans h.blk
  · have e : (bs.set k (p.1, vs')).map nodePtr = bs.map nodePtr := by
      rw [List.map_set]
      apply List.ext_getElem?
      intro x
      by_cases hx : x = k
      · subst hx
        rw [List.getElem?_set_self (by simp; exact (List.getElem?_eq_some_iff.1 hp).1), List.getElem?_map, hp]
        rfl
      · rw [List.getElem?_set_ne (Ne.symm hx)]
    rw [e]
    have := own_other hpn ht h.ptrs (by decide) (by decide)
    simpa [withNode] using this

set_option maxRecDepth 100000 in
theorem clonestrs_any (A : Option Addr) (c B : Nat) (l : List ByteArray) (w : World) (h : w.ownsRow B 9 1 (.slice A l.length c) l.length (l.map .string)) (hl : l.length ≤ 100000) :
    Calls Try.prog 100 #[.slice A l.length c] w fun e w' => (∃ v, e = .returned v ∧ w'.ownsRow w.heap.size 9 1 v l.length (l.map .string)) ∧ Below w.heap.size w w' := by
  obtain ⟨i0, hi0, hz0, hz1, hz2⟩ := info_parts info9
  have hnil := fun (W : World) (a : Option Addr) (n c : Nat) => Lib.run_eql_slice_nil (P := Try.prog) W 48 9 a n c 0 0 Try.underlying48
  rcases A with _ | ad
  · have hl0 : l = [] := by
      rcases h.2 with ⟨_, e2⟩ | ⟨g, cap, cur, e, _⟩
      · exact List.length_eq_zero_iff.1 e2
      · cases e
    subst hl0
    go_enter Try.func100, Try.ntmps100
    go_wp2_with fail
    go_ret
    exact ⟨⟨_, rfl, World.ownsRow_nil _ _ _ _⟩, Below.refl _ _⟩
  · have hn : ∀ j u, (l.map Value.string)[j]? = some u → w.cell? (ad.add j) = some u := by
      rcases h.2 with ⟨e1, e2⟩ | ⟨g, cap, cur, e, _⟩
      · cases e1
      · injection e with e1 _ _
        injection e1 with e1
        subst e1
        exact fun j u hu => h.cells (g := g) rfl j u hu
    have Hn := Lib.hid hn
    clear h hn
    go_enter Try.func100, Try.ntmps100
    go_wp2_with ((at_builtin; refine wpList_append_own _ rfl (.tmp 5) (.tmp 6) 48 rfl w.heap.size 9 i0 _ 1 16 Try.underlying48 hi0 hz0 hz1 hz2 rfl (by omega) (.slice (some ⟨w.heap.size, 0, none⟩) 0 0) 0 [] rfl (World.ownsRow_made w #[] 0 (Nat.le_refl _) (by simp) rfl) ad l.length c (l.map Value.string) rfl (by simp) (news_below ((Below.refl _ _).alloc (Nat.le_refl _) _) Hn.out) (strs_one l) (by simp only [maxLen]; omega) (by omega) (by simp) ?_; intro v' w1 hown hgrow _))
    go_ret
    exact ⟨⟨_, rfl, by simpa using hown⟩, ((Below.refl _ _).alloc (Nat.le_refl _) _).grown hgrow (by simp) (by simp [Value.ownBlock])⟩

set_option maxRecDepth 100000 in
/-- '(*Town).Way'. -/
theorem way_any (B t : Nat) (T : Hw.Town) (w : World) (h : TownAt B w t T) (hl : T.way.length ≤ 100000) : Calls Try.prog 42 #[.pointer (some ⟨t, 0, none⟩)] w fun e w' => (∃ v, e = .returned v ∧ w'.ownsRow w.heap.size 9 1 v T.way.length (T.way.map .string)) ∧ Below w.heap.size w w' := by
  obtain ⟨va, vn, vd, vw, bs, hT⟩ := h
  obtain ⟨-, -, -, c3, -⟩ := hT.cells
  have hw := hT.way
  obtain ⟨A, c, rfl, -⟩ := own_form hw
  have HW := Lib.hid hw
  clear hw hT
  go_enter Try.func42, Try.ntmps42
  go_wp2_with (go_at_call 100; refine (clonestrs_any A c _ T.way _ HW.out hl).mono ?_; rintro e w1 ⟨⟨v, rfl, ho⟩, hb1⟩; have HO := Lib.hid ho; have HB := Lib.hid hb1; clear ho hb1)
  go_ret
  exact ⟨⟨_, rfl, HO.out⟩, HB.out⟩

set_option maxRecDepth 100000 in
set_option maxHeartbeats 1000000 in
/-- '(*Town).Level', of a node that lives. -/
theorem tlevel_any (B t : Nat) (T : Hw.Town) (i : Int) (k : Nat) (id : ByteArray) (w : World) (h : TownAt B w t T) (hi : i = (k : Int)) (hk : k < T.nodes.length) (hd : T.dead[k]? = some false) (hlv : NodeLv T.nodes[k]) :
    Calls Try.prog 40 #[.pointer (some ⟨t, 0, none⟩), .int .i64 i, .string id] w fun e w' => e = .returned (.tuple #[.int .i64 (level T.nodes[k] id).1, .int .i64 (level T.nodes[k] id).2]) ∧ Below w.heap.size w w' := by
  obtain ⟨va, vn, vd, vw, bs, hT⟩ := h
  obtain ⟨-, c1, c2, -, -⟩ := hT.cells
  obtain ⟨p, A, c, rfl, hp, -, -, hn⟩ := hT.node hk
  obtain ⟨A2, c2', rfl, hd2, -⟩ := hT.deadAt hk
  have hdk : T.dead[k]'(by rw [hT.dlen]; exact hk) = false := by
    rw [List.getElem?_eq_getElem (by rw [hT.dlen]; exact hk)] at hd
    injection hd
  rw [hdk] at hd2
  have HN := Lib.hid hn
  have hki : (k : Int) < (T.nodes.length : Int) := by omega
  have hk0 : (0 : Int) ≤ (k : Int) := by omega
  subst hi
  have ht := blt c1
  have hA := blt hp
  have hA2 := blt hd2
  clear hT hn hd hdk
  go_enter Try.func40, Try.ntmps40
  go_wp2_with (first
    | (go_at_call 44; refine (nlevel_any p.1 p.2 T.nodes[k] id _ HN.out hlv).mono ?_; rintro e w1 ⟨rfl, hb1⟩; have HB := Lib.hid hb1; clear hb1)
    | fail)
  go_ret2
  exact ⟨rfl, HB.out⟩

set_option maxRecDepth 100000 in
set_option maxHeartbeats 1000000 in
/-- '(*Town).Join', of a node that lives. -/
theorem tjoin_any (B t : Nat) (T : Hw.Town) (i : Int) (k : Nat) (id : ByteArray) (theta : Int) (w : World) (h : TownAt B w t T) (hi : i = (k : Int)) (hk : k < T.nodes.length) (hd : T.dead[k]? = some false) (hlv : NodeLv T.nodes[k]) (h8 : T.nodes[k].subs.length ≤ 8) :
    Calls Try.prog 41 #[.pointer (some ⟨t, 0, none⟩), .int .i64 i, .string id, .int .i64 theta] w fun e w' => (∃ vnn, e = .returned (.tuple #[vnn, .int .i64 (njoin T.nodes[k] id theta).2.2]) ∧ w'.ownsRow w.heap.size 74 3 vnn (njoin T.nodes[k] id theta).2.1.length (notesCells (njoin T.nodes[k] id theta).2.1)) ∧
      TownAt B w' t (withNode T k (njoin T.nodes[k] id theta).1) ∧ TStep B w w' := by
  obtain ⟨va, vn, vd, vw, bs, hT⟩ := h
  obtain ⟨-, c1, c2, -, -⟩ := hT.cells
  have HTn := hT.node hk
  have HT := Lib.hid hT
  obtain ⟨p, A, c, rfl, hp, hbp, -, hn⟩ := HTn
  obtain ⟨A2, c2', rfl, hd2, -⟩ := hT.deadAt hk
  have hdk : T.dead[k]'(by rw [hT.dlen]; exact hk) = false := by
    rw [List.getElem?_eq_getElem (by rw [hT.dlen]; exact hk)] at hd
    injection hd
  rw [hdk] at hd2
  have HN := Lib.hid hn
  have HP := Lib.hid hbp
  have hki : (k : Int) < (T.nodes.length : Int) := by omega
  have hk0 : (0 : Int) ≤ (k : Int) := by omega
  subst hi
  have ht := blt c1
  have hA := blt hp
  have hA2 := blt hd2
  clear hT hn hd hdk hbp
  go_enter Try.func41, Try.ntmps41
  go_wp2_with (first
    | (go_at_call 49; refine (njoin_any p.1 p.2 T.nodes[k] id theta _ HN.out hlv h8).mono ?_; rintro e w1 ⟨⟨vnn, rfl, ho⟩, vs', hn', hv', ht'⟩; obtain ⟨A3, c3, rfl, -⟩ := own_form ho; have HO := Lib.hid ho; have HS := Lib.hid (HT.out.step hk HP.out hn' hv' ht'); clear ho hn' hv' ht')
    | fail)
  go_ret2
  exact ⟨⟨_, rfl, HO.out⟩, ⟨_, _, _, _, _, HS.out.1⟩, HS.out.2⟩

theorem own_notS {w : World} {b : Nat} {vs : Value} {n : Hw.Node} (hn : NodeAt w b vs n) {B A c m : Nat} {e : TypeId} {s : Nat} {xs : List Value} (h : w.ownsRow B e s (.slice (some ⟨A, 0, none⟩) m c) m xs) (h1 : e ≠ 145) (h2 : e ≠ 85) : ¬ NodeS b vs A := by
  rcases h.2 with ⟨e, _⟩ | ⟨g, cap, cur, e, _, e3, _⟩
  · cases e
  · injection e with e _ _
    injection e with e
    injection e with e _
    subst e
    exact hn.other e3 h1 h2

set_option maxRecDepth 100000 in
set_option maxHeartbeats 1000000 in
/-- '(*Town).Bring', of a text that is there to a node that lives. -/
theorem bring_any (B t : Nat) (T : Hw.Town) (i dst : Int) (q k : Nat) (w : World) (h : TownAt B w t T) (hi : i = (q : Int)) (hdst : dst = (k : Int)) (hq : q < T.way.length) (hk : k < T.nodes.length) (hd : T.dead[k]? = some false)
    (hd1 : 0 ≤ T.nodes[k].drops) (hd2 : T.nodes[k].drops ≤ 1073741824) (hlv : NodeLv { T.nodes[k] with peers := (hear T.nodes[k].peers (decode T.way[q]).1 T.nodes[k].now).1 }) (h8 : T.nodes[k].subs.length ≤ 8) :
    Calls Try.prog 56 #[.pointer (some ⟨t, 0, none⟩), .int .i64 i, .int .i64 dst] w fun e w' => (∃ vnn, e = .returned (.tuple #[vnn, .int .i64 (nhear T.nodes[k] T.way[q]).2.2]) ∧ w'.ownsRow w.heap.size 74 3 vnn (nhear T.nodes[k] T.way[q]).2.1.length (notesCells (nhear T.nodes[k] T.way[q]).2.1)) ∧
      TownAt B w' t (withNode T k (nhear T.nodes[k] T.way[q]).1) ∧ TStep B w w' := by
  obtain ⟨va, vn, vd, vw, bs, hT⟩ := h
  obtain ⟨-, c1, c2, c3, -⟩ := hT.cells
  have HT := Lib.hid hT
  obtain ⟨p, A, c, rfl, hp, hbp, -, hn⟩ := hT.node hk
  obtain ⟨A2, c2', rfl, hd2', -⟩ := hT.deadAt hk
  obtain ⟨A3, c3', rfl, hw⟩ := hT.wayAt hq
  have hdk : T.dead[k]'(by rw [hT.dlen]; exact hk) = false := by
    rw [List.getElem?_eq_getElem (by rw [hT.dlen]; exact hk)] at hd
    injection hd
  rw [hdk] at hd2'
  have nt1 := hn.other hT.blk (by decide) (by decide)
  have nt2 := own_notS hn hT.ptrs (by decide) (by decide)
  have nt3 := own_notS hn hT.way (by decide) (by decide)
  have NT1 := Lib.hid nt1
  have NT2 := Lib.hid nt2
  have NT3 := Lib.hid nt3
  have HN := Lib.hid hn
  have HP := Lib.hid hbp
  have hki : (k : Int) < (T.nodes.length : Int) := by omega
  have hk0 : (0 : Int) ≤ (k : Int) := by omega
  have hqi : (q : Int) < (T.way.length : Int) := by omega
  have hq0 : (0 : Int) ≤ (q : Int) := by omega
  subst hi hdst
  have ht := blt c1
  have hA := blt hp
  have hA2 := blt hd2'
  have hA3 := blt hw
  clear hT hn hd hdk hbp nt1 nt2 nt3
  go_enter Try.func56, Try.ntmps56
  go_wp2_with fail
  go_region_held3 (fun w' => w'.cell? ⟨t, 1, none⟩ = some (.slice (some ⟨A, 0, none⟩) T.nodes.length c) ∧ w'.cell? ⟨A, k, none⟩ = some (.pointer (some ⟨p.1, 0, none⟩)) ∧ w'.cell? ⟨t, 3, none⟩ = some (.slice (some ⟨A3, 0, none⟩) T.way.length c3') ∧ w'.cell? ⟨A3, q, none⟩ = some (.string T.way[q])) (first | go_keep | exact ⟨k1, k2, k3, k4⟩)
    (first | (go_at_call 53; refine (nhear_any p.1 p.2 T.nodes[k] T.way[q] _ (HN.out.below (below_drewN (Below.refl _ _) 1)) hd1 hd2 hlv h8).mono ?_; rintro e w1 ⟨⟨vnn, rfl, ho⟩, hn', ht'⟩; obtain ⟨A4, c4, rfl, -⟩ := own_form ho; have HO := Lib.hid ho; have hS := (HT.out.below (below_drewN (Below.refl _ _) 1)).step hk HP.out hn' (VsTo.refl _ _) ht'; have HS := Lib.hid hS; have k1 := ht'.cell c1 NT1.out; have k2 := ht'.cell hp NT2.out; have k3 := ht'.cell c3 NT1.out; have k4 := ht'.cell hw NT3.out; clear hS ho hn' ht'))
  go_wp2_with fail
  go_ret2
  exact ⟨⟨_, rfl, HO.out⟩, ⟨_, _, _, _, _, HS.out.1⟩, (TStep.of_below (below_drewN (Below.refl _ _) 1) (Nat.le_trans HT.out.base (Nat.le_of_lt HT.out.lt))).trans HS.out.2⟩

theorem grown_cells {w w' : World} {B : Nat} {e : TypeId} {s : Nat} {v : Value} {n : Nat} {xs : List Value} (h : w.ownsRow B e s v n xs) (hg : w.grownBy w' v.ownBlock) : ∀ (k : Nat) (c : Array Value) (u : TypeId), u ≠ e → w.heap[k]? = some (.cells c u (0, 0)) → w'.heap[k]? = w.heap[k]? := by
  intro q c u hu hq
  refine hg.block q (Array.getElem?_eq_some_iff.1 hq).1 fun he => ?_
  rcases h.2 with ⟨e1, _⟩ | ⟨g', cap, cur, e1, _, e3, _⟩
  · rw [e1] at he
    cases he
  · rw [e1] at he
    injection he with he
    subst he
    exact cells_ne hq e3 hu rfl

/-- Another way. -/
theorem TownV.putWay {B : Nat} {w w' : World} {t : Nat} {va vn vd vw : Value} {bs : List (Nat × Value)} {T : Hw.Town} (h : TownV B w t va vn vd vw bs T) (hk : ∀ (k : Nat) (c : Array Value) (u : TypeId), u ≠ 9 → u ≠ 74 → w.heap[k]? = some (.cells c u (0, 0)) → w'.heap[k]? = w.heap[k]?)
    {v : Value} {l : List ByteArray} (ho : w'.ownsRow B 9 1 v l.length (l.map .string)) : TownV B (w'.setCell ⟨t, 3, none⟩ v) t va vn vd v bs { T with way := l } := by
  have hb : w'.heap[t]? = some (.cells #[va, vn, vd, vw] 156 (0, 0)) := (hk t _ 156 (by decide) (by decide) h.blk).trans h.blk
  have hk2 : ∀ (k : Nat) (c : Array Value) (u : TypeId), u ≠ 9 → u ≠ 74 → u ≠ 156 → w.heap[k]? = some (.cells c u (0, 0)) → (w'.setCell ⟨t, 3, none⟩ v).heap[k]? = w.heap[k]? := fun k c u h1 h2 h3 hc =>
    (heap_setCell_other _ _ _ _ (cells_ne ((hk k c u h1 h2 hc).trans hc) hb h3)).trans (hk k c u h1 h2 hc)
  refine ⟨⟨h.base, heap_set v hb, own_typed h.all fun k c _ hc => hk2 k c 62 (by decide) (by decide) (by decide) hc, own_typed h.ptrs fun k c _ hc => hk2 k c 45 (by decide) (by decide) (by decide) hc, own_typed h.dead fun k c _ hc => hk2 k c 4 (by decide) (by decide) (by decide) hc,
    own_typed ho fun k c _ hc => heap_setCell_other _ _ _ _ (cells_ne hc hb (by decide)), h.nodes.keep fun p n _ hn => ?_⟩, h.dlen, h.alen⟩
  obtain ⟨vp, e1, e2, e3⟩ := hn
  exact ⟨vp, (hk2 _ _ 145 (by decide) (by decide) (by decide) e1).trans e1, e2.typed fun k c u hu hc => hk2 k c u (by rcases hu with e | e <;> rw [e] <;> decide) (by rcases hu with e | e <;> rw [e] <;> decide) (by rcases hu with e | e <;> rw [e] <;> decide) hc, own_typed e3 fun k c _ hc => hk2 k c 85 (by decide) (by decide) (by decide) hc⟩

theorem TStep.grown {B : Nat} {w w1 w' : World} (h : TStep B w w1) {e : TypeId} {s : Nat} {v : Value} {n : Nat} {xs : List Value} (ho : w1.ownsRow B e s v n xs) (hg : w1.grownBy w' v.ownBlock) (hB : B ≤ w1.heap.size) : TStep B w w' := by
  have hne : ∀ k, k < w1.heap.size → (k < B ∨ ∃ es c, w1.heap[k]? = some (.map es c)) → w'.heap[k]? = w1.heap[k]? := fun k hk hc => hg.block k hk fun he => by
    rcases ho.2 with ⟨e1, _⟩ | ⟨g', cap, cur, e1, hB', e3, _⟩
    · rw [e1] at he
      cases he
    · rw [e1] at he
      injection he with he
      have he : k = g' := he
      subst he
      rcases hc with hc | ⟨es, c, hc⟩
      · omega
      · rw [hc] at e3
        injection e3 with e3
        cases e3
  exact h.trans ⟨⟨hg.os, hg.tape, hg.output, hg.size, fun k hk => hne k (by omega) (.inl hk)⟩, fun k es c hk => hne k (Array.getElem?_eq_some_iff.1 hk).1 (.inr ⟨es, c, hk⟩)⟩

theorem TStep.set {B : Nat} {w w' : World} (h : TStep B w w') {t j : Nat} {c : Array Value} {u : TypeId} (hb : w'.heap[t]? = some (.cells c u (0, 0))) (hB : B ≤ t) (v : Value) : TStep B w (w'.setCell ⟨t, j, none⟩ v) := by
  refine ⟨h.below.setCell hB v, fun k es d hk => ?_⟩
  have h1 := h.maps k es d hk
  refine (heap_setCell_other _ _ _ _ fun e => ?_).trans h1
  have e : k = t := e
  have h2 : w'.heap[k]? = some (.map es d) := h1.trans hk
  rw [e, hb] at h2
  injection h2 with h2
  cases h2

theorem delS_any (A : Option Addr) (c : Nat) (l : List ByteArray) (i B : Nat) (w : World) (h : w.ownsRow B 9 1 (.slice A l.length c) l.length (l.map .string)) (hi : i < l.length) :
    Calls Try.prog 111 #[.slice A l.length c, .int .i64 i, .int .i64 (i + 1)] w
      fun e w' => (∃ v, e = .returned v ∧ w'.ownsRow B 9 1 v (l.eraseIdx i).length ((l.eraseIdx i).map .string)) ∧ w.grownBy w' (A.map (·.block)) := by
  rcases h.2 with ⟨_, e2⟩ | ⟨g, cap, cur, e, hBg, hg, hnc, hcm, hcs, htake⟩
  · omega
  · injection e with e1 _ e3
    subst e1 e3
    have hxs : (cur.toList.drop ((i + 1) * 1)).take ((l.length - (i + 1)) * 1) = (l.map Value.string).drop (i + 1) := by
      rw [← htake, List.drop_take, Nat.mul_one, Nat.mul_one, Nat.mul_one]
    have hx1 : ∀ u ∈ (cur.toList.drop ((i + 1) * 1)).take ((l.length - (i + 1)) * 1), u.oneCell' = true := by
      rw [hxs]
      intro u hu
      exact strs_one l u (List.mem_of_mem_drop hu)
    have ht1 : cur.toList.take (i * 1) = (l.map Value.string).take i := by
      rw [← htake, List.take_take]
      congr 1
      omega
    have hlen : (l.eraseIdx i).length = l.length - 1 := by rw [List.length_eraseIdx, if_pos hi]
    refine (delS_cells g c l.length i cur w hg hcs hnc hcm hi hx1).mono ?_
    rintro e w' ⟨⟨cur', rfl, q1, q2, q3⟩, q4⟩
    refine ⟨⟨_, rfl, ⟨by simp, .inr ⟨g, c, cur', by rw [hlen], hBg, q1, by omega, hcm, q2, ?_⟩⟩⟩, q4⟩
    rw [hlen, q3, ht1, hxs, eraseIdx_td, List.map_append, List.map_take, List.map_drop]

/-- The town without that text. -/
def lost (T : Hw.Town) (i : Nat) : Hw.Town := { T with way := T.way.eraseIdx i }

set_option maxRecDepth 100000 in
set_option maxHeartbeats 1000000 in
/-- '(*Town).Lose', of a text that is there. -/
theorem lose_any (B t : Nat) (T : Hw.Town) (i : Int) (k : Nat) (w : World) (h : TownAt B w t T) (hB : B ≤ w.heap.size) (hi : i = (k : Int)) (hk : k < T.way.length) (hl : T.way.length ≤ 100000) :
    Calls Try.prog 57 #[.pointer (some ⟨t, 0, none⟩), .int .i64 i] w fun e w' => e = .returned (.int .i64 0) ∧ TownAt B w' t (lost T k) ∧ TStep B w w' := by
  obtain ⟨va, vn, vd, vw, bs, hT⟩ := h
  obtain ⟨-, -, -, c3, cf⟩ := hT.cells
  have hw := hT.way
  obtain ⟨A, c, rfl, -⟩ := own_form hw
  have HT := Lib.hid hT
  have HW := Lib.hid hw
  have hki : (k : Int) < (T.way.length : Int) := by omega
  have hk0 : (0 : Int) ≤ (k : Int) := by omega
  have hkw : IntKind.i64.wrap ((k : Int) + 1) = (k : Int) + 1 := IntWalk.i64_in _ (by omega)
  subst hi
  have ht := blt c3
  have f3 := cf 3
  clear hT hw cf
  go_enter Try.func57, Try.ntmps57
  go_wp2_with (first
    | (go_at_call 111; refine (delS_any A c T.way k B _ HW.out hk).mono ?_; rintro e w1 ⟨⟨v1, rfl, ho⟩, hg⟩; obtain ⟨A1, c1', rfl, -⟩ := own_form ho; have hob : (Value.slice A T.way.length c).ownBlock = A.map (·.block) := (by cases A <;> rfl); rw [← hob] at hg; have hgc := grown_cells HW.out hg; have hb1 := (hgc t _ 156 (by decide) HT.out.blk).trans HT.out.blk; have d3 := cell_of_row _ _ 3 _ 156 (0, 0) hb1; have g3 := frozen_of_row _ _ 3 _ 156 hb1; simp at d3; have ht1 := blt d3; have HO := Lib.hid ho; have HG := Lib.hid hg; have HGc := Lib.hid hgc; have HB1 := Lib.hid hb1; clear ho hg hgc hb1 hob)
    | fail)
  go_ret
  refine ⟨rfl, ⟨_, _, _, _, _, HT.out.putWay (fun q c u h1 _ hc => HGc.out q c u h1 hc) HO.out⟩, ?_⟩
  exact ((TStep.refl B w).grown HW.out HG.out hB).set HB1.out HT.out.base _

set_option maxRecDepth 100000 in
/-- '(*Town).Lose', of a text that is not there. -/
theorem lose_none (B t : Nat) (T : Hw.Town) (i : Int) (k : Nat) (w : World) (h : TownAt B w t T) (hi : i = (k : Int)) (hk : T.way.length ≤ k) :
    Calls Try.prog 57 #[.pointer (some ⟨t, 0, none⟩), .int .i64 i] w fun e w' => e = .returned (.int .i64 4) ∧ w = w' := by
  obtain ⟨va, vn, vd, vw, bs, hT⟩ := h
  obtain ⟨-, -, -, c3, -⟩ := hT.cells
  have hw := hT.way
  obtain ⟨A, c, rfl, -⟩ := own_form hw
  have hki : ¬ (k : Int) < (T.way.length : Int) := by omega
  have hki2 : (T.way.length : Int) ≤ (k : Int) := by omega
  have hk0 : (0 : Int) ≤ (k : Int) := by omega
  subst hi
  have ht := blt c3
  clear hT hw
  go_enter Try.func57, Try.ntmps57
  go_wp2_with fail
  go_ret
  exact ⟨rfl, rfl⟩

/-- The town whose node k is stopped. -/
def stopped (T : Hw.Town) (k : Nat) : Hw.Town := { T with dead := T.dead.set k true }

set_option maxRecDepth 100000 in
set_option maxHeartbeats 1000000 in
/-- '(*Town).Stop', of a node that lives. -/
theorem stop_any (B t : Nat) (T : Hw.Town) (i : Int) (k : Nat) (w : World) (h : TownAt B w t T) (hi : i = (k : Int)) (hk : k < T.nodes.length) (hd : T.dead[k]? = some false) :
    Calls Try.prog 64 #[.pointer (some ⟨t, 0, none⟩), .int .i64 i] w fun e w' => e = .returned (.int .i64 0) ∧ TownAt B w' t (stopped T k) ∧ TStep B w w' := by
  obtain ⟨va, vn, vd, vw, bs, hT⟩ := h
  obtain ⟨-, c1, c2, -, -⟩ := hT.cells
  obtain ⟨p, A, c, rfl, hp, -, -, -⟩ := hT.node hk
  have HT := Lib.hid hT
  obtain ⟨A2, c2', rfl, hd2, hf⟩ := hT.deadAt hk
  have hdk : T.dead[k]'(by rw [hT.dlen]; exact hk) = false := by
    rw [List.getElem?_eq_getElem (by rw [hT.dlen]; exact hk)] at hd
    injection hd
  rw [hdk] at hd2
  have hki : (k : Int) < (T.nodes.length : Int) := by omega
  have hk0 : (0 : Int) ≤ (k : Int) := by omega
  have fk := hf k
  subst hi
  have ht := blt c1
  have hA2 := blt hd2
  clear hT hd hdk hf
  go_enter Try.func64, Try.ntmps64
  go_wp2_with fail
  go_ret
  have hT := HT.out
  have hr : w.ownsRow B 4 1 (.slice (some ⟨A2, 0, none⟩) T.nodes.length c2') T.nodes.length (T.dead.map .bool) := by
    have := hT.dead
    rwa [hT.dlen] at this
  have hst := hr.stored k (.bool true)
  have hnt : ∀ (q : Nat) (c : Array Value) (u : TypeId), u ≠ 4 → w.heap[q]? = some (.cells c u (0, 0)) → (w.setCell ⟨A2, k, none⟩ (.bool true)).heap[q]? = w.heap[q]? := fun q c u hu hq => grown_cells hr hst.2 q c u hu hq
  refine ⟨rfl, ⟨_, _, _, _, bs, ⟨⟨hT.base, (hnt t _ 156 (by decide) hT.blk).trans hT.blk, own_typed hT.all fun q c _ hc => hnt q c 62 (by decide) hc, own_typed hT.ptrs fun q c _ hc => hnt q c 45 (by decide) hc, ?_, own_typed hT.way fun q c _ hc => hnt q c 9 (by decide) hc, hT.nodes.keep fun p n _ hn => ?_⟩, by simp [stopped, hT.dlen], hT.alen⟩⟩, ?_⟩
  · have e : (stopped T k).dead.map Value.bool = (T.dead.map Value.bool).set k (.bool true) := by
      show (T.dead.set k true).map Value.bool = _
      rw [List.map_set]
    have e2 : (stopped T k).dead.length = T.nodes.length := by simp [stopped, hT.dlen]
    rw [e, e2]
    exact hst.1
  · obtain ⟨vp, e1, e2, e3⟩ := hn
    exact ⟨vp, (hnt _ _ 145 (by decide) e1).trans e1, e2.typed fun q c u hu hc => hnt q c u (by rcases hu with e | e <;> rw [e] <;> decide) hc, own_typed e3 fun q c _ hc => hnt q c 85 (by decide) hc⟩
  · obtain ⟨_, h2⟩ := hr
    rcases h2 with ⟨e, _⟩ | ⟨g, cap, cur, e, hB, e3, _⟩
    · cases e
    · injection e with e _ _
      injection e with e
      injection e with e _
      subst e
      exact (TStep.refl B w).set e3 hB _

end Go.Proofs.Ytmclalhjnjghnaa
