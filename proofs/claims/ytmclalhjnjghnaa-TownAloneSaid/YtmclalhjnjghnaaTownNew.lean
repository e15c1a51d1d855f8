/- The contract of town.New. -/
import Derived.Test.YtmclalhjnjghnaaTownTick
import Derived.Laws.OwnMore
namespace Go.Proofs.Ytmclalhjnjghnaa
open Go.RowKit Hw

/-- The node of place i behind so many of its watches. -/
def watchTo (l : List Config) (i : Nat) (c : Config) : Nat → Hw.Node
  | 0 => newNode c
  | k + 1 => match l[k]? with
    | some d => if k = i then watchTo l i c k else (watch (watchTo l i c k) d.id d.every).1
    | none => watchTo l i c k

/-- The town whose first i nodes watch the others. -/
def townTo (l : List Config) (i : Nat) : Hw.Town := ⟨l, l.mapIdx (fun j c => if j < i then watchTo l j c l.length else newNode c), l.map (fun _ => false), []⟩

/-- 'town.New'. -/
def newTown (l : List Config) : Hw.Town := townTo l l.length

theorem confsCells_one (l : List Config) : ∀ u ∈ confsCells l, u.oneCell' = true := by
  intro u hu
  obtain ⟨s, -, hs⟩ := List.mem_flatMap.1 hu
  simp only [confCells, List.mem_cons, List.not_mem_nil, or_false] at hs
  rcases hs with rfl | rfl | rfl | rfl | rfl <;> rfl

theorem info62 : (Try.prog.info? 62).map (fun i => (i.zero, i.size, i.bytes)) = some (some (.agg #[.string ByteArray.empty, .int .i64 0, .int .i64 0, .int .i64 0, .int .i64 0]), 5, 48) := by kernel_rfl
theorem info45 : (Try.prog.info? 45).map (fun i => (i.zero, i.size, i.bytes)) = some (some (.pointer none), 1, 8) := by kernel_rfl
theorem info4 : (Try.prog.info? 4).map (fun i => (i.zero, i.size, i.bytes)) = some (some (.bool false), 1, 1) := by kernel_rfl

set_option maxRecDepth 100000 in
theorem cloneconfs_any (g c B : Nat) (l : List Config) (w : World) (h : w.ownsRow B 62 5 (.slice (some ⟨g, 0, none⟩) l.length c) l.length (confsCells l)) (hl : l.length ≤ 5) :
    Calls Try.prog 99 #[.slice (some ⟨g, 0, none⟩) l.length c] w fun e w' => (∃ v, e = .returned v ∧ w'.ownsRow w.heap.size 62 5 v l.length (confsCells l)) ∧ Below w.heap.size w w' := by
  obtain ⟨i0, hi0, hz0, hz1, hz2⟩ := info_parts info62
  have hnil := fun (W : World) (a : Option Addr) (n c : Nat) => Lib.run_eql_slice_nil (P := Try.prog) W 63 62 a n c 0 0 Try.underlying63
  have Hn := Lib.hid (fun j u (hu : (confsCells l)[j]? = some u) => h.cells (g := g) rfl j u hu)
  clear h
  go_enter Try.func99, Try.ntmps99
  go_wp2_with ((at_builtin; refine wpList_append_own _ rfl (.tmp 5) (.tmp 6) 63 rfl w.heap.size 62 i0 _ 5 48 Try.underlying63 hi0 hz0 hz1 hz2 rfl (by omega) (.slice (some ⟨w.heap.size, 0, none⟩) 0 0) 0 [] rfl (World.ownsRow_made w #[] 0 (Nat.le_refl _) (by simp) rfl) ⟨g, 0, none⟩ l.length c (confsCells l) rfl (confsCells_len l) (news_below ((Below.refl _ _).alloc (Nat.le_refl _) _) Hn.out) (confsCells_one l) (by simp only [maxLen]; omega) (by omega) (by simp) ?_; intro v' w1 hown hgrow _))
  go_ret
  exact ⟨⟨_, rfl, by simpa using hown⟩, ((Below.refl _ _).alloc (Nat.le_refl _) _).grown hgrow (by simp) (by simp [Value.ownBlock])⟩

def OwnC (B : Nat) (l : List Config) (v : Value) (w : World) : Prop := w.ownsRow B 62 5 v l.length (confsCells l)
def OwnD (B : Nat) (l : List Config) (v : Value) (w : World) : Prop := w.ownsRow B 4 1 v l.length ((l.map (fun _ => false)).map .bool)
def TNew (B : Nat) (l : List Config) (t : Nat) (w : World) : Prop := ∃ va vd, B ≤ t ∧ w.heap[t]? = some (.cells #[va, .slice none 0 0, vd, .slice none 0 0] 156 (0, 0)) ∧ OwnC B l va w ∧ OwnD B l vd w

theorem below_none {w w' : World} (h : w.grownBy w' none) : Below w.heap.size w w' := ⟨h.os, h.tape, h.output, h.size, fun k hk => h.block k hk (by simp)⟩

theorem own_bools {B : Nat} {l : List Config} {v : Value} {w : World} (hl : l.length ≤ 5) (h : w.ownsRow B 4 1 v l.length (madeCells (Value.bool false).cells (l.length * 1)).toList) : OwnD B l v w := by
  have e : ∀ n, n ≤ 5 → (madeCells (Value.bool false).cells (n * 1)).toList = List.replicate n (.bool false) := by
    intro n hn
    obtain rfl | rfl | rfl | rfl | rfl | rfl : n = 0 ∨ n = 1 ∨ n = 2 ∨ n = 3 ∨ n = 4 ∨ n = 5 := by omega
    all_goals kernel_rfl
  have e2 : (l.map (fun _ => false)).map Value.bool = List.replicate l.length (.bool false) := by
    rw [List.map_map]
    exact List.map_const'
  unfold OwnD
  rw [e2, ← e _ hl]
  exact h

def V38 (B : Nat) (l : List Config) (g c : Nat) (j : Nat) (v : Value) (w : World) : Prop :=
  match j with
  | 0 => v = .slice (some ⟨g, 0, none⟩) l.length c
  | 1 => OwnC B l v w
  | 2 => v = .slice (some ⟨g, 0, none⟩) l.length c
  | 3 => v = .int .i64 l.length
  | 4 => OwnD B l v w
  | 5 => ∃ va vd, v = .agg #[va, .slice none 0 0, vd, .slice none 0 0] ∧ OwnC B l va w ∧ OwnD B l vd w
  | 6 => ∃ t, v = .pointer (some ⟨t, 0, none⟩) ∧ TNew B l t w
  | _ => ∃ t, v = .pointer (some ⟨t, 0, none⟩) ∧ TNew B l t w
def V38S : List Nat := [17, 18, 19, 20, 21, 22, 23, 4]

theorem V38.below {B : Nat} {l : List Config} {g c j : Nat} {v : Value} {w w' : World} (h : V38 B l g c j v w) (hb : Below w.heap.size w w') : V38 B l g c j v w' := by
  have ht : ∀ {t}, TNew B l t w → TNew B l t w' := fun ⟨va, vd, h1, h2, h3, h4⟩ => ⟨va, vd, h1, (hb.block _ (Array.getElem?_eq_some_iff.1 h2).1).trans h2, own_below h3 hb, own_below h4 hb⟩
  unfold V38 at *
  split at h
  all_goals first
    | exact h
    | exact own_below h hb
    | (obtain ⟨va, vd, e1, e2, e3⟩ := h; exact ⟨va, vd, e1, own_below e2 hb, own_below e3 hb⟩)
    | (obtain ⟨t, e1, e2⟩ := h; exact ⟨t, e1, ht e2⟩)

theorem own_len_eq {w : World} {B : Nat} {e : TypeId} {s : Nat} {v : Value} {n m : Nat} {xs : List Value} (h : w.ownsRow B e s v n xs) (hm : n = m) : w.ownsRow B e s v m xs := hm ▸ h

theorem own_not_map {w : World} {B : Nat} {e : TypeId} {s : Nat} {v : Value} {n : Nat} {xs : List Value} (h : w.ownsRow B e s v n xs) {mb : Nat} (hm : ∃ es c, w.heap[mb]? = some (.map es c)) : some mb ≠ v.ownBlock := by
  obtain ⟨es, c, hm⟩ := hm
  intro he
  rcases h.2 with ⟨e1, _⟩ | ⟨g', cap, cur, e1, _, e3, _⟩
  · rw [e1] at he
    cases he
  · rw [e1] at he
    injection he with he
    have he : mb = g' := he
    subst he
    rw [hm] at e3
    injection e3 with e3
    cases e3

theorem TownR.kept {B : Nat} {w w' : World} {t : Nat} {va vn vd vw : Value} {bs : List (Nat × Value)} {T : Hw.Town} (h : TownR B w t va vn vd vw bs T) (hk : ∀ (k : Nat) (c : Array Value) (u : TypeId), w.heap[k]? = some (.cells c u (0, 0)) → w'.heap[k]? = w.heap[k]?) : TownR B w' t va vn vd vw bs T := by
  refine ⟨h.base, (hk t _ 156 h.blk).trans h.blk, own_typed h.all fun k c _ hc => hk k c 62 hc, own_typed h.ptrs fun k c _ hc => hk k c 45 hc, own_typed h.dead fun k c _ hc => hk k c 4 hc, own_typed h.way fun k c _ hc => hk k c 9 hc, h.nodes.keep fun p n _ hn => ?_⟩
  obtain ⟨vp, e1, e2, e3⟩ := hn
  exact ⟨vp, (hk _ _ 145 e1).trans e1, e2.typed fun k c u _ hc => hk k c u hc, own_typed e3 fun k c _ hc => hk k c 85 hc⟩

theorem cells_mapped {w w' : World} {mb : Nat} (hm : ∃ es c, w.heap[mb]? = some (.map es c)) (hg : w.grownBy w' (some mb)) : ∀ (k : Nat) (c : Array Value) (u : TypeId), w.heap[k]? = some (.cells c u (0, 0)) → w'.heap[k]? = w.heap[k]? := by
  obtain ⟨es, c, hk⟩ := hm
  intro q cs u hq
  refine hg.block q (Array.getElem?_eq_some_iff.1 hq).1 fun he => ?_
  injection he with he
  subst he
  rw [hk] at hq
  injection hq with hq
  cases hq

/-- One node more. -/
theorem TownR.putPtrs {B : Nat} {w w' : World} {t : Nat} {va vn vd vw : Value} {bs : List (Nat × Value)} {T : Hw.Town} (h : TownR B w t va vn vd vw bs T) (hk : ∀ (k : Nat) (c : Array Value) (u : TypeId), u ≠ 45 → w.heap[k]? = some (.cells c u (0, 0)) → w'.heap[k]? = w.heap[k]?)
    {v : Value} {b : Nat} {n : Hw.Node} (ho : w'.ownsRow B 45 1 v (T.nodes.length + 1) (bs.map nodePtr ++ [.pointer (some ⟨b, 0, none⟩)])) (hn : NodeAt w b (.slice none 0 0) n) (hB : B ≤ b) (hne : ∀ p ∈ bs, p.1 ≠ b) :
    TownR B (w'.setCell ⟨t, 1, none⟩ v) t va v vd vw (bs ++ [(b, .slice none 0 0)]) { T with nodes := T.nodes ++ [n] } := by
  have hb : w'.heap[t]? = some (.cells #[va, vn, vd, vw] 156 (0, 0)) := (hk t _ 156 (by decide) h.blk).trans h.blk
  have hk2 : ∀ (k : Nat) (c : Array Value) (u : TypeId), u ≠ 45 → u ≠ 156 → w.heap[k]? = some (.cells c u (0, 0)) → (w'.setCell ⟨t, 1, none⟩ v).heap[k]? = w.heap[k]? := fun k c u h1 h3 hc =>
    (heap_setCell_other _ _ _ _ (cells_ne ((hk k c u h1 hc).trans hc) hb h3)).trans (hk k c u h1 hc)
  have hkn : ∀ {b : Nat} {vs : Value} {n : Hw.Node}, NodeAt w b vs n → NodeAt (w'.setCell ⟨t, 1, none⟩ v) b vs n := fun hn => by
    obtain ⟨vp, e1, e2, e3⟩ := hn
    exact ⟨vp, (hk2 _ _ 145 (by decide) (by decide) e1).trans e1, e2.typed fun k c u hu hc => hk2 k c u (by rcases hu with e | e <;> rw [e] <;> decide) (by rcases hu with e | e <;> rw [e] <;> decide) hc, own_typed e3 fun k c _ hc => hk2 k c 85 (by decide) (by decide) hc⟩
  refine ⟨h.base, heap_set v hb, own_typed h.all fun k c _ hc => hk2 k c 62 (by decide) (by decide) hc, ?_, own_typed h.dead fun k c _ hc => hk2 k c 4 (by decide) (by decide) hc, own_typed h.way fun k c _ hc => hk2 k c 9 (by decide) (by decide) hc, ?_⟩
  · have e : (bs ++ [(b, (Value.slice none 0 0))]).map nodePtr = bs.map nodePtr ++ [.pointer (some ⟨b, 0, none⟩)] := by simp [nodePtr]
    rw [e]
    show World.ownsRow _ _ _ _ _ (T.nodes ++ [n]).length _
    rw [List.length_append]
    exact own_typed ho fun k c _ hc => heap_setCell_other _ _ _ _ (cells_ne hc hb (by decide))
  · have hl := h.nodes.len
    refine ⟨by simp [hl], fun k p m hp hm => ?_, fun i j p q hij hp hq => ?_⟩
    · rcases Nat.lt_or_ge k bs.length with hkl | hkl
      · rw [List.getElem?_append_left hkl] at hp
        rw [List.getElem?_append_left (by omega)] at hm
        obtain ⟨h1, h2⟩ := h.nodes.here k p m hp hm
        exact ⟨h1, hkn h2⟩
      · rw [List.getElem?_append_right hkl] at hp
        rw [List.getElem?_append_right (by omega)] at hm
        have hk0 : k - bs.length = 0 := by
          have := (List.getElem?_eq_some_iff.1 hp).1
          simp at this
          omega
        rw [hk0] at hp
        rw [← hl, hk0] at hm
        injection hp with hp
        injection hm with hm
        subst hp hm
        exact ⟨hB, hkn hn⟩
    · have key : ∀ (i : Nat) (p : Nat × Value), (bs ++ [(b, (Value.slice none 0 0))])[i]? = some p → (i < bs.length ∧ bs[i]? = some p) ∨ (i = bs.length ∧ p = (b, .slice none 0 0)) := fun i p hp => by
        rcases Nat.lt_or_ge i bs.length with hil | hil
        · rw [List.getElem?_append_left hil] at hp
          exact .inl ⟨hil, hp⟩
        · rw [List.getElem?_append_right hil] at hp
          have hi0 : i - bs.length = 0 := by
            have := (List.getElem?_eq_some_iff.1 hp).1
            simp at this
            omega
          rw [hi0] at hp
          injection hp with hp
          exact .inr ⟨by omega, hp.symm⟩
      rcases key i p hp with ⟨-, hp⟩ | ⟨hi, rfl⟩
      · rcases key j q hq with ⟨-, hq⟩ | ⟨hj, rfl⟩
        · exact h.nodes.ne i j p q hij hp hq
        · exact ⟨hne p (List.mem_of_getElem? hp), fun x _ hx => by cases hx⟩
      · rcases key j q hq with ⟨-, hq⟩ | ⟨hj, rfl⟩
        · exact ⟨fun e => hne q (List.mem_of_getElem? hq) e.symm, fun x hx => by cases hx⟩
        · omega

/-- A node of the town that watches more. -/
theorem TownV.watched {B : Nat} {w w' : World} {t : Nat} {va vn vd vw : Value} {bs : List (Nat × Value)} {T : Hw.Town} (h : TownV B w t va vn vd vw bs T) {k : Nat} (hk : k < T.nodes.length) {p : Nat × Value} (hp : bs[k]? = some p) {n' : Hw.Node}
    (hn : NodeAt w' p.1 p.2 n') (ht : Touch (fun q => q = p.1) w w') : TownV B w' t va vn vd vw bs (withNode T k n') ∧ TStep B w w' := by
  have := h.step hk hp hn (VsTo.refl _ _) (ht.mono fun _ _ e => .inl e)
  have e : bs.set k (p.1, p.2) = bs := by
    apply List.ext_getElem?
    intro j
    by_cases hj : j = k
    · subst hj
      rw [List.getElem?_set_self (List.getElem?_eq_some_iff.1 hp).1, hp]
    · rw [List.getElem?_set_ne (Ne.symm hj)]
  rwa [e] at this

/-- The town whose first i nodes watch the others, and node i so many of them. -/
def townMid (l : List Config) (i : Nat) (c : Config) (k : Nat) : Hw.Town := withNode (townTo l i) i (watchTo l i c k)

theorem townTo_len (l : List Config) (i : Nat) : (townTo l i).nodes.length = l.length := by simp [townTo]
theorem townTo_get (l : List Config) (i j : Nat) (h : j < l.length) : (townTo l i).nodes[j]? = some (if j < i then watchTo l j l[j] l.length else newNode l[j]) := by simp [townTo, h]

theorem townMid_zero (l : List Config) (i : Nat) (h : i < l.length) : townMid l i l[i] 0 = townTo l i := by
  have e : (townTo l i).nodes.set i (newNode l[i]) = (townTo l i).nodes := by
    apply List.ext_getElem?
    intro j
    by_cases hj : j = i
    · subst hj
      rw [List.getElem?_set_self (by rw [townTo_len]; exact h), townTo_get l j j h, if_neg (by omega)]
    · rw [List.getElem?_set_ne (Ne.symm hj)]
  show ({ townTo l i with nodes := (townTo l i).nodes.set i (newNode l[i]) } : Hw.Town) = _
  rw [e]

theorem townMid_all (l : List Config) (i : Nat) (h : i < l.length) : townMid l i l[i] l.length = townTo l (i + 1) := by
  have e : (townTo l i).nodes.set i (watchTo l i l[i] l.length) = (townTo l (i + 1)).nodes := by
    apply List.ext_getElem?
    intro j
    by_cases hj : j = i
    · subst hj
      rw [List.getElem?_set_self (by rw [townTo_len]; exact h), townTo_get l (j + 1) j h, if_pos (by omega)]
    · rw [List.getElem?_set_ne (Ne.symm hj)]
      rcases Nat.lt_or_ge j l.length with hjl | hjl
      · rw [townTo_get l i j hjl, townTo_get l (i + 1) j hjl]
        congr 1
        by_cases hji : j < i
        · rw [if_pos hji, if_pos (by omega)]
        · rw [if_neg hji, if_neg (by omega)]
      · rw [List.getElem?_eq_none (by rw [townTo_len]; exact hjl), List.getElem?_eq_none (by rw [townTo_len]; exact hjl)]
  show ({ townTo l i with nodes := (townTo l i).nodes.set i (watchTo l i l[i] l.length) } : Hw.Town) = _
  rw [e]
  rfl

theorem townMid_get (l : List Config) (i : Nat) (c : Config) (k : Nat) (h : i < l.length) : (townMid l i c k).nodes[i]? = some (watchTo l i c k) := by
  show ((townTo l i).nodes.set i _)[i]? = _
  rw [List.getElem?_set_self (by rw [townTo_len]; exact h)]

theorem townMid_len (l : List Config) (i : Nat) (c : Config) (k : Nat) : (townMid l i c k).nodes.length = l.length := by
  show ((townTo l i).nodes.set i _).length = _
  rw [List.length_set, townTo_len]

theorem townMid_self (l : List Config) (i : Nat) (c : Config) (h : i < l.length) : townMid l i c (i + 1) = townMid l i c i := by
  have e : watchTo l i c (i + 1) = watchTo l i c i := by
    show (match l[i]? with
      | some d => if i = i then watchTo l i c i else _
      | none => _) = _
    rw [List.getElem?_eq_getElem h]
    simp
  unfold townMid
  rw [e]

theorem townMid_next (l : List Config) (i : Nat) (c : Config) (k : Nat) (h : k < l.length) (hk : k ≠ i) : withNode (townMid l i c k) i (watch (watchTo l i c k) (l[k]).id (l[k]).every).1 = townMid l i c (k + 1) := by
  have e : watchTo l i c (k + 1) = (watch (watchTo l i c k) (l[k]).id (l[k]).every).1 := by
    show (match l[k]? with
      | some d => if k = i then watchTo l i c k else (watch (watchTo l i c k) d.id d.every).1
      | none => _) = _
    rw [List.getElem?_eq_getElem h]
    simp [hk]
  unfold townMid withNode
  rw [e]
  simp

set_option maxRecDepth 100000 in
set_option maxHeartbeats 4000000 in
theorem townnew_any (g c : Nat) (l : List Config) (w : World) (h : w.ownsRow 0 62 5 (.slice (some ⟨g, 0, none⟩) l.length c) l.length (confsCells l)) (hl : l.length ≤ 5) (h1 : 1 ≤ l.length) (hc : ∀ x ∈ l, configCheck x = 0) (hs : ∀ x ∈ l, x.id.size ≤ 100) (hd : l.Pairwise fun a b => a.id ≠ b.id) :
    Calls Try.prog 38 #[.slice (some ⟨g, 0, none⟩) l.length c] w fun e w' => (∃ t, e = .returned (.tuple #[.pointer (some ⟨t, 0, none⟩), .int .i64 0]) ∧ TownAt w.heap.size w' t (newTown l)) ∧ Below w.heap.size w w' := by
  have HR := Lib.hid h
  have HC := Lib.hid hc
  have HS := Lib.hid hs
  have HD := Lib.hid hd
  obtain ⟨i4, hi4, hz4, hy4, hby4⟩ := info_parts info4
  have hm5 : ¬ (5 : Int) < (l.length : Int) := by omega
  clear h hc hs hd
  go_enter Try.func38, Try.ntmps38
  go_wp2_with fail
  refine wp_region_lit (V38 w.heap.size l g c) (fun wx => Below w.heap.size w wx) V38S (by kernel_rfl) (by rfl) (by kernel_rfl)
    (fun j v wx wy _ h hb => h.below hb) (Below.refl _ _).drew ?hs ?hd
  case hs =>
    repeat (refine AllOps.cons ?_ ?_; focus (
      intro a wx hC hk hv K hK
      have h0 := hk 0 (by decide)
      have HC' := Lib.hid hC
      clear hk hC
      simp [Region.binds, V38, V38S] at hv h0
      first
        | (go_simp; exact hK _ _ HC'.out (Below.refl _ _) rfl)
        | (go_simp; exact hK _ _ HC'.out (Below.refl _ _) hv)
        | (obtain ⟨tx, hv, ht⟩ := hv; go_simp; exact hK _ _ HC'.out (Below.refl _ _) ⟨tx, rfl, ht⟩)
        | (go_simp; refine (cloneconfs_any g c 0 l _ (own_below HR.out HC'.out) hl).mono ?_; rintro e w2 ⟨⟨vx, rfl, hox⟩, hb2⟩; exact hK _ _ (HC'.out.trans (hb2.mono HC'.out.size)) hb2 (own_base hox HC'.out.size))
        | (obtain ⟨w2, hr2, ho2, hg2⟩ := run_makeSlice_full (P := Try.prog) (w := wx) w.heap.size 153 4 i4 _ 1 Try.underlying153 hi4 hz4 hy4 .i64 .i64 l.length (by omega) (by rw [hby4]; omega) (by simp only [maxLen]; omega) HC'.out.size
           go_simp
           exact hK _ _ (HC'.out.trans ((below_none hg2).mono HC'.out.size)) (below_none hg2) (own_bools hl ho2))
        | (obtain ⟨hv1, hv2⟩ := hv
           obtain ⟨A1, c1, e1, -⟩ := own_form (show wx.ownsRow _ 62 5 _ _ _ from hv1)
           obtain ⟨A2, c2, e2, -⟩ := own_form (show wx.ownsRow _ 4 1 _ _ _ from hv2)
           rw [e1] at hv1
           rw [e2] at hv2
           have HV1 := Lib.hid hv1
           have HV2 := Lib.hid hv2
           clear hv1 hv2
           go_simp
           exact hK _ _ HC'.out (Below.refl _ _) ⟨_, _, rfl, HV1.out, HV2.out⟩)
        | (obtain ⟨va, vd, hv, o1, o2⟩ := hv
           have O1 := Lib.hid o1
           have O2 := Lib.hid o2
           clear o1 o2
           go_simp
           exact hK _ _ (HC'.out.alloc HC'.out.size _) ((Below.refl _ _).alloc (Nat.le_refl _) _) ⟨_, rfl, va, vd, HC'.out.size, heap_alloc_new _ _, own_below O1.out ((Below.refl _ _).alloc (Nat.le_refl _) _), own_below O2.out ((Below.refl _ _).alloc (Nat.le_refl _) _)⟩)
        | (obtain ⟨⟨tx, hv, ht⟩, -⟩ := hv
           have HT := Lib.hid ht
           clear ht
           go_simp
           exact hK _ _ HC'.out (Below.refl _ _) ⟨tx, rfl, HT.out⟩)))
    exact AllOps.nil
  case hd =>
    intro us w2 hC hv
    obtain ⟨t, et, htn⟩ : ∃ t, us 7 = .pointer (some ⟨t, 0, none⟩) ∧ TNew w.heap.size l t w2 := hv 7 (by decide)
    have HC2 := Lib.hid hC
    have HT2 := Lib.hid htn
    simp only [setAll, V38S, List.setIfInBounds_toArray, List.set_cons_zero, List.set_cons_succ, et]
    clear hv hC htn
    have hmm := @run_makeMap Try.prog
    go_wp2_with fail
    obtain ⟨va, vd, hBt, hblk, hva, hvd⟩ := HT2.out
    have hr0 : TownR w.heap.size w2 t va (.slice none 0 0) vd (.slice none 0 0) [] ⟨l, (l.take 0).map newNode, l.map (fun _ => false), []⟩ :=
      ⟨hBt, hblk, hva, World.ownsRow_nil _ _ _ _, by show w2.ownsRow _ _ _ _ (l.map (fun _ => false)).length _; rw [List.length_map]; exact hvd, World.ownsRow_nil _ _ _ _, ⟨rfl, fun k p n hp => by simp at hp, fun i j p q _ hp => by simp at hp⟩⟩
    have HR0 := Lib.hid (hr0.below ((Below.refl w2.heap.size w2).alloc (Nat.le_refl _) (.map #[] 0)))
    have HB0 := Lib.hid (HC2.out.alloc HC2.out.size (.map #[] 0))
    have HM0 := Lib.hid (MapV.made 9 4 (.bool false) w2)
    have hmb : w.heap.size ≤ w2.heap.size := HC2.out.size
    have htm : t < w2.heap.size := (Array.getElem?_eq_some_iff.1 hblk).1
    clear hr0 hblk hva hvd
    generalize hmbe : w2.heap.size = mb at HM0 hmb htm ⊢
    clear hmbe
    obtain ⟨i45, hi45, hz45, hy45, hb45⟩ := info_parts info45
    go_loopw [27] (fun i wq => ∃ k : Nat, k ≤ l.length ∧ i = .int .i64 k ∧ Hid (Below w.heap.size w wq) ∧ Hid (∃ vn bs, TownR w.heap.size wq t va vn vd (.slice none 0 0) bs ⟨l, (l.take k).map newNode, l.map (fun _ => false), []⟩) ∧
      Hid (∃ m F, MapV 9 4 (.bool false) wq mb m F ∧ m ≤ k ∧ ∀ j (h : j < l.length), k ≤ j → F (.string (l[j]).id) = .bool false)) (fun i _ => l.length - (intOf i).toNat)
    case atStart => exact ⟨0, by omega, rfl, HB0.out, ⟨_, _, HR0.out⟩, _, _, HM0.out, by omega, fun _ _ _ => rfl⟩
    case round =>
      obtain ⟨k, hk, rfl, HB, HRk, HMk⟩ := hrel
      by_cases hlt : k < l.length
      · obtain ⟨vn, bs, hRk⟩ := HRk.out
        obtain ⟨m, F, hM, hmk, hF⟩ := HMk.out
        have hki : (k : Int) < (l.length : Int) := by omega
        have hk0 : (0 : Int) ≤ (k : Int) := by omega
        have hkw : IntKind.i64.wrap ((k : Int) + 1) = (k : Int) + 1 := IntWalk.i64_in _ (by omega)
        have hcell : ∀ j u, j < 5 → (confCells l[k])[j]? = some u → wr.cell? ⟨g, k * 5 + j, none⟩ = some u := fun j u hj hu => by
          have h := HR.out.cells (g := g) rfl (k * 5 + j) u (by rw [confsCells_get l k j hlt hj]; exact hu)
          rw [add_lit, Nat.zero_add] at h
          exact bsome HB.out h
        have x0 := hcell 0 _ (by omega) rfl
        have x1 := hcell 1 _ (by omega) rfl
        have x2 := hcell 2 _ (by omega) rfl
        have x3 := hcell 3 _ (by omega) rfl
        have x4 := hcell 4 _ (by omega) rfl
        rw [Nat.add_zero] at x0
        have hck := HC.out l[k] (List.getElem_mem hlt)
        have hsz := HS.out l[k] (List.getElem_mem hlt)
        have hFk := hF k hlt (Nat.le_refl _)
        have hdist : ∀ j (h : j < l.length), k + 1 ≤ j → (l[j]).id ≠ (l[k]).id := fun j h hj e => List.pairwise_iff_getElem.1 HD.out k j hlt h (by omega) e.symm
        have htake : (l.take (k + 1)).map newNode = (l.take k).map newNode ++ [newNode l[k]] := by rw [List.take_succ_eq_append_getElem hlt, List.map_append]; rfl
        have hTl : ((l.take k).map newNode).length = k := by simp; omega
        have hF2 : ∀ F2 : Value → Lit, (∀ v, v ≠ .string (l[k]).id → F2 v = F v) → ∀ j (h : j < l.length), k + 1 ≤ j → F2 (.string (l[j]).id) = .bool false := fun F2 h2 j h hj => by
          rw [h2 _ (fun e => hdist j h hj (by injection e)), hF j h (by omega)]
        have hgl := blt x0
        have htb : t < wr.heap.size := (Array.getElem?_eq_some_iff.1 hRk.blk).1
        have HM := Lib.hid hM
        have HF := Lib.hid hFk
        have HF2 := Lib.hid hF2
        have HTk := Lib.hid htake
        have HRk' := Lib.hid hRk
        have HTl := Lib.hid hTl
        have HCk := Lib.hid hck
        clear hRk hM hF hcell hFk hdist htake hTl hF2 hck
        generalize hcc : l[k] = cf at x0 x1 x2 x3 x4 hsz HF HF2 HTk HCk
        clear hcc
        obtain ⟨id, inc, every, cap, least⟩ := cf
        simp only at x0 x1 x2 x3 x4 hsz
        have hX := heap_alloc_new wr (.cells #[.string id, .int .i64 inc, .int .i64 every, .int .i64 cap, .int .i64 least] 62)
        have HX := Lib.hid hX
        have HRa := Lib.hid (HRk'.out.below ((Below.refl wr.heap.size wr).alloc (Nat.le_refl _) (.cells #[.string id, .int .i64 inc, .int .i64 every, .int .i64 cap, .int .i64 least] 62)))
        have HMa := Lib.hid (HM.out.below ((Below.refl wr.heap.size wr).alloc (Nat.le_refl _) (.cells #[.string id, .int .i64 inc, .int .i64 every, .int .i64 cap, .int .i64 least] 62)))
        clear hX
        go_wp2_with (first
          | (go_at_call 93; refine (new_any ⟨id, inc, every, cap, least⟩ _ HCk.out).mono ?_; rintro e w4 ⟨⟨b, rfl, hb, hn⟩, hb4⟩; have hx := (hb4.block _ (Array.getElem?_eq_some_iff.1 HX.out).1).trans HX.out; have z0 := cell_of_row _ _ 0 _ 62 (0, 0) hx; simp at z0; have hzl := blt z0; have hM4 := HMa.out.below hb4; have hlook := hM4.look_bool strK Try.underlying157 Try.underlying4 (zero4 _) (strKey hsz) HF.out; obtain ⟨F2, f1, f2⟩ := upd_exists F (.string id) (.bool true); obtain ⟨w5, hr5, hM5, hg5⟩ := hM4.put strK Try.underlying157 (by unfold maxLen; omega) (strKey hsz) (plainElem_bool Try.underlying4 true) f1 f2; have hkm := cells_mapped hM4.block hg5; have hR5 := (HRa.out.below hb4).kept hkm; have hx5 := (hkm _ _ _ hx).trans hx; have y0 := cell_of_row _ _ 0 _ 62 (0, 0) hx5; simp at y0; have hyl := blt y0; have hp5 : w5.ownsRow w.heap.size 45 1 vn k (bs.map nodePtr) := own_len_eq hR5.ptrs HTl.out; obtain ⟨An, cn, evn, -⟩ := own_form hp5; subst evn; have HP5 := Lib.hid hp5; have q1 := cell_of_row _ _ 1 _ 156 (0, 0) hR5.blk; simp at q1; have hql := blt q1; have HM5 := Lib.hid hM5; have HR5 := Lib.hid hR5; have HN5 := Lib.hid (hn.mapped hM4.block hg5); have HB5 := Lib.hid (below_mapped ((HB.out.alloc HB.out.size _).trans (hb4.mono (Nat.le_trans HB.out.size (by simp)))) hmb hg5 (Nat.le_trans HB.out.size (Nat.le_trans (by simp) hb4.size))); have HF3 := Lib.hid (HF2.out F2 f2); have HBn := Lib.hid hb; clear hx hM4 hM5 hg5 hkm hR5 hx5 hb4 hn hb f1 f2 hp5)
          | (at_builtin; refine wpList_append_src (by rfl) (.tmp 50) (.tmp 52) 154 (by rfl) w.heap.size 45 i45 _ 1 8 Try.underlying154 hi45 hz45 hy45 hb45 (by rfl) (by omega) _ _ _ (by rfl) (own_below HP5.out ((Below.refl _ _).alloc (Nat.le_refl _) _)) (some ⟨w5.heap.size, 0, none⟩) 1 1 [.pointer (some ⟨b, 0, none⟩)] (by rfl) (by rfl) (by simp) ?b0 (by simp [Value.oneCell']) ?b1 ?b2 ?b3 ?_; (case b0 => (intro ad ha j u hu; injection ha with ha; subst ha; exact news_new w5 _ 45 j u hu)); (case b1 => (simp only [maxLen]; omega)); (case b2 => omega); (case b3 => exact Nat.le_trans HB5.out.size (by simp)); intro v9 w9 ho9 hg9 _; obtain ⟨A9, c9, rfl, -⟩ := own_form ho9; have hR6 := HR5.out.below ((Below.refl _ _).alloc (Nat.le_refl _) (.cells #[.pointer (some ⟨b, 0, none⟩)] 45)); have hgc := grown_cells (own_below HP5.out ((Below.refl _ _).alloc (Nat.le_refl _) (.cells #[.pointer (some ⟨b, 0, none⟩)] 45))) hg9; have hb9 := (hgc t _ 156 (by decide) hR6.blk).trans hR6.blk; have q9 := cell_of_row _ _ 1 _ 156 (0, 0) hb9; have f9 := frozen_of_row _ _ 1 _ 156 hb9; simp at q9; have hl9 := blt q9; have HO9 := Lib.hid ho9; have HG9 := Lib.hid hg9; have HR6 := Lib.hid hR6; have HGc := Lib.hid hgc; clear ho9 hg9 hR6 hgc hb9)
          | fail)
        have hne : ∀ p ∈ bs, p.1 ≠ b := fun p hp e => by
          obtain ⟨j, hj, hpe⟩ := List.mem_iff_getElem.1 hp
          have hj2 : j < ((l.take k).map newNode).length := by have := HRk'.out.nodes.len; exact this ▸ hj
          have h2 := (HRk'.out.nodes.here j p ((l.take k).map newNode)[j] (by rw [← hpe]; exact List.getElem?_eq_getElem hj) (List.getElem?_eq_getElem hj2)).2.lt
          have h3 := HBn.out
          simp at h3
          omega
        have hput := HR6.out.putPtrs HGc.out (b := b) (n := newNode ⟨id, inc, every, cap, least⟩) (by show w9.ownsRow _ _ _ _ (((l.take k).map newNode).length + 1) _; rw [HTl.out]; exact HO9.out) (HN5.out.below ((Below.refl _ _).alloc (Nat.le_refl _) _)) (by have h3 := HBn.out; have h4 := HB.out.size; simp at h3; omega) hne
        have HPut := Lib.hid hput
        have hB8 := ((HB5.out.alloc HB5.out.size (.cells #[.pointer (some ⟨b, 0, none⟩)] 45)).grown HG9.out (Nat.le_trans HB5.out.size (by simp)) (fun q hq => ((own_below HP5.out ((Below.refl _ _).alloc (Nat.le_refl _) (.cells #[.pointer (some ⟨b, 0, none⟩)] 45))).lt q hq).1))
        have hB9 : Below w.heap.size w (w9.setCell ⟨t, 1, none⟩ (.slice A9 (k + 1) c9)) := hB8.setCell (by exact hBt) _
        have hM6 := HM5.out.below ((Below.refl _ _).alloc (Nat.le_refl _) (.cells #[.pointer (some ⟨b, 0, none⟩)] 45))
        have hM9 := (hM6.heap (HG9.out.block mb hM6.lt (own_not_map (own_below HP5.out ((Below.refl _ _).alloc (Nat.le_refl _) (.cells #[.pointer (some ⟨b, 0, none⟩)] 45))) hM6.block))).heap (w' := w9.setCell ⟨t, 1, none⟩ (.slice A9 (k + 1) c9)) (heap_setCell_other _ _ _ _ (by show mb ≠ t; omega))
        have HM9 := Lib.hid hM9
        have hTk := HTk.out
        clear hB8 hM6 hM9
        have HB9 := Lib.hid hB9
        rw [← hTk] at HPut
        clear hput hB9 hne hTk
        go_roundw
        case rel =>
          (repeat apply Exists.intro)
          exact ⟨⟨k + 1, by omega, by go_num, HB9.out, ⟨_, _, HPut.out⟩, m + 1, F2, HM9.out, by omega, HF3.out⟩, rfl⟩
        case measure => simp [intOf]; omega
      · have hki : ¬ (k : Int) < (l.length : Int) := by omega
        have hkn : k = l.length := by omega
        subst hkn
        obtain ⟨vn, bs, hRk⟩ := HRk.out
        have hTw : TownR w.heap.size wr t va vn vd (.slice none 0 0) bs (townTo l 0) := by
          have e : (⟨l, (l.take l.length).map newNode, l.map (fun _ => false), []⟩ : Hw.Town) = townTo l 0 := by
            unfold townTo
            rw [List.take_length]
            congr 1
            apply List.ext_getElem?
            intro j
            simp
          rw [← e]
          exact hRk
        have hTv : TownV w.heap.size wr t va vn vd (.slice none 0 0) bs (townTo l 0) := ⟨hTw, by simp [townTo], by simp [townTo]⟩
        obtain ⟨An, cn, evn, -⟩ := own_form (own_len_eq hTw.ptrs (townTo_len l 0))
        subst evn
        have q1 := cell_of_row _ _ 1 _ 156 (0, 0) hTw.blk
        simp at q1
        have hql := blt q1
        have HTv := Lib.hid hTv
        have hgl : g < w.heap.size := by
          have h := HR.out.cells (g := g) rfl 0 _ (by rw [show (0 : Nat) = 0 * 5 + 0 from rfl, confsCells_get l 0 0 (by omega) (by omega)]; rfl)
          rw [add_lit] at h
          exact blt h
        clear hRk hTw hTv
        go_wp2_with fail
        go_loopw [62] (fun i wq => ∃ k : Nat, k ≤ l.length ∧ i = .int .i64 k ∧ Hid (Below w.heap.size w wq) ∧ Hid (TownV w.heap.size wq t va (.slice An l.length cn) vd (.slice none 0 0) bs (townTo l k))) (fun i _ => l.length - (intOf i).toNat)
        case atStart => exact ⟨0, by omega, rfl, HB.out, HTv.out⟩
        case round =>
          obtain ⟨k, hk, rfl, HB1, HT1⟩ := hrel
          by_cases hlt : k < l.length
          · have hki : (k : Int) < (l.length : Int) := by omega
            have hk0 : (0 : Int) ≤ (k : Int) := by omega
            have hkw : IntKind.i64.wrap ((k : Int) + 1) = (k : Int) + 1 := IntWalk.i64_in _ (by omega)
            obtain ⟨p, A, c0, e1, hp, hbp, -, -⟩ := HT1.out.node (k := k) (by rw [townTo_len]; exact hlt)
            injection e1 with e1 e1l e1'
            clear e1l
            subst e1 e1'
            have hpl := blt hp
            have HP := Lib.hid hbp
            have hm0 : TownV w.heap.size wr t va (.slice (some ⟨A, 0, none⟩) l.length cn) vd (.slice none 0 0) bs (townMid l k l[k] 0) := by rw [townMid_zero l k hlt]; exact HT1.out
            have HM0 := Lib.hid hm0
            clear hbp hm0
            go_wp2_with fail
            go_loopw [69] (fun i wq => ∃ j : Nat, j ≤ l.length ∧ i = .int .i64 j ∧ Hid (Below w.heap.size w wq) ∧ Hid (TownV w.heap.size wq t va (.slice (some ⟨A, 0, none⟩) l.length cn) vd (.slice none 0 0) bs (townMid l k l[k] j))) (fun i _ => l.length - (intOf i).toNat)
            case atStart => exact ⟨0, by omega, rfl, HB1.out, HM0.out⟩
            case round =>
              obtain ⟨j, hj, rfl, HB2, HT2'⟩ := hrel
              by_cases hjt : j < l.length
              · have hji : (j : Int) < (l.length : Int) := by omega
                have hj0 : (0 : Int) ≤ (j : Int) := by omega
                have hjw : IntKind.i64.wrap ((j : Int) + 1) = (j : Int) + 1 := IntWalk.i64_in _ (by omega)
                have hcell : ∀ i u, i < 5 → (confCells l[j])[i]? = some u → wr.cell? ⟨g, j * 5 + i, none⟩ = some u := fun i u hi hu => by
                  have h := HR.out.cells (g := g) rfl (j * 5 + i) u (by rw [confsCells_get l j i hjt hi]; exact hu)
                  rw [add_lit, Nat.zero_add] at h
                  exact bsome HB2.out h
                have x0 := hcell 0 _ (by omega) rfl
                have x1 := hcell 1 _ (by omega) rfl
                have x2 := hcell 2 _ (by omega) rfl
                have x3 := hcell 3 _ (by omega) rfl
                have x4 := hcell 4 _ (by omega) rfl
                rw [Nat.add_zero] at x0
                have hgl2 := blt x0
                have hHa := HB2.out.alloc HB2.out.size (.cells #[.string (l[j]).id, .int .i64 (l[j]).inc, .int .i64 (l[j]).every, .int .i64 (l[j]).cap, .int .i64 (l[j]).least] 62)
                have hTa := HT2'.out.below ((Below.refl wr.heap.size wr).alloc (Nat.le_refl _) (.cells #[.string (l[j]).id, .int .i64 (l[j]).inc, .int .i64 (l[j]).every, .int .i64 (l[j]).cap, .int .i64 (l[j]).least] 62))
                have HHa := Lib.hid hHa
                have HTa := Lib.hid hTa
                clear hcell hHa hTa
                by_cases hjk : j = k
                · have hself : townMid l k l[k] (j + 1) = townMid l k l[k] j := by subst hjk; exact townMid_self l j l[j] hlt
                  subst hjk
                  have HSelf := Lib.hid hself
                  clear hself
                  go_wp2_with fail
                  go_roundw
                  case rel => exact ⟨j + 1, by omega, by go_num, HHa.out, by rw [HSelf.out]; exact HTa.out⟩
                  case measure => simp [intOf]; omega
                · have hjk2 : ¬ (j : Int) = (k : Int) := by omega
                  have hnx := townMid_next l k l[k] j hjt hjk
                  have hgt := townMid_get l k l[k] j hlt
                  have hln := townMid_len l k l[k] j
                  have HNx := Lib.hid hnx
                  obtain ⟨-, hnd⟩ := HTa.out.nodes.here k p _ HP.out hgt
                  have HNd := Lib.hid hnd
                  have HLn := Lib.hid hln
                  clear hnx hgt hnd hln
                  generalize hcc : l[j] = cf at x0 x1 x2 x3 x4 HHa HTa HNx HNd
                  clear hcc
                  obtain ⟨id, inc, every, cap, least⟩ := cf
                  simp only at x0 x1 x2 x3 x4
                  go_wp2_with (first
                    | (go_at_call 61; refine (watch_any p.1 p.2 (watchTo l k l[k] j) id every _ HNd.out).mono ?_; rintro e w2x ⟨rfl, hn2, ht2⟩; have HS2 := Lib.hid (HTa.out.watched (by rw [HLn.out]; exact hlt) HP.out hn2 ht2); clear hn2 ht2)
                    | fail)
                  have hS2 := HS2.out
                  rw [HNx.out] at hS2
                  have HS3 := Lib.hid hS2
                  clear hS2
                  go_roundw
                  case rel => exact ⟨j + 1, by omega, by go_num, HHa.out.trans HS3.out.2.below, HS3.out.1⟩
                  case measure => simp [intOf]; omega
              · have hji : ¬ (j : Int) < (l.length : Int) := by omega
                have hjn : j = l.length := by omega
                subst hjn
                have hfin : TownV w.heap.size wr t va (.slice (some ⟨A, 0, none⟩) l.length cn) vd (.slice none 0 0) bs (townTo l (k + 1)) := by rw [← townMid_all l k hlt]; exact HT2'.out
                have HFin := Lib.hid hfin
                clear hfin
                go_wp2_with fail
                go_roundw
                case rel => exact ⟨k + 1, by omega, by go_num, HB2.out, HFin.out⟩
                case measure => simp [intOf]; omega
          · have hki : ¬ (k : Int) < (l.length : Int) := by omega
            have hkn : k = l.length := by omega
            subst hkn
            go_wp2_with fail
            go_ret2
            exact ⟨⟨_, rfl, ⟨_, _, _, _, _, HT1.out⟩⟩, HB1.out⟩

end Go.Proofs.Ytmclalhjnjghnaa
