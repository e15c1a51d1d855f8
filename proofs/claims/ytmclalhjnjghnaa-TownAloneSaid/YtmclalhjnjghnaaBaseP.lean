/- The contracts of slices.Clone for numbers, and of peers.Copied: a copy in new memory that holds the same. The contract of peers.Copied: peers in new memory that are as those that came. The contracts of strings.Compare and peers.find: where a name stands among peers in order. Laws on rows of cells in memory: the builtin copy over elements of any size, append of so many zeros, a row cut short. The contract of slices.Insert for one peer more. The contract of slices.Insert for one peer more, within a row that has room. The contract of slices.Insert for one peer more, wherever it is laid. Plain facts on peers that may be: in order, within their bounds. The contract of peers.Add. Laws on rows: append within the room, clear; and the contracts of slices.Delete of one element: peers, subs, strings. The contracts of slices.Delete of one element: peers, subs, strings. The contract of peers.Drop. The contract of win.Push. Laws for storing into one peer of a row of peers of the call's own. The contract of peers.Hear. Contracts of the comparisons: slices.Equal of numbers, SameWin, SamePeer, SamePeers: what reads alike is the same. Slices of strings: contracts of slices.Grow, Concat and Equal of them; and hwkeep.Within. -/
import Derived.Test.YtmclalhjnjghnaaBaseA
import Derived.Maps.AppendAt
import Derived.Lib.Bytealg
import Derived.Lib.AppendZerosOnto
import Derived.Lib.AppendZeros
import Derived.StillTailTactics
import Derived.Laws.CopyOwn
import Derived.Lib.Overlaps
import Derived.Deep.RegionHeld3
import Derived.Deep.DrawnRows
import Derived.Laws.OwnMore
import Derived.Deep.CutRange
import Derived.Deep.QuietTactic
import Derived.Laws.AppendOwnNone
namespace Go.Proofs.Ytmclalhjnjghnaa
open Go.RowKit Hw

theorem info3 : (Try.prog.info? 3).map (fun i => (i.zero, i.size, i.bytes)) = some (some (.int .i64 0), 1, 8) := by kernel_rfl
theorem info40 : (Try.prog.info? 40).map (fun i => (i.zero, i.size, i.bytes)) = some (some (.agg #[.string ByteArray.empty, .int .i64 0, .int .i64 0, .int .i64 0, .int .i64 0, .slice none 0 0, .int .i64 0]), 7, 80) := by kernel_rfl

abbrev ints (l : List Int) : List Value := l.map (.int .i64)

theorem ints_get (l : List Int) (j : Nat) (u : Value) (h : (ints l)[j]? = some u) : j < l.length ∧ u = .int .i64 (l.getD j 0) := by
  simp only [ints, List.getElem?_map, Option.map_eq_some_iff] at h
  obtain ⟨x, hx, rfl⟩ := h
  have hj := (List.getElem?_eq_some_iff.1 hx).1
  refine ⟨hj, ?_⟩
  rw [List.getD_eq_getElem?_getD, hx]; rfl

theorem ints_one (l : List Int) : ∀ u ∈ ints l, u.oneCell' = true := by
  intro u hu
  simp only [ints, List.mem_map] at hu
  obtain ⟨x, _, rfl⟩ := hu
  rfl

theorem add_lit (b o j : Nat) : (⟨b, o, none⟩ : Addr).add j = ⟨b, o + j, none⟩ := Addr.add_lit b o j

theorem Ints.news {w : World} {A : Option Addr} {xs : List Int} (h : Ints w A xs) (ad : Addr) (hA : A = some ad) :
    ∀ j u, (ints xs)[j]? = some u → w.cell? (ad.add j) = some u := by
  intro j u hu
  obtain ⟨hj, rfl⟩ := ints_get _ _ _ hu
  obtain ⟨b, off, e, hc⟩ := h (by omega)
  rw [hA] at e
  cases e
  rw [add_lit]
  exact hc j hj

/-- A row of numbers that the call owns reads as those. -/
theorem own_ints {w : World} {B : Nat} {A : Option Addr} {c : Nat} {xs : List Int} (h : w.ownsRow B 3 1 (.slice A xs.length c) xs.length (ints xs)) : Ints w A xs := by
  intro h0
  rcases h.2 with ⟨e, e2⟩ | ⟨g, cap, cur, e, _⟩
  · omega
  · injection e with e1 e2 e3
    subst e1
    refine ⟨g, 0, rfl, fun j hj => ?_⟩
    have := h.cells (g := g) rfl j (.int .i64 (xs.getD j 0)) (by
      simp [List.getD_eq_getElem?_getD, hj])
    rwa [add_lit] at this

theorem own_form {w : World} {B : Nat} {e : TypeId} {s : Nat} {v : Value} {n : Nat} {xs : List Value} (h : w.ownsRow B e s v n xs) : ∃ A c, v = .slice A n c ∧ n ≤ c ∧ (A = none → n = 0 ∧ c = 0) := by
  rcases h.2 with ⟨e, e2⟩ | ⟨g, cap, cur, e, _, _, h1, _⟩
  · exact ⟨none, 0, by rw [e, e2], by omega, fun _ => ⟨e2, rfl⟩⟩
  · exact ⟨_, cap, e, h1, fun h => by cases h⟩

theorem block_of_add (a : Addr) (n : Nat) : (a.add n).block = a.block := by unfold Addr.add; split <;> rfl

theorem news_below {w w' : World} (hb : Below w.heap.size w w') {ad : Addr} {news : List Value} (h : ∀ j u, news[j]? = some u → w.cell? (ad.add j) = some u) :
    ∀ j u, news[j]? = some u → w'.cell? (ad.add j) = some u := fun j u hu => (hb.cell (World.block_lt_of_cell? w _ (h j u hu))).trans (h j u hu)

set_option maxHeartbeats 400000 in
theorem clone_any (A : Option Addr) (c : Nat) (l : List Int) (w : World) (h : Ints w A l) (hl : l.length ≤ 17592186044416) :
    Calls Try.prog 78 #[.slice A l.length c] w fun e w' => (∃ v, e = .returned v ∧ w'.ownsRow w.heap.size 3 1 v l.length (ints l)) ∧ Below w.heap.size w w' := by
  obtain ⟨i0, hi0, hz0, hz1, hz2⟩ := info_parts info3
  have hnil := fun (W : World) (a : Option Addr) (n c : Nat) => Lib.run_eql_slice_nil (P := Try.prog) W 36 3 a n c 0 0 Try.underlying36
  rcases A with _ | ad
  · have hl0 : l = [] := by
      rcases l with _ | ⟨x, t⟩
      · rfl
      · obtain ⟨b, off, e, -⟩ := h (by simp)
        cases e
    subst hl0
    go_enter Try.func78, Try.ntmps78
    go_wp2_with fail
    go_ret
    exact ⟨⟨_, rfl, World.ownsRow_nil _ _ _ _⟩, Below.refl _ _⟩
  · have hn := h.news ad rfl
    have Hn := Lib.hid hn
    clear h hn
    go_enter Try.func78, Try.ntmps78
    go_wp2_with ((at_builtin; refine wpList_append_own _ rfl (.tmp 5) (.tmp 6) 36 rfl w.heap.size 3 i0 _ 1 8 Try.underlying36 hi0 hz0 hz1 hz2 rfl (by omega) (.slice (some ⟨w.heap.size, 0, none⟩) 0 0) 0 [] rfl (World.ownsRow_made w #[] 0 (Nat.le_refl _) (by simp) rfl) ad l.length c (ints l) rfl (by simp) (news_below ((Below.refl _ _).alloc (Nat.le_refl _) _) Hn.out) (ints_one l) (by simp only [maxLen]; omega) (by omega) (by simp) ?_; intro v' w1 hown hgrow _))
    go_ret
    exact ⟨⟨_, rfl, by simpa using hown⟩, ((Below.refl _ _).alloc (Nat.le_refl _) _).grown hgrow (by simp) (by simp [Value.ownBlock])⟩

end Go.Proofs.Ytmclalhjnjghnaa

namespace Go.Proofs.Ytmclalhjnjghnaa
open Go.RowKit Hw

theorem own_below {w w' : World} {B : Nat} {e : TypeId} {s : Nat} {v : Value} {n : Nat} {xs : List Value} (h : w.ownsRow B e s v n xs) (hb : Below w.heap.size w w') : w'.ownsRow B e s v n xs := by
  refine ⟨h.1, ?_⟩
  rcases h.2 with h2 | ⟨g, cap, cur, e1, e2, e3, r⟩
  · exact .inl h2
  · exact .inr ⟨g, cap, cur, e1, e2, (hb.block g (Array.getElem?_eq_some_iff.1 e3).1).trans e3, r⟩

theorem own_base {w : World} {B B' : Nat} {e : TypeId} {s : Nat} {v : Value} {n : Nat} {xs : List Value} (h : w.ownsRow B e s v n xs) (hB : B' ≤ B) : w.ownsRow B' e s v n xs := by
  refine ⟨h.1, ?_⟩
  rcases h.2 with h2 | ⟨g, cap, cur, e1, e2, r⟩
  · exact .inl h2
  · exact .inr ⟨g, cap, cur, e1, by omega, r⟩

/-- Rows of two element types share no block. -/
theorem own_ne {w : World} {B B' : Nat} {e e' : TypeId} {s s' : Nat} {v v' : Value} {n n' : Nat} {xs xs' : List Value} (h : w.ownsRow B e s v n xs) (h' : w.ownsRow B' e' s' v' n' xs') (hne : e ≠ e') :
    v.ownBlock = none ∨ v.ownBlock ≠ v'.ownBlock := by
  rcases h.2 with ⟨e1, _⟩ | ⟨g, cap, cur, e1, _, e3, _⟩
  · left; rw [e1]; rfl
  · right
    rcases h'.2 with ⟨f1, _⟩ | ⟨g', cap', cur', f1, _, f3, _⟩
    · rw [e1, f1]; simp [Value.ownBlock]
    · rw [e1, f1]
      simp only [Value.ownBlock, ne_eq, Option.some.injEq]
      rintro rfl
      rw [e3] at f3
      injection f3 with f3
      injection f3 with _ ht _
      exact hne ht

abbrev peerCells (p : Peer) (v : Value) : List Value :=
  [.string p.id, .int .i64 p.gate.inc, .int .i64 p.gate.seq, .int .i64 p.gate.drops, .int .i64 p.cap, v, .int .i64 p.last]

def cellsOf : List Peer → List Value → List Value
  | p :: l, v :: vs => peerCells p v ++ cellsOf l vs
  | _, _ => []

theorem cellsOf_snoc : ∀ (l : List Peer) (vs : List Value) (p : Peer) (v : Value), vs.length = l.length → cellsOf (l ++ [p]) (vs ++ [v]) = cellsOf l vs ++ peerCells p v
  | [], [], p, v, _ => by simp [cellsOf]
  | [], _ :: _, _, _, h => by simp at h
  | _ :: _, [], _, _, h => by simp at h
  | q :: l, u :: vs, p, v, h => by
    have ih := cellsOf_snoc l vs p v (by simpa using h)
    simp only [List.cons_append, cellsOf]
    rw [ih]
    rfl

theorem cellsOf_length : ∀ (l : List Peer) (vs : List Value), vs.length = l.length → (cellsOf l vs).length = l.length * 7
  | [], [], _ => rfl
  | [], _ :: _, h => by simp at h
  | _ :: _, [], h => by simp at h
  | q :: l, u :: vs, h => by
    have ih := cellsOf_length l vs (by simpa using h)
    simp only [cellsOf, List.length_append, ih, List.length_cons]
    simp; omega

theorem cellsOf_get : ∀ (l : List Peer) (vs : List Value) (k j : Nat) (h : vs.length = l.length) (hk : k < l.length) (_ : j < 7),
    (cellsOf l vs)[k * 7 + j]? = (peerCells l[k] (vs[k]'(by omega)))[j]?
  | [], _, k, j, _, hk, _ => by simp at hk
  | q :: l, [], _, _, h, _, _ => by simp at h
  | q :: l, u :: vs, 0, j, h, hk, hj => by
    simp only [cellsOf, List.getElem_cons_zero]
    rw [List.getElem?_append_left (by simp; omega)]
    simp
  | q :: l, u :: vs, k + 1, j, h, hk, hj => by
    have ih := cellsOf_get l vs k j (by simpa using h) (by simpa using hk) hj
    simp only [cellsOf, List.getElem_cons_succ]
    rw [List.getElem?_append_right (by simp; omega)]
    rw [← ih]
    congr 1
    simp; omega

/-- Peers in memory of the call's own: the row of the peers, and each one's row of values. -/
def OwnP (w : World) (B : Nat) (v : Value) (l : List Peer) : Prop :=
  ∃ vs : List Value, vs.length = l.length ∧ w.ownsRow B 40 7 v l.length (cellsOf l vs) ∧
    ∀ (k : Nat) (u : Value) (p : Peer), vs[k]? = some u → l[k]? = some p → w.ownsRow B 3 1 u p.vals.length (ints p.vals)

theorem OwnP.nil (w : World) (B : Nat) : OwnP w B (.slice none 0 0) [] := ⟨[], rfl, World.ownsRow_nil _ _ _ _, by simp⟩

theorem OwnP.below {w w' : World} {B : Nat} {v : Value} {l : List Peer} (h : OwnP w B v l) (hb : Below w.heap.size w w') : OwnP w' B v l := by
  obtain ⟨vs, h1, h2, h3⟩ := h
  exact ⟨vs, h1, own_below h2 hb, fun k u p a b => own_below (h3 k u p a b) hb⟩

theorem OwnP.base {w : World} {B B' : Nat} {v : Value} {l : List Peer} (h : OwnP w B v l) (hB : B' ≤ B) : OwnP w B' v l := by
  obtain ⟨vs, h1, h2, h3⟩ := h
  exact ⟨vs, h1, own_base h2 hB, fun k u p a b => own_base (h3 k u p a b) hB⟩

/-- They read as those peers. -/
theorem OwnP.reads {w : World} {B : Nat} {A : Option Addr} {c : Nat} {l : List Peer} (h : OwnP w B (.slice A l.length c) l) : PeersR w A l := by
  obtain ⟨vs, h1, h2, h3⟩ := h
  intro h0
  rcases h2.2 with ⟨e, e2⟩ | ⟨g, cap, cur, e, _⟩
  · omega
  · injection e with e1 e2 e3
    subst e1
    refine ⟨g, 0, rfl, fun k hk => ?_⟩
    have hv : vs[k]? = some (vs[k]'(by omega)) := List.getElem?_eq_getElem (by omega)
    have hp : l[k]? = some l[k] := List.getElem?_eq_getElem hk
    have ho := h3 k _ _ hv hp
    obtain ⟨A', c', ev, hle, -⟩ := own_form ho
    have hcell : ∀ j u, j < 7 → (peerCells l[k] (vs[k]'(by omega)))[j]? = some u → w.cell? ⟨g, 0 + k * 7 + j, none⟩ = some u := by
      intro j u hj hu
      have hc := h2.cells (g := g) rfl (k * 7 + j) u (by rw [cellsOf_get l vs k j h1 hk hj]; exact hu)
      rw [add_lit] at hc
      rw [← hc]
      congr 2
      omega
    refine ⟨A', c', ?_, hcell 1 _ (by omega) rfl, hcell 2 _ (by omega) rfl, hcell 3 _ (by omega) rfl, hcell 4 _ (by omega) rfl, ?_, hcell 6 _ (by omega) rfl, ?_, hle⟩
    · have := hcell 0 _ (by omega) rfl
      exact this
    · have := hcell 5 _ (by omega) rfl
      rw [this, ev]
    · rw [ev] at ho
      exact own_ints ho

/-- One peer more behind a row of peers. -/
theorem OwnP.snoc {w w' : World} {B : Nat} {v v' u : Value} {l : List Peer} {p : Peer} {vs : List Value} (h1 : vs.length = l.length) (h2 : w.ownsRow B 40 7 v l.length (cellsOf l vs))
    (h3 : ∀ (k : Nat) (u : Value) (p : Peer), vs[k]? = some u → l[k]? = some p → w.ownsRow B 3 1 u p.vals.length (ints p.vals)) (hu : w.ownsRow B 3 1 u p.vals.length (ints p.vals))
    (hown : w'.ownsRow B 40 7 v' (l.length + 1) (cellsOf l vs ++ peerCells p u)) (hg : w.grownBy w' v.ownBlock) : OwnP w' B v' (l ++ [p]) := by
  refine ⟨vs ++ [u], by simp [h1], ?_, fun k y q hy hq => ?_⟩
  · rw [cellsOf_snoc _ _ _ _ h1]
    simpa using hown
  · have hr : w.ownsRow B 3 1 y q.vals.length (ints q.vals) := by
      rcases Nat.lt_or_ge k l.length with hk | hk
      · rw [List.getElem?_append_left (by omega)] at hy hq
        exact h3 k y q hy hq
      · rw [List.getElem?_append_right (by omega)] at hy hq
        rw [h1] at hy
        rcases Nat.eq_zero_or_pos (k - l.length) with e | e
        · rw [e] at hy hq
          simp at hy hq
          subst hy hq
          exact hu
        · rw [List.getElem?_eq_none (by simp; omega)] at hy
          cases hy
    exact hr.kept hg (own_ne hr h2 (by decide))

theorem OwnP.push {w W w' : World} {B : Nat} {v v' u : Value} {l : List Peer} {p : Peer} {vs : List Value} (h1 : vs.length = l.length) (h2 : w.ownsRow B 40 7 v l.length (cellsOf l vs))
    (h3 : ∀ (k : Nat) (u : Value) (p : Peer), vs[k]? = some u → l[k]? = some p → w.ownsRow B 3 1 u p.vals.length (ints p.vals)) (hW : Below w.heap.size w W) (hu : W.ownsRow B 3 1 u p.vals.length (ints p.vals))
    (hown : w'.ownsRow B 40 7 v' (l.length + 1) (cellsOf l vs ++ peerCells p u)) (hg : W.grownBy w' v.ownBlock) : OwnP w' B v' (l ++ [p]) :=
  OwnP.snoc h1 (own_below h2 hW) (fun k u p a b => own_below (h3 k u p a b) hW) hu hown hg

theorem peer_one (p : Peer) (A : Option Addr) (n c : Nat) : ∀ u ∈ peerCells p (.slice A n c), u.oneCell' = true := by
  intro u hu
  simp only [peerCells, List.mem_cons, List.not_mem_nil, or_false] at hu
  rcases hu with rfl | rfl | rfl | rfl | rfl | rfl | rfl <;> rfl

/-- The cells of a block that has just been laid. -/
theorem news_new (w : World) (cs : List Value) (t : TypeId) : ∀ j u, cs[j]? = some u → (w.alloc (.cells cs.toArray t)).cell? ((⟨w.heap.size, 0, none⟩ : Addr).add j) = some u := by
  intro j u hu
  rw [add_lit, Nat.zero_add, World.cell?_alloc_new]
  simpa using hu

theorem news_at (w : World) (n : Nat) (cs : List Value) (t : TypeId) (hn : n = w.heap.size) : ∀ j u, cs[j]? = some u → (w.alloc (.cells cs.toArray t)).cell? ((⟨n, 0, none⟩ : Addr).add j) = some u := by
  subst hn
  exact news_new w cs t

set_option maxHeartbeats 1000000 in
theorem copied_any (A : Option Addr) (c : Nat) (l : List Peer) (w : World) (h : PeersR w A l) (hl : l.length ≤ 6) (hv : ∀ (k : Nat) (p : Peer), l[k]? = some p → p.vals.length ≤ 64) :
    Calls Try.prog 87 #[.slice A l.length c] w fun e w' => (∃ v, e = .returned v ∧ OwnP w' w.heap.size v l) ∧ Below w.heap.size w w' := by
  obtain ⟨i0, hi0, hz0, hz1, hz2⟩ := info_parts info40
  have HV := Lib.hid hv
  clear hv
  go_enter Try.func87, Try.ntmps87
  go_wp2_with fail
  go_loopw [3, 8] (fun v i wr => ∃ k : Nat, k ≤ l.length ∧ i = .int .i64 k ∧ Below w.heap.size w wr ∧ Hid (OwnP wr w.heap.size v (l.take k))) (fun _ i _ => l.length - (intOf i).toNat)
  case atStart => exact ⟨0, Nat.zero_le _, rfl, Below.refl _ _, by simp only [List.take_zero]; exact OwnP.nil _ _⟩
  case round =>
    obtain ⟨k, hk, rfl, hb, HO⟩ := hrel
    by_cases hlt : k < l.length
    · have hr := h.below hb
      obtain ⟨b, off, rfl, hp⟩ := hr (by omega)
      clear hr
      obtain ⟨A', c', h0, h1, h2, h3, h4, h5, h6, hi, -⟩ := hp k hlt
      have hv := HV.out k l[k] (List.getElem?_eq_getElem hlt)
      have Hi := Lib.hid hi
      have Hb := Lib.hid hb
      have hkk : (k : Int) < (l.length : Int) := by omega
      clear hi hb hp
      obtain ⟨vs, hvs, hO2, hO3⟩ := HO.out
      have hkl : (l.take k).length = k := by simp; omega
      rw [hkl] at hO2
      have Hvs := Lib.hid hvs
      have HO2 := Lib.hid hO2
      have HO3 := Lib.hid hO3
      clear hvs hO2 hO3 HO hkl
      have Hlt := Lib.hid hlt
      go_wp2_with (first
        | (go_at_call 78; refine (clone_any A' c' l[k].vals _ (Hi.out.below ((Below.refl _ _).alloc (Nat.le_refl _) _)) (by omega)).mono ?_; rintro e w1 ⟨⟨v1, rfl, hown1⟩, hb1⟩; obtain ⟨c1, f1, z1, hw1⟩ := keep1 hb1; obtain ⟨A1, d1, rfl, -, -⟩ := own_form hown1; have Hown1 := Lib.hid hown1; clear hown1 hb1)
        | (at_builtin; go_loud (refine wpList_append_own_at _ rfl (.tmp 18) (.tmp 20) 22 rfl w.heap.size 40 i0 _ 7 80 Try.underlying22 hi0 hz0 hz1 hz2 rfl (by omega) u3 k (cellsOf (l.take k) vs) rfl (by exact own_below HO2.out ((hw1.setCell (Nat.le_refl _) _).alloc (by simp; omega) _)) ⟨w1.heap.size, 0, none⟩ 1 1 (peerCells l[k] (.slice A1 l[k].vals.length d1)) rfl rfl (by exact news_at _ _ _ _ (by simp)) (peer_one _ _ _ _) (by simp only [maxLen]; omega) (by omega) (by have := Hb.out.size; simp; omega) ?_); intro v2 w2 hown2 hgrow2 _ _; have Hown2 := Lib.hid hown2; clear hown2))
      have hB := Hb.out.size
      have hW3 : Below wr.heap.size wr ((w1.setCell ⟨wr.heap.size, 5, none⟩ (.slice A1 l[k].vals.length d1)).alloc (.cells (peerCells l[k] (.slice A1 l[k].vals.length d1)).toArray 40)) :=
        (hw1.setCell (Nat.le_refl _) _).alloc (by simp; omega) _
      have hu : ((w1.setCell ⟨wr.heap.size, 5, none⟩ (.slice A1 l[k].vals.length d1)).alloc (.cells (peerCells l[k] (.slice A1 l[k].vals.length d1)).toArray 40)).ownsRow w.heap.size 3 1 (.slice A1 l[k].vals.length d1) l[k].vals.length (ints l[k].vals) :=
        own_base ((ownsRow_setCell_below Hown1.out (by simp) _).alloc _) (by simp; omega)
      have hkl : (l.take k).length = k := by simp; omega
      have hfin : OwnP w2 w.heap.size v2 (l.take (k + 1)) := by
        have hlt' := Hlt.out
        rw [show l.take (k + 1) = l.take k ++ [l[k]] from List.take_succ_eq_append_getElem hlt']
        exact OwnP.push Hvs.out (by rw [hkl]; exact HO2.out) HO3.out hW3 hu (by rw [hkl]; exact Hown2.out) hgrow2
      have hb2 : Below w.heap.size w w2 := (Hb.out.trans (hW3.mono hB)).grown hgrow2 (by have := hW3.size; omega) (fun g hg => (HO2.out.lt g hg).1)
      go_roundw
      case rel => exact ⟨k + 1, by omega, by go_num, hb2, hfin⟩
      case measure => simp [intOf]; omega
    · have hk2 : k = l.length := by omega
      subst hk2
      go_wp2_with fail
      go_ret
      exact ⟨⟨_, rfl, by have := HO.out; rwa [List.take_length] at this⟩, hb⟩

end Go.Proofs.Ytmclalhjnjghnaa

namespace Go.Proofs.Ytmclalhjnjghnaa
open Go.RowKit Hw

def scmp (a b : ByteArray) : Int := Lib.compareBytes a.data.toList b.data.toList

theorem cmpB_lt : ∀ (x y : List UInt8), decide (Lib.compareBytes x y < 0) = Op.bytesLess x y
  | [], [] => by simp [Lib.compareBytes, Op.bytesLess]
  | _ :: _, [] => by simp [Lib.compareBytes, Op.bytesLess]
  | [], _ :: _ => by simp [Lib.compareBytes, Op.bytesLess]
  | a :: x, b :: y => by
    rw [Op.bytesLess, Lib.compareBytes, ← cmpB_lt x y]
    by_cases h1 : a < b
    · simp [h1]
    · by_cases h2 : b < a
      · have h3 : ¬ a = b := by rintro rfl; exact h1 h2
        simp [h1, h2, h3]
      · have h3 : a = b := by
          apply UInt8.le_antisymm
          · exact UInt8.not_lt.1 h2
          · exact UInt8.not_lt.1 h1
        subst h3
        simp [h1]

theorem cmpB_eq : ∀ (x y : List UInt8), (Lib.compareBytes x y == 0) = (x == y)
  | [], [] => by simp [Lib.compareBytes]
  | _ :: _, [] => by simp [Lib.compareBytes]
  | [], _ :: _ => by simp [Lib.compareBytes]
  | a :: x, b :: y => by
    rw [Lib.compareBytes]
    have ih := cmpB_eq x y
    by_cases h1 : a < b
    · have h3 : ¬ a = b := by rintro rfl; exact UInt8.lt_irrefl _ h1
      simp [h1, h3]
    · by_cases h2 : b < a
      · have h3 : ¬ a = b := by rintro rfl; exact h1 h2
        simp [h1, h2, h3]
      · have h3 : a = b := by
          apply UInt8.le_antisymm
          · exact UInt8.not_lt.1 h2
          · exact UInt8.not_lt.1 h1
        subst h3
        simp only [h1, if_false, ih]
        simp

theorem scmp_lt (a b : ByteArray) : decide (scmp a b < 0) = slt a b := by
  rw [scmp, cmpB_lt, slt, Lib.toList_data, Lib.toList_data]

theorem scmp_eq (a b : ByteArray) : (scmp a b == 0) = sq a b := by
  rw [scmp, cmpB_eq, sq, Lib.toList_data, Lib.toList_data]

set_option maxRecDepth 100000 in
set_option maxHeartbeats 1000000 in
theorem cmpstr_any (a b : ByteArray) (w : World) :
    Calls Try.prog 152 #[.string a, .string b] w fun e w' => e = .returned (.int .i64 (scmp a b)) ∧ w = w' := by
  go_enter Try.func152, Try.ntmps152
  go_wp2
  rw [run_callFunc_extern Try.func162 (by kernel_rfl) (by kernel_rfl) (by kernel_rfl) (e := Extern.BytealgCompare.compare) (by kernel_rfl), Lib.run_compareString]
  simp only [Result.andThen]
  rw [Oper.upon_value]
  go_wp2
  go_ret
  exact ⟨rfl, rfl⟩

theorem compare_any (a b : ByteArray) (w : World) :
    Calls Try.prog 129 #[.string a, .string b] w fun e w' => e = .returned (.int .i64 (scmp a b)) ∧ w = w' := by
  go_enter Try.func129, Try.ntmps129
  go_wp2_with (go_at_call 152; refine (cmpstr_any _ _ _).mono ?_; rintro e w' ⟨rfl, rfl⟩)
  go_ret
  exact ⟨rfl, rfl⟩

theorem findcmp_any (p : Peer) (u : Value) (id : ByteArray) (w : World) :
    Calls Try.prog 128 #[.agg (peerCells p u).toArray, .string id] w fun e w' => e = .returned (.int .i64 (scmp p.id id)) ∧ Below w.heap.size w w' := by
  go_enter Try.func128, Try.ntmps128
  go_wp2_with (go_at_call 129; refine (compare_any _ _ _).mono ?_; rintro e w' ⟨rfl, rfl⟩)
  go_ret
  exact ⟨rfl, (Below.refl _ _).alloc (Nat.le_refl _) _⟩


/-- Who stands behind a lesser name stands behind a lesser name, too. -/
def Mono (l : List Peer) (id : ByteArray) : Prop := ∀ i j (hi : i ≤ j) (hj : j < l.length), slt (l[j]).id id = true → slt (l[i]'(by omega)).id id = true

theorem place_of (l : List Peer) (id : ByteArray) : ∀ (i : Nat), (∀ k (h : k < l.length), k < i → slt (l[k]).id id = true) → (∀ (h : i < l.length), slt (l[i]).id id = false) → i ≤ l.length → place l id = i := by
  induction l with
  | nil => intro i _ _ h; simp at h; subst h; rfl
  | cons p t ih =>
    intro i h1 h2 h3
    rcases i with _ | i
    · have := h2 (by simp)
      simp only [List.getElem_cons_zero] at this
      simp [place, this]
    · have h0 := h1 0 (by simp) (by omega)
      simp only [List.getElem_cons_zero] at h0
      have ih' := ih i (fun k h hk => by have := h1 (k + 1) (by simpa using h) (by omega); simpa using this) (fun h => by have := h2 (by simpa using h); simpa using this) (by simpa using h3)
      simp only [place] at ih' ⊢
      simp [h0, ih']

theorem found_at (l : List Peer) (id : ByteArray) (i : Nat) (h : place l id = i) (hi : i < l.length) : found l id = sq (l[i]).id id := by
  simp [found, h, hi]
theorem found_end (l : List Peer) (id : ByteArray) (h : place l id = l.length) : found l id = false := by
  simp [found, h]

set_option maxHeartbeats 1000000 in
theorem search_any (A : Option Addr) (c : Nat) (l : List Peer) (id : ByteArray) (w : World) (h : PeersR w A l) (hl : l.length ≤ 6) (hm : Mono l id) :
    Calls Try.prog 127 #[.slice A l.length c, .string id, .func (.func 128) #[] #[]] w
      fun e w' => e = .returned (.tuple #[.int .i64 (place l id), .bool (found l id)]) ∧ Below w.heap.size w w' := by
  have Hm := Lib.hid hm
  clear hm
  go_enter Try.func127, Try.ntmps127
  go_wp2_with fail
  go_loopw [9, 10] (fun i j wr => ∃ a b : Nat, a ≤ b ∧ b ≤ l.length ∧ i = .int .i64 a ∧ j = .int .i64 b ∧ Below w.heap.size w wr ∧
    Hid ((∀ k (h : k < l.length), k < a → slt (l[k]).id id = true) ∧ (∀ k (h : k < l.length), b ≤ k → slt (l[k]).id id = false))) (fun i j _ => (intOf j - intOf i).toNat)
  case atStart => exact ⟨0, l.length, Nat.zero_le _, Nat.le_refl _, rfl, rfl, Below.refl _ _, fun k h hk => by omega, fun k h hk => by omega⟩
  case round =>
    obtain ⟨a, b, hab, hbl, rfl, rfl, hb, HH⟩ := hrel
    by_cases hlt : a < b
    · have hr := h.below hb
      obtain ⟨g, off, rfl, hp⟩ := hr (by omega)
      clear hr
      obtain ⟨A', c', h0, h1, h2, h3, h4, h5, h6, -, -⟩ := hp ((a + b) / 2) (by omega)
      clear hp
      have Hb := Lib.hid hb
      clear hb
      have hab' : (a : Int) < (b : Int) := by omega
      go_wp2_with (go_at_call 128; refine (findcmp_any _ _ _ _).mono ?_; rintro e w1 ⟨rfl, hb1⟩)
      · have hs : scmp l[(a + b) / 2].id id < 0 := by assumption
        have hs2 : slt l[(a + b) / 2].id id = true := by rw [← scmp_lt]; simpa using hs
        go_roundw
        case rel => exact ⟨(a + b) / 2 + 1, b, by omega, hbl, congrArg (Value.int IntKind.i64) (by omega), rfl, Hb.out.trans (hb1.mono Hb.out.size),
          fun k hk hk2 => Hm.out k ((a + b) / 2) (by omega) (by omega) hs2, HH.out.2⟩
        case measure => simp [intOf]; omega
      · have hs : 0 ≤ scmp l[(a + b) / 2].id id := by assumption
        have hs2 : slt l[(a + b) / 2].id id = false := by rw [← scmp_lt]; simpa using hs
        go_roundw
        case rel => exact ⟨a, (a + b) / 2, by omega, by omega, rfl, congrArg (Value.int IntKind.i64) (by omega), Hb.out.trans (hb1.mono Hb.out.size), HH.out.1,
          fun k hk hk2 => by
            cases e : slt l[k].id id with
            | false => rfl
            | true => rw [Hm.out ((a + b) / 2) k hk2 hk e] at hs2; cases hs2⟩
        case measure => simp [intOf]; omega
    · have hab2 : b = a := by omega
      subst hab2
      have hpl := place_of l id b HH.out.1 (fun h => HH.out.2 b h (Nat.le_refl _)) hbl
      have Hpl := Lib.hid hpl
      clear hpl
      by_cases hlt2 : b < l.length
      · have hr := h.below hb
        obtain ⟨g, off, rfl, hp⟩ := hr (by omega)
        clear hr
        obtain ⟨A', c', h0, h1, h2, h3, h4, h5, h6, -, -⟩ := hp b hlt2
        have hd : decide (b < l.length) = true := by simpa using hlt2
        have hd2 : (b : Int) < (l.length : Int) := by omega
        have Hb := Lib.hid hb
        clear hp hb
        go_wp2_with (go_at_call 128; refine (findcmp_any _ _ _ _).mono ?_; rintro e w1 ⟨rfl, hb1⟩)
        go_ret2
        exact ⟨ret_val (by rw [Hpl.out, found_at l id b Hpl.out hlt2, ← scmp_eq]; rfl), Hb.out.trans (hb1.mono Hb.out.size)⟩
      · have hd : decide (b < l.length) = false := by simpa using hlt2
        have hd2 : ¬ (b : Int) < (l.length : Int) := by omega
        go_wp2_with fail
        go_ret2
        exact ⟨ret_val (by rw [Hpl.out, found_end l id (by rw [Hpl.out]; omega)]; rfl), hb⟩

set_option maxHeartbeats 400000 in
theorem find_any (A : Option Addr) (c : Nat) (l : List Peer) (id : ByteArray) (w : World) (h : PeersR w A l) (hl : l.length ≤ 6) (hm : Mono l id) :
    Calls Try.prog 85 #[.slice A l.length c, .string id] w fun e w' => e = .returned (.tuple #[.int .i64 (place l id), .bool (found l id)]) ∧ Below w.heap.size w w' := by
  have Hh := Lib.hid h
  have Hm := Lib.hid hm
  clear h hm
  go_enter Try.func85, Try.ntmps85
  go_wp2_with (go_at_call 127; refine (search_any A c l id _ Hh.out hl Hm.out).mono ?_; rintro e w1 ⟨rfl, hb1⟩)
  go_ret2
  exact ⟨rfl, hb1⟩

end Go.Proofs.Ytmclalhjnjghnaa

namespace Go.Proofs.Ytmclalhjnjghnaa
open Go.RowKit Hw

theorem spl_take {α : Type} (L cs : List α) (off k : Nat) (h : off ≤ L.length) (hk : k = off + cs.length) : (L.take off ++ cs ++ L.drop (off + cs.length)).take k = L.take off ++ cs := by
  subst hk
  exact List.take_left' (by simp; omega)

theorem spl_len {α : Type} (L cs : List α) (off : Nat) (h : off + cs.length ≤ L.length) : (L.take off ++ cs ++ L.drop (off + cs.length)).length = L.length := by
  simp; omega

/-- What stands in the new row when both copies are made. -/
theorem ins_take {α : Type} (cur rest ys : List α) (i n c : Nat) (hi : i < n) (hcur : cur.length = n * 7) (hy : ys.length = 7) (hr : rest.length = (c - i) * 7) (hc : n + 1 ≤ c) :
    (((((cur.drop 0).take (i * 7) ++ rest).take (i * 7) ++ ys ++ ((cur.drop 0).take (i * 7) ++ rest).drop (i * 7 + ys.length)).take ((i + 1) * 7) ++ (cur.drop (i * 7)).take ((n - i) * 7) ++
      (((cur.drop 0).take (i * 7) ++ rest).take (i * 7) ++ ys ++ ((cur.drop 0).take (i * 7) ++ rest).drop (i * 7 + ys.length)).drop ((i + 1) * 7 + ((cur.drop (i * 7)).take ((n - i) * 7)).length)).take ((n + 1) * 7)) =
      cur.take (i * 7) ++ ys ++ (cur.take (n * 7)).drop (i * 7) := by
  have hl1 : ((cur.drop 0).take (i * 7) ++ rest).length = c * 7 := by simp; omega
  have hl2 := spl_len ((cur.drop 0).take (i * 7) ++ rest) ys (i * 7) (by omega)
  rw [spl_take _ _ _ _ (by omega) (by simp; omega), spl_take _ _ _ _ (by omega) (by omega)]
  have e1 : ((cur.drop 0).take (i * 7) ++ rest).take (i * 7) = cur.take (i * 7) := by
    rw [List.drop_zero]
    exact List.take_left' (by simp; omega)
  rw [e1]
  congr 1
  rw [List.take_of_length_le (by simp; omega), List.take_of_length_le (by omega)]

theorem ins_len {α : Type} (cur rest ys : List α) (i n c : Nat) (hi : i < n) (hcur : cur.length = n * 7) (hy : ys.length = 7) (hr : rest.length = (c - i) * 7) (hc : n + 1 ≤ c) :
    ((((cur.drop 0).take (i * 7) ++ rest).take (i * 7) ++ ys ++ ((cur.drop 0).take (i * 7) ++ rest).drop (i * 7 + ys.length)).take ((i + 1) * 7) ++ (cur.drop (i * 7)).take ((n - i) * 7) ++
      (((cur.drop 0).take (i * 7) ++ rest).take (i * 7) ++ ys ++ ((cur.drop 0).take (i * 7) ++ rest).drop (i * 7 + ys.length)).drop ((i + 1) * 7 + ((cur.drop (i * 7)).take ((n - i) * 7)).length)).length = c * 7 := by
  have hl1 : ((cur.drop 0).take (i * 7) ++ rest).length = c * 7 := by simp; omega
  have hl2 := spl_len ((cur.drop 0).take (i * 7) ++ rest) ys (i * 7) (by omega)
  rw [spl_len _ _ _ (by simp; omega), hl2, hl1]

section
variable {P : Program} {w : World}

theorem run_copy_cells (dT sT ty elem : TypeId) (i : TypeInfo) (hu : P.underlying dT = some (.slice elem)) (hi : P.info? elem = some i)
    (g off dLen dCap : Nat) (ad : Addr) (sLen sCap : Nat) (cur : Array Value) (t : TypeId) (hg : w.heap[g]? = some (.cells cur t (0, 0))) (cs : List Value)
    (hn : cs.length = min sLen dLen * i.size) (hsrc : ∀ j v, cs[j]? = some v → w.cell? (ad.add j) = some v) (hfit : off + cs.length ≤ cur.size) (h1 : ∀ v ∈ cs, v.oneCell' = true) :
    (Builtin.copy_ #[dT, sT] ty #[.slice (some ⟨g, off, none⟩) dLen dCap, .slice (some ad) sLen sCap]).run P w =
      .ok (goInt (min sLen dLen : Nat)) (w.setRow g (cur.toList.take off ++ cs ++ cur.toList.drop (off + cs.length)).toArray) := by
  have hf := run_firstCells_some (P := P) w i.size (min sLen dLen) ad sLen sCap cs hn hsrc
  have hst := run_storeCells_at P g off t cs 0 cur w hg (by simpa using hfit) h1
  simp only [Nat.add_zero] at hst
  have hmin : Nat.min sLen dLen = min sLen dLen := rfl
  simp [Builtin.copy_, run_underlying hu, sizeOf, typeInfo, hi, Builtin.lenOf, hf, hst, hmin]

/-- 'copy' into a row that is known whole, for the walk. -/
theorem wpList_copy_cells {ops : Array Oper} {rest : List Oper} {o : Oper} {a : Act} {Q : Exit → Act → World → Prop} (hgd : o.guard = none) (d s : Operand) (dT sT : TypeId)
    (ho : o.op = .call { callee := .builtin .copy, args := #[d, s], argTypes := #[dT, sT] }) (elem : TypeId) (i : TypeInfo) (hu : P.underlying dT = some (.slice elem)) (hi : P.info? elem = some i)
    (g off dLen dCap : Nat) (ad : Addr) (sLen sCap : Nat) (hd : a.eval d = .slice (some ⟨g, off, none⟩) dLen dCap) (hs : a.eval s = .slice (some ad) sLen sCap)
    (cur : Array Value) (t : TypeId) (hg : w.heap[g]? = some (.cells cur t (0, 0))) (cs : List Value)
    (hn : cs.length = min sLen dLen * i.size) (hsrc : ∀ j v, cs[j]? = some v → w.cell? (ad.add j) = some v) (hfit : off + cs.length ≤ cur.size) (h1 : ∀ v ∈ cs, v.oneCell' = true)
    (h : ∀ w', Hid (w'.heap[g]? = some (.cells (cur.toList.take off ++ cs ++ cur.toList.drop (off + cs.length)).toArray t (0, 0))) → w.grownBy w' (some g) →
      wpList P ops Q rest (a.put o.dst (goInt (min sLen dLen : Nat))) w') : wpList P ops Q (o :: rest) a w := by
  refine wpList_plain hgd fun K hK => ?_
  have hrun := run_copy_cells (P := P) dT sT o.type elem i hu hi g off dLen dCap ad sLen sCap cur t hg cs hn hsrc hfit h1
  unfold Oper.wp execOp
  simp only [ho, resolve, invoke, builtin, Sem.run_bind, Sem.run_pure, Result.andThen_ok, List.map_toArray, List.map_cons, List.map_nil, hd, hs, hrun]
  refine hK _ _ (h _ ?_ ?_)
  · exact setRow_heap w g cur _ t _ hg
  · exact ⟨rfl, rfl, rfl, by simp, fun k _ hk => setRow_other w g k _ (fun e => hk (by rw [e]))⟩

/-- 'append(s, make([]T, m)...)' where it must grow: the new row, whole. -/
theorem wpList_append_zeros {ops : Array Oper} {rest : List Oper} {o : Oper} {a : Act} {Q : Exit → Act → World → Prop} (hgd : o.guard = none) (s x : Operand) (t tn : TypeId)
    (ho : o.op = .call { callee := .builtin .append, args := #[s, x], argTypes := #[t, tn] }) (e : TypeId) (i : TypeInfo) (z : Value) (kn kq : IntKind) (ht : P.underlying t = some (.slice e)) (htn : P.underlying tn = some (.int kn))
    (hi : P.info? e = some i) (hz : i.zero = some z) (hzs : z.cells.size = i.size) (ad : Addr) (sLen sCap m tot : Nat) (q : Int) (hs : a.eval s = .slice (some ad) sLen sCap) (hx : a.eval x = .int kq q) (hq : q = (m : Int)) (htot : sLen + m = tot)
    (olds : List Value) (hl : olds.length = sLen * i.size) (hold : ∀ j v, olds[j]? = some v → w.cell? (ad.add j) = some v)
    (h0 : 0 < m) (hsz : 0 < i.size) (hgrow : sCap < sLen + m) (h63 : sLen + m ≤ 1000) (hby : i.bytes ≤ 1000)
    (h : ∀ w' cap rest', Hid (w'.heap[w.heap.size]? = some (.cells (olds ++ rest').toArray e (0, 0))) → rest'.length = (cap - sLen) * i.size → tot ≤ cap → cap ≤ maxLen → w.grownBy w' none →
      wpList P ops Q rest (a.put o.dst (.slice (some ⟨w.heap.size, 0, none⟩) tot cap)) w') : wpList P ops Q (o :: rest) a w := by
  subst hq
  subst htot
  have hf : (Builtin.firstCells i.size sLen (.slice (some ad) sLen sCap)).run P w.drew = .ok olds.toArray w.drew := run_firstCells_some (P := P) w.drew i.size sLen ad sLen sCap olds hl (by simpa using hold)
  have hb1 : m * i.bytes ≤ 1000 * 1000 := Nat.mul_le_mul (by omega) hby
  have hb2 : (sLen + m) * i.bytes ≤ 1000 * 1000 := Nat.mul_le_mul h63 hby
  have hr := Lib.run_append_grow_zeros (P := P) w t tn o.type e i z kq kn ht htn hi hz (some ad) sLen sCap olds hf m h0 hsz hgrow (by omega) (by omega)
    (growslice_fits (by omega) (by omega))
  have hge := grownCap_ge w (sLen + m) sCap e
  refine Lib.wpList_append_run w hgd s x t tn ho _ _ hs hx _ _ hr (h _ _ (Builtin.zeroCells z.cells m ++ Builtin.zeroCells z.cells (grownCap w (sLen + m) sCap e - (sLen + m))).toList ?_ ?_ hge ?_ ?_)
  · have := heap_alloc_new w.drew (.cells (olds.toArray ++ Builtin.zeroCells z.cells m ++ Builtin.zeroCells z.cells (grownCap w (sLen + m) sCap e - (sLen + m))) e)
    refine this.trans ?_
    congr 2
    simp
  · simp only [Array.toList_append, List.length_append, Array.length_toList, size_zeroCells, hzs, ← Nat.add_mul]
    congr 1
    omega
  · exact grownCap_le_maxLen w (sLen + m) sCap e (by simp only [maxLen]; omega)
  · exact ⟨rfl, rfl, rfl, by simp, fun k hk _ => Below.heap_alloc w.drew _ k hk⟩
end

end Go.Proofs.Ytmclalhjnjghnaa

namespace Go.Proofs.Ytmclalhjnjghnaa
open Go.RowKit Hw

theorem ownBlock_slice (A : Option Addr) (n c : Nat) : (Value.slice A n c).ownBlock = A.map (·.block) := by cases A <;> rfl

set_option maxRecDepth 100000 in
set_option maxHeartbeats 1000000 in
/-- At the end of the row. -/
theorem insert_end (A : Option Addr) (c n : Nat) (xs ys : List Value) (gv : Nat) (B : Nat) (w : World) (h : w.ownsRow B 40 7 (.slice A n c) n xs) (hn : n ≤ 5) (hB : B ≤ w.heap.size)
    (hy : w.heap[gv]? = some (.cells ys.toArray 40 (0, 0))) (hyl : ys.length = 7) (hy1 : ∀ u ∈ ys, u.oneCell' = true) :
    Calls Try.prog 86 #[.slice A n c, .int .i64 n, .slice (some ⟨gv, 0, none⟩) 1 1] w
      fun e w' => (∃ v, e = .returned v ∧ w'.ownsRow B 40 7 v (n + 1) (xs ++ ys)) ∧ w.grownBy w' (A.map (·.block)) := by
  obtain ⟨i0, hi0, hz0, hz1, hz2⟩ := info_parts info40
  have hnews : ∀ j u, ys[j]? = some u → w.cell? ((⟨gv, 0, none⟩ : Addr).add j) = some u := by
    intro j u hu
    rw [add_lit, cell_of_row w gv (0 + j) ys.toArray 40 (0, 0) hy]
    simpa using hu
  have hc : n ≤ c := by
    obtain ⟨A', c', e, h1, -⟩ := own_form h
    injection e with _ _ e3
    omega
  have Hn := Lib.hid hnews
  have H := Lib.hid h
  have Hyl := Lib.hid hyl
  clear hnews h hyl hy
  go_enter Try.func86, Try.ntmps86
  go_wp2_with ((at_builtin; go_loud (refine wpList_append_own_at _ rfl (.tmp 23) (.tmp 24) 22 rfl B 40 i0 _ 7 80 Try.underlying22 hi0 hz0 hz1 hz2 rfl (by omega) (.slice A n c) n xs rfl H.out ⟨gv, 0, none⟩ 1 1 ys rfl (by rw [Hyl.out]) Hn.out hy1 (by simp only [maxLen]; omega) (by omega) hB ?_); intro v2 w2 hown2 hgrow2 _ _; have Hown2 := Lib.hid hown2; clear hown2))
  all_goals
    rw [ownBlock_slice] at hgrow2
    go_ret
    exact ⟨⟨_, rfl, Hown2.out⟩, hgrow2⟩

theorem rowcells {w : World} {g : Nat} {cur : Array Value} {t : TypeId} (hg : w.heap[g]? = some (.cells cur t (0, 0))) (off k : Nat) : ∀ j u, ((cur.toList.drop off).take k)[j]? = some u → w.cell? ((⟨g, off, none⟩ : Addr).add j) = some u := by
  intro j u hu
  rw [List.getElem?_take] at hu
  split at hu
  · rw [List.getElem?_drop] at hu
    rw [add_lit, cell_of_row w g _ cur t (0, 0) hg]
    simpa using hu
  · cases hu

theorem rowcells' {w : World} {g : Nat} {ys : List Value} {t : TypeId} (hg : w.heap[g]? = some (.cells ys.toArray t (0, 0))) : ∀ j u, ys[j]? = some u → w.cell? ((⟨g, 0, none⟩ : Addr).add j) = some u := by
  intro j u hu
  rw [add_lit, cell_of_row w g (0 + j) ys.toArray t (0, 0) hg]
  simpa using hu

theorem news_grown {w w' : World} (hb : w.grownBy w' none) {ad : Addr} {news : List Value} (h : ∀ j u, news[j]? = some u → w.cell? (ad.add j) = some u) :
    ∀ j u, news[j]? = some u → w'.cell? (ad.add j) = some u := fun j u hu => hb.cell (h j u hu) (by simp)

set_option maxRecDepth 100000 in
set_option maxHeartbeats 4000000 in
/-- Within the row, where it must grow. -/
theorem insert_grow (g cap n i : Nat) (cur : Array Value) (ys : List Value) (gv : Nat) (w : World) (hg : w.heap[g]? = some (.cells cur 40 (0, 0))) (hcur : cur.size = cap * 7) (hcap : n = cap) (hi : i < n) (hn : n ≤ 5)
    (hy : w.heap[gv]? = some (.cells ys.toArray 40 (0, 0))) (hyl : ys.length = 7) (hy1 : ∀ u ∈ ys, u.oneCell' = true) (hx1 : ∀ u ∈ (cur.toList.drop (i * 7)).take ((n - i) * 7), u.oneCell' = true) :
    Calls Try.prog 86 #[.slice (some ⟨g, 0, none⟩) n cap, .int .i64 i, .slice (some ⟨gv, 0, none⟩) 1 1] w
      fun e w' => (∃ v, e = .returned v ∧ w'.ownsRow w.heap.size 40 7 v (n + 1) (cur.toList.take (i * 7) ++ ys ++ (cur.toList.take (n * 7)).drop (i * 7))) ∧ Below w.heap.size w w' := by
  obtain ⟨i0, hi0, hz0, hz1, hz2⟩ := info_parts info40
  subst hcap
  have hd : ((i : Int) == (n : Int)) = false := by simp; omega
  have hii : (i : Int) < (n : Int) := by omega
  have Hg := Lib.hid hg
  have Hy := Lib.hid hy
  have Hcur := Lib.hid hcur
  have Hyl := Lib.hid hyl
  clear hg hy hcur hyl
  go_enter Try.func86, Try.ntmps86
  go_wp2_with (first
    | (at_builtin; (refine wpList_append_zeros (by rfl) (.tmp 34) (.tmp 39) 22 3 (by rfl) 40 i0 _ .i64 .i64 Try.underlying22 Try.underlying3 hi0 hz0 (by rw [hz1]; rfl) ⟨g, 0, none⟩ i n (n + 1 - i) (n + 1) _ (by rfl) (by rfl) (by omega) (by omega) ((cur.toList.drop 0).take (i * 7)) (by have := Hcur.out; rw [hz1]; simp; omega) (rowcells Hg.out 0 (i * 7)) (by omega) (by omega) (by omega) (by omega) (by omega) ?_); intro w1 cap1 rest1 hh1 hr1 hc1 hm1 hgr1; rw [hz1] at hr1; have Hr1 := Lib.hid hr1; have hc2 : (i : Int) < (cap1 : Int) := (by omega); have hc3 : (i : Int) + 1 < (cap1 : Int) := (by omega); clear hr1)
    | ((refine wpList_copy_cells (o := ⟨some 45, _, _, _, _, _⟩) (by rfl) (.tmp 43) (.tmp 44) 22 22 (by rfl) 40 i0 Try.underlying22 hi0 w.heap.size (i * 7) (n + 1 - i) (cap1 - i) ⟨gv, 0, none⟩ 1 1 (by rfl) (by rfl) _ 40 (by exact hh1.out) ys (by rw [hz1, Hyl.out]; omega) (by exact news_grown hgr1 (rowcells' Hy.out)) (by have q1 := Hyl.out; have q2 := Hr1.out; have q3 := Hcur.out; simp; omega) hy1 ?_); intro w2 hh2 hgr2))
  have k1 : IntKind.i64.wrap ((i : Int) + 1) = (i : Int) + 1 := IntWalk.i64_in _ (by omega)
  have k2 : (0 : Int) ≤ (i : Int) + 1 := by omega
  have k3 : ((i : Int) + 1).toNat = i + 1 := by omega
  have k4 : (i : Int) + 1 ≤ (n : Int) + 1 := by omega
  have k5 : (n : Int) + 1 ≤ (cap1 : Int) := by omega
  have k6 : (0 : Int) ≤ (i : Int) := by omega
  have k7 : (i : Int) ≤ (n : Int) := by omega
  have k8 : ¬ cap1 = i + 1 := by omega
  have k9 : ¬ n = i := by omega
  go_still_tail 8, (by kernel_rfl)
  change wpList _ _ _ _ _ w2.drew
  have hgne : g ≠ w.heap.size := by
    have := (Array.getElem?_eq_some_iff.1 Hg.out).1
    omega
  have hgl := (Array.getElem?_eq_some_iff.1 Hg.out).1
  have hw2g : w2.drew.heap[g]? = some (.cells cur 40 (0, 0)) := by
    have e1 := hgr1.block g hgl (by simp)
    have e2 := hgr2.block g (Nat.lt_of_lt_of_le hgl hgr1.size) (by simpa using hgne)
    exact e2.trans (e1.trans Hg.out)
  refine wpList_copy_cells (o := ⟨some 54, _, _, _, _, _⟩) (by rfl) (.tmp 50) (.tmp 53) 22 22 (by rfl) 40 i0 Try.underlying22 hi0 _ _ _ _ _ _ _ (by rfl) (by rfl) _ 40 (by exact hh2.out) ((cur.toList.drop (i * 7)).take ((n - i) * 7)) ?_ ?_ ?_ ?_ ?_
  · have := Hcur.out
    rw [hz1]
    simp
    omega
  · exact rowcells hw2g (i * 7) ((n - i) * 7)
  · have q1 := Hyl.out
    have q2 := Hr1.out
    have q3 := Hcur.out
    simp
    omega
  · intro u hu
    exact hx1 u hu
  · intro w3 hh3 hgr3
    clear k1 k2 k3 k4 k5 k6 k7 k8 k9 hw2g
    go_wp2_with fail
    go_ret
    have q0 : cur.toList.length = n * 7 := by simpa using Hcur.out
    have qt := ins_take cur.toList rest1 ys i n cap1 hi q0 Hyl.out Hr1.out hc1
    have ql := ins_len cur.toList rest1 ys i n cap1 hi q0 Hyl.out Hr1.out hc1
    refine ⟨⟨_, rfl, ?_, .inr ⟨w.heap.size, cap1, _, rfl, Nat.le_refl _, hh3.out, hc1, hm1, ?_, ?_⟩⟩, ?_⟩
    · have q1 := Hyl.out
      have q2 := Hcur.out
      simp; omega
    · exact ql
    · rw [← List.append_assoc]
      exact qt
    · have b1 : Below w.heap.size w w1 := (Below.refl _ _).grown hgr1 (Nat.le_refl _) (by simp)
      have b2 : Below w.heap.size w w2 := b1.grown hgr2 b1.size (by simp)
      exact (b2.drew).grown hgr3 b2.size (by simp)

end Go.Proofs.Ytmclalhjnjghnaa

namespace Go.Proofs.Ytmclalhjnjghnaa
open Go.RowKit Hw

/-- Moved up by one within the row, and the new one laid in. -/
theorem room_take {α : Type} (cur ys : List α) (i n c : Nat) (hi : i < n) (hcur : cur.length = c * 7) (hy : ys.length = 7) (hc : n < c) :
    ((((cur.take ((i + 1) * 7) ++ (cur.drop (i * 7)).take ((n - i) * 7) ++ cur.drop ((i + 1) * 7 + ((cur.drop (i * 7)).take ((n - i) * 7)).length)).take (i * 7) ++ ys ++
      (cur.take ((i + 1) * 7) ++ (cur.drop (i * 7)).take ((n - i) * 7) ++ cur.drop ((i + 1) * 7 + ((cur.drop (i * 7)).take ((n - i) * 7)).length)).drop (i * 7 + ys.length))).take ((n + 1) * 7)) =
      cur.take (i * 7) ++ ys ++ (cur.take (n * 7)).drop (i * 7) := by
  have hcs : ((cur.drop (i * 7)).take ((n - i) * 7)).length = (n - i) * 7 := by simp; omega
  have hd : (cur.take (n * 7)).drop (i * 7) = (cur.drop (i * 7)).take ((n - i) * 7) := by
    rw [List.drop_take]
    congr 1
    omega
  rw [hd]
  generalize hC : (cur.drop (i * 7)).take ((n - i) * 7) = C at *
  generalize hL : cur.take ((i + 1) * 7) ++ C ++ cur.drop ((i + 1) * 7 + C.length) = L
  have hlen : L.length = c * 7 := by rw [← hL, spl_len _ _ _ (by omega), hcur]
  have h1 : L.take (i * 7) = cur.take (i * 7) := by
    rw [← hL, List.append_assoc, List.take_append_of_le_length (by simp; omega), List.take_take]
    congr 1
    omega
  have h2 : (L.drop (i * 7 + ys.length)).take C.length = C := by
    rw [← hL, List.append_assoc, hy]
    have : i * 7 + 7 = (cur.take ((i + 1) * 7)).length := by simp; omega
    rw [this, List.drop_left, List.take_left]
  rw [List.take_append, List.take_of_length_le (by simp; omega)]
  have e : (n + 1) * 7 - (L.take (i * 7) ++ ys).length = C.length := by simp; omega
  rw [e, h2, h1]

theorem room_len {α : Type} (cur ys : List α) (i n c : Nat) (hi : i < n) (hcur : cur.length = c * 7) (hy : ys.length = 7) (hc : n < c) :
    (((cur.take ((i + 1) * 7) ++ (cur.drop (i * 7)).take ((n - i) * 7) ++ cur.drop ((i + 1) * 7 + ((cur.drop (i * 7)).take ((n - i) * 7)).length)).take (i * 7) ++ ys ++
      (cur.take ((i + 1) * 7) ++ (cur.drop (i * 7)).take ((n - i) * 7) ++ cur.drop ((i + 1) * 7 + ((cur.drop (i * 7)).take ((n - i) * 7)).length)).drop (i * 7 + ys.length))).length = c * 7 := by
  have hcs : ((cur.drop (i * 7)).take ((n - i) * 7)).length = (n - i) * 7 := by simp; omega
  have hl := spl_len cur ((cur.drop (i * 7)).take ((n - i) * 7)) ((i + 1) * 7) (by omega)
  rw [spl_len _ _ _ (by omega), hl, hcur]

set_option maxRecDepth 100000 in
set_option maxHeartbeats 2000000 in
theorem insert_room (g cap n i : Nat) (cur : Array Value) (ys : List Value) (gv : Nat) (w : World) (hg : w.heap[g]? = some (.cells cur 40 (0, 0))) (hcur : cur.size = cap * 7) (hcap : n < cap) (hm : cap ≤ maxLen) (hi : i < n) (hn : n ≤ 5)
    (hy : w.heap[gv]? = some (.cells ys.toArray 40 (0, 0))) (hne : gv ≠ g) (hyl : ys.length = 7) (hy1 : ∀ u ∈ ys, u.oneCell' = true) (hx1 : ∀ u ∈ (cur.toList.drop (i * 7)).take ((n - i) * 7), u.oneCell' = true) :
    Calls Try.prog 86 #[.slice (some ⟨g, 0, none⟩) n cap, .int .i64 i, .slice (some ⟨gv, 0, none⟩) 1 1] w
      fun e w' => (∃ cur', e = .returned (.slice (some ⟨g, 0, none⟩) (n + 1) cap) ∧ w'.heap[g]? = some (.cells cur' 40 (0, 0)) ∧ cur'.size = cap * 7 ∧
        cur'.toList.take ((n + 1) * 7) = cur.toList.take (i * 7) ++ ys ++ (cur.toList.take (n * 7)).drop (i * 7)) ∧ w.grownBy w' (some g) := by
  obtain ⟨i0, hi0, hz0, hz1, hz2⟩ := info_parts info40
  have hd : ((i : Int) == (n : Int)) = false := by simp; omega
  have hii : (i : Int) < (n : Int) := by omega
  have hcc : (n : Int) < (cap : Int) := by omega
  have Hg := Lib.hid hg
  have Hy := Lib.hid hy
  have Hcur := Lib.hid hcur
  have Hyl := Lib.hid hyl
  have Hm := Lib.hid hm
  have hm' : cap ≤ 9223372036854775807 := by simp only [maxLen] at hm; omega
  clear hg hy hcur hyl hm
  go_enter Try.func86, Try.ntmps86
  go_wp2_with fail
  have hsz : ∀ w, (Go.sizeOf 40).run Try.prog w = .ok 7 w := fun W => by simp [sizeOf, typeInfo, hi0, hz1]
  have hov : ∀ lb cb, (callFunc 130 #[.slice (some ⟨gv, 0, none⟩) 1 1, .slice (some ⟨g, (i + 1) * 7, none⟩) lb cb]).run Try.prog w = .ok (.value (.bool false)) w := by
    intro lb cb
    rw [run_callFunc_extern Try.func130 (by kernel_rfl) (by kernel_rfl) (by kernel_rfl) (e := Extern.SlicesOverlaps.overlaps #[22, 22] #[4]) (by kernel_rfl)]
    rw [Lib.run_overlaps_apart w 22 4 40 Try.underlying22 7 hsz ⟨gv, 0, none⟩ ⟨g, (i + 1) * 7, none⟩ 1 1 lb cb hne 40 40 ys.toArray.size cur.size
      (by simp [World.shape?, Hy.out]) (by simp [World.shape?, Hg.out]) (by have := Hcur.out; omega) (by simp [World.frozen?, Hy.out]) (by simp [World.frozen?, Hy.out])]
    rfl
  rw [hov]
  rw [Oper.upon_value]
  clear hov hsz
  go_wp2_with fail
  have k1 : IntKind.i64.wrap ((i : Int) + 1) = (i : Int) + 1 := IntWalk.i64_in _ (by omega)
  have k2 : (0 : Int) ≤ (i : Int) + 1 := by omega
  have k3 : ((i : Int) + 1).toNat = i + 1 := by omega
  have k4 : (i : Int) + 1 ≤ (n : Int) + 1 := by omega
  have k5 : (n : Int) + 1 ≤ (cap : Int) := by omega
  have k6 : (0 : Int) ≤ (i : Int) := by omega
  have k7 : (i : Int) ≤ (n : Int) + 1 := by omega
  have k8 : ¬ cap = i + 1 := by omega
  have k9 : ¬ cap = i := by omega
  go_still_tail 8, (by kernel_rfl)
  change wpList _ _ _ _ _ w.drew
  have hgl := (Array.getElem?_eq_some_iff.1 Hg.out).1
  refine wpList_copy_cells (o := ⟨some 77, _, _, _, _, _⟩) (by rfl) (.tmp 73) (.tmp 76) 22 22 (by rfl) 40 i0 Try.underlying22 hi0 g ((i + 1) * 7) _ _ ⟨g, i * 7, none⟩ _ _ (by rfl) (by rfl) cur 40 (by exact Hg.out) ((cur.toList.drop (i * 7)).take ((n - i) * 7)) ?_ ?_ ?_ ?_ ?_
  · have := Hcur.out
    rw [hz1]
    simp
    omega
  · exact rowcells (w := w.drew) Hg.out (i * 7) ((n - i) * 7)
  · have q3 := Hcur.out
    simp
    omega
  · intro u hu
    exact hx1 u hu
  · intro w3 hh3 hgr3
    have hgr3' : w.grownBy w3 (some g) := ⟨hgr3.os, hgr3.tape, hgr3.output, hgr3.size, hgr3.block⟩
    have hy3 : w3.heap[gv]? = some (.cells ys.toArray 40 (0, 0)) := (hgr3.block gv (Array.getElem?_eq_some_iff.1 Hy.out).1 (by simpa using hne)).trans Hy.out
    have Hy3 := Lib.hid hy3
    clear k1 k2 k3 k4 k5 k8 hy3 hgr3
    have hcc2 : (i : Int) < (cap : Int) := by omega
    go_wp2_with ((refine wpList_copy_cells (o := ⟨some 82, _, _, _, _, _⟩) (by rfl) (.tmp 80) (.tmp 81) 22 22 (by rfl) 40 i0 Try.underlying22 hi0 g (i * 7) _ _ ⟨gv, 0, none⟩ 1 1 (by rfl) (by rfl) _ 40 (by exact hh3.out) ys (by rw [hz1, Hyl.out]; omega) (by exact rowcells' Hy3.out) (by have q1 := Hyl.out; have q2 := Hcur.out; simp; omega) hy1 ?_; intro w4 hh4 hgr4))
    go_ret
    have q0 : cur.toList.length = cap * 7 := by simpa using Hcur.out
    have qt := room_take cur.toList ys i n cap hi q0 Hyl.out hcap
    have ql := room_len cur.toList ys i n cap hi q0 Hyl.out hcap
    refine ⟨⟨rfl, _, hh4.out, ql, ?_⟩, ⟨hgr4.os.trans hgr3'.os, hgr4.tape.trans hgr3'.tape, hgr4.output.trans hgr3'.output, Nat.le_trans hgr3'.size hgr4.size, fun k hk hne => (hgr4.block k (Nat.lt_of_lt_of_le hk hgr3'.size) hne).trans (hgr3'.block k hk hne)⟩⟩
    rw [← List.append_assoc]
    exact qt

end Go.Proofs.Ytmclalhjnjghnaa

namespace Go.Proofs.Ytmclalhjnjghnaa
open Go.RowKit Hw

theorem cellsOf_append : ∀ (l l' : List Peer) (vs vs' : List Value), vs.length = l.length → cellsOf (l ++ l') (vs ++ vs') = cellsOf l vs ++ cellsOf l' vs'
  | [], l', [], vs', _ => by simp [cellsOf]
  | [], _, _ :: _, _, h => by simp at h
  | _ :: _, _, [], _, h => by simp at h
  | q :: l, l', u :: vs, vs', h => by
    have ih := cellsOf_append l l' vs vs' (by simpa using h)
    simp only [List.cons_append, cellsOf]
    rw [ih]
    simp

theorem cellsOf_take (l : List Peer) (vs : List Value) (i : Nat) (h : vs.length = l.length) (hi : i ≤ l.length) : (cellsOf l vs).take (i * 7) = cellsOf (l.take i) (vs.take i) := by
  have e := cellsOf_append (l.take i) (l.drop i) (vs.take i) (vs.drop i) (by simp [h])
  rw [List.take_append_drop, List.take_append_drop] at e
  rw [e]
  exact List.take_left' (by rw [cellsOf_length _ _ (by simp [h])]; simp; omega)

theorem cellsOf_drop (l : List Peer) (vs : List Value) (i : Nat) (h : vs.length = l.length) (hi : i ≤ l.length) : (cellsOf l vs).drop (i * 7) = cellsOf (l.drop i) (vs.drop i) := by
  have e := cellsOf_append (l.take i) (l.drop i) (vs.take i) (vs.drop i) (by simp [h])
  rw [List.take_append_drop, List.take_append_drop] at e
  rw [e]
  exact List.drop_left' (by rw [cellsOf_length _ _ (by simp [h])]; simp; omega)

theorem cellsOf_one : ∀ (l : List Peer) (vs : List Value), (∀ u ∈ vs, ∃ A n c, u = .slice A n c) → ∀ u ∈ cellsOf l vs, u.oneCell' = true
  | [], _, _, u, hu => by simp [cellsOf] at hu
  | _ :: _, [], _, u, hu => by simp [cellsOf] at hu
  | p :: l, v :: vs, h, u, hu => by
    simp only [cellsOf, List.mem_append] at hu
    rcases hu with hu | hu
    · obtain ⟨A, n, c, rfl⟩ := h v (by simp)
      exact peer_one p A n c u hu
    · exact cellsOf_one l vs (fun u hu => h u (by simp [hu])) u hu

theorem OwnP.vs_form {w : World} {B : Nat} {l : List Peer} {vs : List Value} (h1 : vs.length = l.length) (h3 : ∀ (k : Nat) (u : Value) (p : Peer), vs[k]? = some u → l[k]? = some p → w.ownsRow B 3 1 u p.vals.length (ints p.vals)) :
    ∀ u ∈ vs, ∃ A n c, u = .slice A n c := by
  intro u hu
  obtain ⟨k, hk, rfl⟩ := List.getElem_of_mem hu
  obtain ⟨A, c, e, -⟩ := own_form (h3 k vs[k] (l[k]'(by omega)) (List.getElem?_eq_getElem hk) (List.getElem?_eq_getElem (by omega)))
  exact ⟨A, _, c, e⟩

theorem insertAt_get {α : Type} (l : List α) (i k : Nat) (p : α) (hi : i ≤ l.length) : (insertAt l i p)[k]? = if k < i then l[k]? else if k = i then some p else l[k - 1]? := by
  unfold insertAt
  rw [List.getElem?_append]
  have hl : (l.take i).length = i := by simp; omega
  rw [hl]
  by_cases h1 : k < i
  · simp [h1]
  · rw [if_neg h1, if_neg h1]
    by_cases h2 : k = i
    · subst h2; simp
    · rw [if_neg h2]
      obtain ⟨m, hm⟩ : ∃ m, k - i = m + 1 := ⟨k - i - 1, by omega⟩
      rw [hm, List.getElem?_cons_succ, List.getElem?_drop]
      congr 1
      omega

/-- A row into which one peer has been laid. -/
theorem OwnP.inserted {w w' : World} {B : Nat} {v v' u : Value} {l : List Peer} {p : Peer} {vs : List Value} {i : Nat} (hi : i ≤ l.length) (h1 : vs.length = l.length) (h2 : w.ownsRow B 40 7 v l.length (cellsOf l vs))
    (h3 : ∀ (k : Nat) (u : Value) (p : Peer), vs[k]? = some u → l[k]? = some p → w.ownsRow B 3 1 u p.vals.length (ints p.vals)) (hu : w.ownsRow B 3 1 u p.vals.length (ints p.vals))
    (hown : w'.ownsRow B 40 7 v' (l.length + 1) ((cellsOf l vs).take (i * 7) ++ peerCells p u ++ (cellsOf l vs).drop (i * 7))) (hg : w.grownBy w' v.ownBlock) : OwnP w' B v' (insertAt l i p) := by
  have hlen : (insertAt l i p).length = l.length + 1 := by simp [insertAt]; omega
  refine ⟨insertAt vs i u, by simp [insertAt, h1], ?_, fun k y q hy hq => ?_⟩
  · rw [hlen]
    have e : cellsOf (insertAt l i p) (insertAt vs i u) = (cellsOf l vs).take (i * 7) ++ peerCells p u ++ (cellsOf l vs).drop (i * 7) := by
      unfold insertAt
      rw [cellsOf_append _ _ _ _ (by simp [h1]), cellsOf_take l vs i h1 hi, cellsOf_drop l vs i h1 hi]
      simp [cellsOf]
    rw [e]
    exact hown
  · have hr : w.ownsRow B 3 1 y q.vals.length (ints q.vals) := by
      rw [insertAt_get _ _ _ _ (by omega)] at hy
      rw [insertAt_get _ _ _ _ hi] at hq
      split at hy
      · rename_i hk
        rw [if_pos hk] at hq
        exact h3 k y q hy hq
      · rename_i hk
        rw [if_neg hk] at hq
        split at hy
        · rename_i hk2
          rw [if_pos hk2] at hq
          injection hy with hy
          injection hq with hq
          subst hy hq
          exact hu
        · rename_i hk2
          rw [if_neg hk2] at hq
          exact h3 _ y q hy hq
    exact hr.kept hg (own_ne hr h2 (by decide))

/-- slices.Insert of one peer into peers of the call's own. -/
theorem insert_any (A : Option Addr) (c : Nat) (l : List Peer) (p : Peer) (A' : Option Addr) (c' : Nat) (i gv B : Nat) (w : World) (h : OwnP w B (.slice A l.length c) l) (hl : l.length ≤ 5) (hi : i ≤ l.length) (hB : B ≤ w.heap.size)
    (hy : w.heap[gv]? = some (.cells (peerCells p (.slice A' p.vals.length c')).toArray 40 (0, 0))) (hne : some gv ≠ A.map (·.block)) (hu : w.ownsRow B 3 1 (.slice A' p.vals.length c') p.vals.length (ints p.vals)) :
    Calls Try.prog 86 #[.slice A l.length c, .int .i64 i, .slice (some ⟨gv, 0, none⟩) 1 1] w
      fun e w' => (∃ v, e = .returned v ∧ OwnP w' B v (insertAt l i p)) ∧ w.grownBy w' (A.map (·.block)) := by
  obtain ⟨vs, h1, h2, h3⟩ := h
  rcases Nat.lt_or_ge i l.length with hlt | hge
  · rcases h2.2 with ⟨_, e2⟩ | ⟨g, cap, cur, e, hBg, hg, hnc, hcm, hcs, htake⟩
    · omega
    · injection e with e1 _ e3
      subst e1 e3
      have hxs : (cur.toList.drop (i * 7)).take ((l.length - i) * 7) = (cellsOf l vs).drop (i * 7) := by
        rw [← htake, List.drop_take]
        congr 1
        omega
      have hx1 : ∀ u ∈ (cur.toList.drop (i * 7)).take ((l.length - i) * 7), u.oneCell' = true := by
        rw [hxs]
        intro u hu
        exact cellsOf_one l vs (OwnP.vs_form h1 h3) u (List.mem_of_mem_drop hu)
      have ht1 : cur.toList.take (i * 7) = (cellsOf l vs).take (i * 7) := by
        rw [← htake, List.take_take]
        congr 1
        omega
      have hyl : (peerCells p (.slice A' p.vals.length c')).length = 7 := rfl
      by_cases hroom : l.length < c
      · refine (insert_room g c l.length i cur _ gv w hg hcs hroom hcm hlt hl hy (by simpa using hne) hyl (peer_one _ _ _ _) hx1).mono ?_
        rintro e w' ⟨⟨cur', rfl, q1, q2, q3⟩, q4⟩
        refine ⟨⟨_, rfl, OwnP.inserted hi h1 h2 h3 hu ⟨?_, .inr ⟨g, c, cur', rfl, hBg, q1, by omega, hcm, q2, ?_⟩⟩ q4⟩, q4⟩
        · rw [List.length_append, List.length_append, List.length_take, List.length_drop, cellsOf_length _ _ h1, hyl]
          omega
        · rw [q3, ht1, htake]
      · refine (insert_grow g c l.length i cur _ gv w hg hcs (by omega) hlt hl hy hyl (peer_one _ _ _ _) hx1).mono ?_
        rintro e w' ⟨⟨v, rfl, q1⟩, q4⟩
        have q5 : w.grownBy w' (some g) := ⟨q4.os, q4.tape, q4.output, q4.size, fun k hk _ => q4.block k hk⟩
        refine ⟨⟨_, rfl, OwnP.inserted hi h1 h2 h3 hu ?_ q5⟩, q5⟩
        rw [ht1, htake] at q1
        exact own_base q1 hB
  · obtain rfl : i = l.length := by omega
    refine (insert_end A c l.length (cellsOf l vs) _ gv B w h2 hl hB hy rfl (peer_one _ _ _ _)).mono ?_
    rintro e w' ⟨⟨v, rfl, q1⟩, q4⟩
    refine ⟨⟨_, rfl, OwnP.inserted hi h1 h2 h3 hu ?_ (by rw [ownBlock_slice]; exact q4)⟩, q4⟩
    have e1 : (cellsOf l vs).take (l.length * 7) = cellsOf l vs := List.take_of_length_le (by rw [cellsOf_length _ _ h1]; omega)
    have e2 : (cellsOf l vs).drop (l.length * 7) = [] := List.drop_eq_nil_of_le (by rw [cellsOf_length _ _ h1]; omega)
    rw [e1, e2, List.append_nil]
    exact q1

end Go.Proofs.Ytmclalhjnjghnaa

namespace Go.Proofs.Ytmclalhjnjghnaa.Hw
open Go

theorem bl_trans : ∀ (x y z : List UInt8), Op.bytesLess x y = true → Op.bytesLess y z = true → Op.bytesLess x z = true
  | _, [], _, h, _ => by cases ‹List UInt8› <;> simp [Op.bytesLess] at h
  | _, _ :: _, [], _, h => by simp [Op.bytesLess] at h
  | [], _ :: _, _ :: _, _, _ => by simp [Op.bytesLess]
  | a :: x, b :: y, c :: z, h1, h2 => by
    simp only [Op.bytesLess, Bool.or_eq_true, Bool.and_eq_true, decide_eq_true_eq, beq_iff_eq] at h1 h2 ⊢
    rcases h1 with h1 | ⟨rfl, h1⟩
    · rcases h2 with h2 | ⟨rfl, h2⟩
      · exact .inl (UInt8.lt_trans h1 h2)
      · exact .inl h1
    · rcases h2 with h2 | ⟨rfl, h2⟩
      · exact .inl h2
      · exact .inr ⟨rfl, bl_trans x y z h1 h2⟩

theorem bl_irrefl : ∀ (x : List UInt8), Op.bytesLess x x = false
  | [] => rfl
  | a :: x => by
    simp only [Op.bytesLess, bl_irrefl x, Bool.and_false, Bool.or_false, decide_eq_false_iff_not]
    exact UInt8.lt_irrefl a

theorem slt_trans {a b c : ByteArray} (h1 : slt a b = true) (h2 : slt b c = true) : slt a c = true := bl_trans _ _ _ h1 h2
theorem slt_irrefl (a : ByteArray) : slt a a = false := bl_irrefl _

/-- What 'chk1' says of one peer when it says nothing bad. -/
structure PeerOk (p : Peer) : Prop where
  id : idOk p.id = true
  gate : gateCheck p.gate = 0
  win : winCheck p.cap p.vals = 0
  lo : 0 ≤ p.last
  hi : p.last ≤ 1073741824

theorem chk1_ok {prev : Option ByteArray} {p : Peer} (h : chk1 prev p = 0) : PeerOk p ∧ (∀ q, prev = some q → slt q p.id = true) := by
  unfold chk1 at h
  split at h
  · cases h
  · rename_i h1
    split at h
    · rename_i h2; exact absurd h h2
    · rename_i h2
      split at h
      · rename_i h3; exact absurd h h3
      · rename_i h3
        split at h
        · cases h
        · rename_i h4
          refine ⟨⟨by simpa using h1, by simpa using h2, by simpa using h3, by omega, by omega⟩, fun q hq => ?_⟩
          subst hq
          simp only at h
          split at h
          · assumption
          · cases h

theorem chk1_of {prev : Option ByteArray} {p : Peer} (h : PeerOk p) (hq : ∀ q, prev = some q → slt q p.id = true) : chk1 prev p = 0 := by
  have h1 := h.lo
  have h2 := h.hi
  unfold chk1
  rw [if_neg (by simp [h.id]), if_neg (by simp [h.gate]), if_neg (by simp [h.win]), if_neg (by omega)]
  cases prev with
  | none => rfl
  | some q => simp [hq q rfl]

/-- In order, each as it may be. -/
def Ordered : Option ByteArray → List Peer → Prop
  | _, [] => True
  | prev, p :: t => PeerOk p ∧ (∀ q, prev = some q → slt q p.id = true) ∧ Ordered (some p.id) t

theorem chkFrom_iff : ∀ (l : List Peer) (prev : Option ByteArray), chkFrom prev l = 0 ↔ Ordered prev l
  | [], prev => by simp [chkFrom, Ordered]
  | p :: t, prev => by
    simp only [chkFrom, Ordered]
    constructor
    · intro h
      split at h
      · rename_i h1; exact absurd h h1
      · rename_i h1
        obtain ⟨a, b⟩ := chk1_ok (by simpa using h1)
        exact ⟨a, b, (chkFrom_iff t _).1 h⟩
    · rintro ⟨a, b, c⟩
      rw [if_neg (by rw [chk1_of a b]; simp)]
      exact (chkFrom_iff t _).2 c

theorem check_iff (l : List Peer) : peersCheck l = 0 ↔ l.length ≤ 6 ∧ Ordered none l := by
  unfold peersCheck
  constructor
  · intro h
    split at h
    · cases h
    · exact ⟨by omega, (chkFrom_iff _ _).1 h⟩
  · rintro ⟨a, b⟩
    rw [if_neg (by omega)]
    exact (chkFrom_iff _ _).2 b

theorem Ordered.ok : ∀ {l : List Peer} {prev : Option ByteArray}, Ordered prev l → ∀ p ∈ l, PeerOk p
  | [], _, _, p, hp => by cases hp
  | q :: t, _, h, p, hp => by
    obtain ⟨a, _, c⟩ := h
    rcases List.mem_cons.1 hp with rfl | hp
    · exact a
    · exact Ordered.ok c p hp

theorem Ordered.above : ∀ {l : List Peer} {a : ByteArray}, Ordered (some a) l → ∀ p ∈ l, slt a p.id = true
  | [], _, _, p, hp => by cases hp
  | q :: t, a, h, p, hp => by
    obtain ⟨_, b, c⟩ := h
    rcases List.mem_cons.1 hp with rfl | hp
    · exact b a rfl
    · exact slt_trans (b a rfl) (Ordered.above c p hp)

theorem Ordered.lt : ∀ {l : List Peer} {prev : Option ByteArray}, Ordered prev l → ∀ i j (hi : i < j) (hj : j < l.length), slt (l[i]'(by omega)).id (l[j]).id = true
  | [], _, _, i, j, _, hj => by simp at hj
  | q :: t, _, h, 0, j + 1, _, hj => by
    obtain ⟨_, _, c⟩ := h
    exact Ordered.above c _ (List.getElem_mem (by simpa using hj))
  | q :: t, _, h, i + 1, j + 1, hi, hj => by
    obtain ⟨_, _, c⟩ := h
    exact Ordered.lt c i j (by omega) (by simpa using hj)

theorem win_len {cap : Int} {vals : List Int} (h : winCheck cap vals = 0) : vals.length ≤ 64 := by
  unfold winCheck listCheck at h
  split at h
  · cases h
  · split at h
    · cases h
    · split at h
      · cases h
      · omega

end Go.Proofs.Ytmclalhjnjghnaa.Hw

namespace Go.Proofs.Ytmclalhjnjghnaa
open Go.RowKit Hw
attribute [local go_sem ↓] Go.wp_at_zero Go.wp_at_succ

theorem ordered_mono {l : List Peer} {prev : Option ByteArray} (h : Ordered prev l) (id : ByteArray) : Mono l id := by
  intro i j hi hj hs
  rcases Nat.lt_or_ge i j with hlt | hge
  · exact slt_trans (h.lt i j hlt hj) hs
  · obtain rfl : i = j := by omega
    exact hs

theorem place_le (l : List Peer) (id : ByteArray) : place l id ≤ l.length := (List.takeWhile_sublist _).length_le

theorem add_bad {l : List Peer} {id : ByteArray} {size first now : Int} (h : peersCheck l ≠ 0) : add l id size first now = ([], peersCheck l) := by
  unfold add; rw [if_pos h]
theorem add_id {l : List Peer} {id : ByteArray} {size first now : Int} (h : peersCheck l = 0) (h1 : (!idOk id) = true) : add l id size first now = ([], 3) := by
  unfold add; rw [if_neg (by simp [h]), if_pos (by simpa using h1)]
theorem add_arg {l : List Peer} {id : ByteArray} {size first now : Int} (h : peersCheck l = 0) (h1 : (!idOk id) = false) (h2 : size < 1 ∨ 64 < size ∨ valOk first = false ∨ now < 0 ∨ 1073741824 < now) : add l id size first now = ([], 1) := by
  unfold add; rw [if_neg (by simp [h]), if_neg (by simpa using h1), if_pos h2]
theorem add_there {l : List Peer} {id : ByteArray} {size first now : Int} (h : peersCheck l = 0) (h1 : (!idOk id) = false) (h2 : ¬ (size < 1 ∨ 64 < size ∨ valOk first = false ∨ now < 0 ∨ 1073741824 < now)) (h3 : found l id = true) : add l id size first now = ([], 5) := by
  unfold add; rw [if_neg (by simp [h]), if_neg (by simpa using h1), if_neg h2, if_pos h3]
theorem add_full {l : List Peer} {id : ByteArray} {size first now : Int} (h : peersCheck l = 0) (h1 : (!idOk id) = false) (h2 : ¬ (size < 1 ∨ 64 < size ∨ valOk first = false ∨ now < 0 ∨ 1073741824 < now)) (h3 : found l id = false) (h4 : l.length = 6) : add l id size first now = ([], 10) := by
  unfold add; rw [if_neg (by simp [h]), if_neg (by simpa using h1), if_neg h2, if_neg (by simp [h3]), if_pos h4]
theorem add_yes {l : List Peer} {id : ByteArray} {size first now : Int} (h : peersCheck l = 0) (h1 : (!idOk id) = false) (h2 : ¬ (size < 1 ∨ 64 < size ∨ valOk first = false ∨ now < 0 ∨ 1073741824 < now)) (h3 : found l id = false) (h4 : l.length ≠ 6) :
    add l id size first now = (insertAt l (place l id) (addPeer id size first now), 0) := by
  unfold add; rw [if_neg (by simp [h]), if_neg (by simpa using h1), if_neg h2, if_neg (by simp [h3]), if_neg h4]

theorem heap_alloc2 (w : World) (o o' : Obj) : ((w.alloc o).alloc o').heap[w.heap.size + 1]? = some o' := by
  have := heap_alloc_new (w.alloc o) o'
  rwa [World.size_alloc] at this

theorem OwnP.form {w : World} {B : Nat} {v : Value} {l : List Peer} (h : OwnP w B v l) : ∃ A c, v = .slice A l.length c ∧ ∀ b, A.map (·.block) = some b → B ≤ b ∧ b < w.heap.size := by
  obtain ⟨vs, _, h2, _⟩ := h
  obtain ⟨A, c, e, _, _⟩ := own_form h2
  refine ⟨A, c, e, fun b hb => ?_⟩
  subst e
  exact h2.lt b (by rw [ownBlock_slice]; exact hb)

/-- The new peer laid behind the copy. -/
theorem insert_after (l : List Peer) (p : Peer) (A' : Option Addr) (c' i B : Nat) (w W w4 : World) (A4 : Option Addr) (c4 : Nat) (hl : l.length ≤ 5) (hi : i ≤ l.length) (hW : Below w.heap.size w W) (hB : B = w.heap.size)
    (hu : Hid (W.ownsRow B 3 1 (.slice A' p.vals.length c') p.vals.length (ints p.vals))) (h : OwnP w4 W.heap.size (.slice A4 l.length c4) l) (hb : Below W.heap.size W w4) :
    Calls Try.prog 86 #[.slice A4 l.length c4, .int .i64 i, .slice (some ⟨w4.heap.size, 0, none⟩) 1 1] (w4.alloc (.cells (peerCells p (.slice A' p.vals.length c')).toArray 40))
      fun e w' => (∃ v, e = .returned v ∧ OwnP w' B v (insertAt l i p)) ∧ Below W.heap.size W w' := by
  subst hB
  obtain ⟨A5, c5, e5, hblk⟩ := h.form
  injection e5 with e5
  subst e5
  have hs := hW.size
  have hs4 := hb.size
  refine (insert_any A4 c4 l p A' c' i w4.heap.size w.heap.size _ ((h.base hs).below ((Below.refl _ _).alloc (Nat.le_refl _) _)) hl hi (by simp; omega) (heap_alloc_new _ _) ?_ ?_).mono ?_
  · intro he
    have := hblk w4.heap.size he.symm
    omega
  · exact (own_below hu.out hb).alloc _
  · rintro e w' ⟨⟨v, rfl, ho⟩, hg⟩
    refine ⟨⟨v, rfl, ho⟩, (hb.alloc (by omega) _).grown hg (by simp; omega) (fun k hk => ?_)⟩
    have := hblk k hk
    omega

/-- The new peer laid ahead of the copy. -/
theorem insert_ahead (l : List Peer) (p : Peer) (A' : Option Addr) (c' i B : Nat) (w W w4 : World) (A4 : Option Addr) (c4 : Nat) (hl : l.length ≤ 5) (hi : i ≤ l.length) (hW : Below w.heap.size w W) (hB : B = w.heap.size)
    (hu : Hid (W.ownsRow B 3 1 (.slice A' p.vals.length c') p.vals.length (ints p.vals))) (h : OwnP w4 (W.alloc (.cells (peerCells p (.slice A' p.vals.length c')).toArray 40)).heap.size (.slice A4 l.length c4) l)
    (hb : Below (W.alloc (.cells (peerCells p (.slice A' p.vals.length c')).toArray 40)).heap.size (W.alloc (.cells (peerCells p (.slice A' p.vals.length c')).toArray 40)) w4) :
    Calls Try.prog 86 #[.slice A4 l.length c4, .int .i64 i, .slice (some ⟨W.heap.size, 0, none⟩) 1 1] w4
      fun e w' => (∃ v, e = .returned v ∧ OwnP w' B v (insertAt l i p)) ∧ Below W.heap.size W w' := by
  subst hB
  obtain ⟨A5, c5, e5, hblk⟩ := h.form
  injection e5 with e5
  subst e5
  have hs := hW.size
  have hs4 := hb.size
  simp only [World.size_alloc] at hs4 hblk
  refine (insert_any A4 c4 l p A' c' i W.heap.size w.heap.size _ (h.base (by simp; omega)) hl hi (by omega) ((hb.block _ (by simp)).trans (heap_alloc_new _ _)) ?_ ?_).mono ?_
  · intro he
    have := hblk W.heap.size he.symm
    omega
  · exact own_below (hu.out.alloc _) hb
  · rintro e w' ⟨⟨v, rfl, ho⟩, hg⟩
    refine ⟨⟨v, rfl, ho⟩, (((Below.refl _ _).alloc (Nat.le_refl _) _).trans (hb.mono (by simp))).grown hg (by omega) (fun k hk => ?_)⟩
    have := hblk k hk
    omega

/-- What peers.Add hands back. -/
def AddPost (w0 : World) (r : List Peer × Int) (e : Ending) (w' : World) : Prop :=
  (∃ v, e = .returned (.tuple #[v, .int .i64 r.2]) ∧ OwnP w' w0.heap.size v r.1) ∧ Below w0.heap.size w0 w'

set_option maxHeartbeats 2000000 in
theorem add_any (A : Option Addr) (c : Nat) (l : List Peer) (id : ByteArray) (size first now : Int) (w : World) (h : PeersR w A l) :
    Calls Try.prog 22 #[.slice A l.length c, .string id, .int .i64 size, .int .i64 first, .int .i64 now] w (AddPost w (add l id size first now)) := by
  have Hh := Lib.hid h
  clear h
  by_cases hp : peersCheck l = 0
  · have hpb : (peersCheck l != 0) = false := by simp [hp]
    obtain ⟨hl, ho⟩ := (check_iff l).1 hp
    have Hm := Lib.hid (ordered_mono ho id)
    have Hv := Lib.hid (fun (k : Nat) (p : Peer) (hk : l[k]? = some p) => win_len (ho.ok p (List.mem_of_getElem? hk)).win)
    have Hp := Lib.hid hp
    clear hp ho
    go_enter Try.func22, Try.ntmps22
    go_wp2_with (first
      | (go_at_call 47; refine (check_any A c l _ Hh.out).mono ?_; rintro e w1 ⟨rfl, hb1⟩)
      | (go_at_call 83; refine (id_any _ _).mono ?_; rintro e w2 ⟨rfl, rfl⟩)
      | (go_at_call 84; refine (val_any _ _).mono ?_; rintro e w2 ⟨rfl, rfl⟩)
      | (go_at_call 85; refine (find_any A c l id _ (Hh.out.below hb1) hl Hm.out).mono ?_; rintro e w3 ⟨rfl, hb3⟩))
    · have x1 : (!idOk id) = true := by assumption
      go_ret2
      rw [add_id Hp.out x1]
      exact ⟨⟨_, rfl, OwnP.nil _ _⟩, hb1⟩
    · have x1 : (!idOk id) = false := by assumption
      go_ret2
      rw [add_arg Hp.out x1 (by omega)]
      exact ⟨⟨_, rfl, OwnP.nil _ _⟩, hb1⟩
    · have x1 : (!idOk id) = false := by assumption
      have x2 : found l id = true := by assumption
      have x3 : valOk first = true := by assumption
      go_ret2
      rw [add_there Hp.out x1 (by simp [x3]; omega) x2]
      exact ⟨⟨_, rfl, OwnP.nil _ _⟩, hb1.trans (hb3.mono hb1.size)⟩
    · have x1 : (!idOk id) = false := by assumption
      have x2 : found l id = false := by assumption
      have x3 : valOk first = true := by assumption
      have x4 : ((l.length : Int) == 6) = true := by assumption
      go_ret2
      rw [add_full Hp.out x1 (by simp [x3]; omega) x2 (by simp at x4; omega)]
      exact ⟨⟨_, rfl, OwnP.nil _ _⟩, hb1.trans (hb3.mono hb1.size)⟩
    · have x1 : (!idOk id) = false := by assumption
      have x2 : found l id = false := by assumption
      have x3 : valOk first = true := by assumption
      have x4 : ((l.length : Int) == 6) = false := by assumption
      have x5 : l.length ≠ 6 := by simp at x4; omega
      have X := Lib.hid (add_yes (l := l) (id := id) (size := size) (first := first) (now := now) Hp.out x1 (by simp [x3]; omega) x2 x5)
      have hl5 : l.length ≤ 5 := by omega
      have hb0 := hb1.trans (hb3.mono hb1.size)
      have hr3 := (Hh.out.below hb1).below hb3
      obtain ⟨W, hW⟩ : ∃ W, W = ((w3.alloc (.cells #[.int .i64 first] 3)).alloc (.cells #[.string id, .int .i64 0, .int .i64 0, .int .i64 0, .int .i64 size, .slice (some ⟨w3.heap.size, 0, none⟩) 1 1, .int .i64 now] 40)) := ⟨_, rfl⟩
      have hW3 : Below w3.heap.size w3 W := by rw [hW]; exact ((Below.refl _ _).alloc (Nat.le_refl _) _).alloc (by simp) _
      have Hb := Lib.hid (hb0.trans (hW3.mono hb0.size))
      have Hr := Lib.hid (hr3.below hW3)
      have hz : w3.heap.size + 1 < W.heap.size := by rw [hW]; simp
      have Hu : Hid (W.ownsRow w.heap.size 3 1 (.slice (some ⟨w3.heap.size, 0, none⟩) 1 1) 1 (ints [first])) := by
        rw [hW]
        refine World.ownsRow.alloc ?_ _
        exact ⟨rfl, .inr ⟨w3.heap.size, 1, #[.int .i64 first], rfl, hb0.size, heap_alloc_new _ _, Nat.le_refl _, by simp [maxLen], rfl, rfl⟩⟩
      have hp : W.heap[w3.heap.size + 1]? = some (.cells (peerCells (addPeer id size first now) (.slice (some ⟨w3.heap.size, 0, none⟩) 1 1)).toArray 40 (0, 0)) := by
        rw [hW]
        exact heap_alloc2 _ _ _
      have Hp15 := Lib.hid hp
      have cp : ∀ i, W.cell? ⟨w3.heap.size + 1, i, none⟩ = (peerCells (addPeer id size first now) (.slice (some ⟨w3.heap.size, 0, none⟩) 1 1)).toArray[i]? := fun i => cell_of_row W _ i _ 40 (0, 0) hp
      have c0 := cp 0
      have c1 := cp 1
      have c2 := cp 2
      have c3 := cp 3
      have c4 := cp 4
      have c5 := cp 5
      have c6 := cp 6
      simp [addPeer] at c0 c1 c2 c3 c4 c5 c6
      rw [← hW]
      clear x1 x2 x3 x4 x5 hb1 hb3 hpb hb0 hr3 hW hW3 hp cp
      go_region_held3 (fun w' => w'.cell? ⟨w3.heap.size + 1, 0, none⟩ = some (.string id) ∧ w'.cell? ⟨w3.heap.size + 1, 1, none⟩ = some (.int .i64 0) ∧ w'.cell? ⟨w3.heap.size + 1, 2, none⟩ = some (.int .i64 0) ∧
        w'.cell? ⟨w3.heap.size + 1, 3, none⟩ = some (.int .i64 0) ∧ w'.cell? ⟨w3.heap.size + 1, 4, none⟩ = some (.int .i64 size) ∧ w'.cell? ⟨w3.heap.size + 1, 5, none⟩ = some (.slice (some ⟨w3.heap.size, 0, none⟩) 1 1) ∧
        w'.cell? ⟨w3.heap.size + 1, 6, none⟩ = some (.int .i64 now)) (go_keep)
        (first
          | (go_at_call 87; refine (copied_any A c l _ (Hr.out.below (by first | exact (Below.refl _ _).drew | exact ((Below.refl _ _).drew).alloc (by simp) _)) hl Hv.out).mono ?_; rintro e w4 ⟨⟨v4, rfl, ho4⟩, hb4⟩; obtain ⟨A4, c4, rfl, -⟩ := ho4.form; have Ho4 := Lib.hid ho4; have hk4 := (fun i => hb4.cell (p := ⟨w3.heap.size + 1, i, none⟩) (by simp; omega)); clear ho4)
          | (go_at_call 86; refine (insert_after l (addPeer id size first now) (some ⟨w3.heap.size, 0, none⟩) 1 (place l id) w.heap.size w W.drew _ _ _ hl5 (place_le _ _) Hb.out.drew rfl Hu Ho4.out hb4).mono ?_; rintro e w5 ⟨⟨v5, rfl, ho5⟩, hb5⟩; have Ho5 := Lib.hid ho5; have hk5 := (fun i => hb5.cell (p := ⟨w3.heap.size + 1, i, none⟩) (by simp; omega)); clear ho5)
          | (go_at_call 86; refine (insert_ahead l (addPeer id size first now) (some ⟨w3.heap.size, 0, none⟩) 1 (place l id) w.heap.size w W.drew _ _ _ hl5 (place_le _ _) Hb.out.drew rfl Hu Ho4.out hb4).mono ?_; rintro e w5 ⟨⟨v5, rfl, ho5⟩, hb5⟩; have Ho5 := Lib.hid ho5; have hk5 := (fun i => hb5.cell (p := ⟨w3.heap.size + 1, i, none⟩) (by simp; omega)); clear ho5))
      all_goals
        have hfin : Below w.heap.size w w5 := Hb.out.drew.trans (hb5.mono Hb.out.size)
        go_wp2_with fail
        go_ret2
        rw [X.out]
        exact ⟨⟨_, rfl, Ho5.out⟩, hfin⟩
    · have x1 : (!idOk id) = false := by assumption
      go_ret2
      rw [add_arg Hp.out x1 (by omega)]
      exact ⟨⟨_, rfl, OwnP.nil _ _⟩, hb1⟩
    · have x1 : (!idOk id) = false := by assumption
      have x3 : ¬ valOk first = true := by assumption
      go_ret2
      rw [add_arg Hp.out x1 (by simp [x3])]
      exact ⟨⟨_, rfl, OwnP.nil _ _⟩, hb1⟩
    · have x1 : (!idOk id) = false := by assumption
      go_ret2
      rw [add_arg Hp.out x1 (by omega)]
      exact ⟨⟨_, rfl, OwnP.nil _ _⟩, hb1⟩
    · have x1 : (!idOk id) = false := by assumption
      go_ret2
      rw [add_arg Hp.out x1 (by omega)]
      exact ⟨⟨_, rfl, OwnP.nil _ _⟩, hb1⟩
  · have hpb : (peersCheck l != 0) = true := by simp [hp]
    go_enter Try.func22, Try.ntmps22
    go_wp2_with (go_at_call 47; refine (check_any A c l _ Hh.out).mono ?_; rintro e w1 ⟨rfl, hb1⟩)
    go_ret2
    rw [add_bad hp]
    exact ⟨⟨_, rfl, OwnP.nil _ _⟩, hb1⟩

end Go.Proofs.Ytmclalhjnjghnaa

namespace Go.Proofs.Ytmclalhjnjghnaa
open Go.RowKit Hw

theorem info85 : (Try.prog.info? 85).map (fun i => (i.zero, i.size, i.bytes)) = some (some (.agg #[.string ByteArray.empty, .int .i64 0, .bool false]), 3, 32) := by kernel_rfl
theorem info9 : (Try.prog.info? 9).map (fun i => (i.zero, i.size, i.bytes)) = some (some (.string ByteArray.empty), 1, 16) := by kernel_rfl

theorem zeros7 : (Builtin.zeroCells (Value.agg #[.string ByteArray.empty, .int .i64 0, .int .i64 0, .int .i64 0, .int .i64 0, .slice none 0 0, .int .i64 0]).cells 1).toList = [.string ByteArray.empty, .int .i64 0, .int .i64 0, .int .i64 0, .int .i64 0, .slice none 0 0, .int .i64 0] := by kernel_rfl
theorem zeros3 : (Builtin.zeroCells (Value.agg #[.string ByteArray.empty, .int .i64 0, .bool false]).cells 1).toList = [.string ByteArray.empty, .int .i64 0, .bool false] := by kernel_rfl
theorem zeros1 : (Builtin.zeroCells (Value.string ByteArray.empty).cells 1).toList = [.string ByteArray.empty] := by kernel_rfl

/-- One element less, the last place laid zero. -/
theorem del_take {α : Type} (cur zs cs : List α) (a b k : Nat) (hcs : cs.length = b) (hk : k = a + b) (hab : a + b ≤ cur.length) :
    (((cur.take a ++ cs ++ cur.drop (a + cs.length)).take k ++ zs ++ (cur.take a ++ cs ++ cur.drop (a + cs.length)).drop (k + zs.length)).take k) = cur.take a ++ cs := by
  subst hcs
  subst hk
  have hl := spl_len cur cs a hab
  rw [List.append_assoc, List.take_append_of_le_length (by rw [List.length_take, hl]; omega), List.take_take, Nat.min_self]
  exact spl_take cur cs a _ (by omega) rfl

theorem del_len {α : Type} (cur zs cs : List α) (a b k : Nat) (hcs : cs.length = b) (hk : k = a + b) (hab : a + b + zs.length ≤ cur.length) :
    (((cur.take a ++ cs ++ cur.drop (a + cs.length)).take k ++ zs ++ (cur.take a ++ cs ++ cur.drop (a + cs.length)).drop (k + zs.length))).length = cur.length := by
  subst hcs
  subst hk
  have hl := spl_len cur cs a (by omega)
  rw [spl_len _ _ _ (by omega), hl]

section
variable {P : Program} {w : World}

/-- 'append' within the room of a row that is known whole. -/
theorem wpList_append_within {ops : Array Oper} {rest : List Oper} {o : Oper} {a : Act} {Q : Exit → Act → World → Prop} (hgd : o.guard = none) (s x : Operand) (t : TypeId)
    (ho : o.op = .call { callee := .builtin .append, args := #[s, x], argTypes := #[t, t] }) (e : TypeId) (i : TypeInfo) (ht : P.underlying t = some (.slice e)) (hi : P.info? e = some i)
    (g sLen sCap m c tot : Nat) (ad : Addr) (hs : a.eval s = .slice (some ⟨g, 0, none⟩) sLen sCap) (hx : a.eval x = .slice (some ad) m c) (cur : Array Value) (hg : w.heap[g]? = some (.cells cur e (0, 0)))
    (news : List Value) (hl : news.length = m * i.size) (hnews : ∀ j u, news[j]? = some u → w.cell? (ad.add j) = some u) (h1 : ∀ u ∈ news, u.oneCell' = true) (htot : sLen + m = tot) (hroom : tot ≤ sCap)
    (hfit : sLen * i.size + news.length ≤ cur.size)
    (h : ∀ w', Hid (w'.heap[g]? = some (.cells (cur.toList.take (sLen * i.size) ++ news ++ cur.toList.drop (sLen * i.size + news.length)).toArray e (0, 0))) → w.grownBy w' (some g) →
      wpList P ops Q rest (a.put o.dst (.slice (some ⟨g, 0, none⟩) tot sCap)) w') : wpList P ops Q (o :: rest) a w := by
  subst htot
  have hr := run_append_room (P := P) w t o.type e i ht hi g sLen sCap cur hg ad m c news hl hnews h1 hroom hfit
  refine Lib.wpList_append_run w hgd s x t t ho _ _ hs hx _ _ hr (h _ ?_ ?_)
  · exact setRow_heap w g cur _ e _ hg
  · exact ⟨rfl, rfl, rfl, by simp, fun k _ hk => setRow_other w g k _ (fun e => hk (by rw [e]))⟩

theorem run_clear_cells (t ty elem : TypeId) (i : TypeInfo) (z : Value) (ht : P.underlying t = some (.slice elem)) (hi : P.info? elem = some i) (hz : i.zero = some z)
    (g off n c : Nat) (cur : Array Value) (hg : w.heap[g]? = some (.cells cur elem (0, 0))) (hn : 0 < n) (zs : List Value) (hzs : (Builtin.zeroCells z.cells n).toList = zs) (hfit : off + zs.length ≤ cur.size) (h1 : ∀ u ∈ zs, u.oneCell' = true) :
    (Builtin.clear_ #[t] ty #[.slice (some ⟨g, off, none⟩) n c]).run P w = .ok (.tuple #[]) (w.setRow g (cur.toList.take off ++ zs ++ cur.toList.drop (off + zs.length)).toArray) := by
  have hst := run_storeCells_at P g off elem zs 0 cur w hg (by simpa using hfit) h1
  simp only [Nat.add_zero] at hst
  obtain ⟨n, rfl⟩ : ∃ m, n = m + 1 := ⟨n - 1, by omega⟩
  simp [Builtin.clear_, run_underlying ht, zeroValue, typeInfo, hi, hz, hzs, hst]

/-- 'clear' of a part of a row that is known whole. -/
theorem wpList_clear_cells {ops : Array Oper} {rest : List Oper} {o : Oper} {a : Act} {Q : Exit → Act → World → Prop} (hgd : o.guard = none) (x : Operand) (t : TypeId)
    (ho : o.op = .call { callee := .builtin .clear, args := #[x], argTypes := #[t] }) (elem : TypeId) (i : TypeInfo) (z : Value) (ht : P.underlying t = some (.slice elem)) (hi : P.info? elem = some i) (hz : i.zero = some z)
    (g off n c : Nat) (hx : a.eval x = .slice (some ⟨g, off, none⟩) n c) (cur : Array Value) (hg : w.heap[g]? = some (.cells cur elem (0, 0))) (hn : 0 < n) (zs : List Value) (hzs : (Builtin.zeroCells z.cells n).toList = zs)
    (hfit : off + zs.length ≤ cur.size) (h1 : ∀ u ∈ zs, u.oneCell' = true)
    (h : ∀ w', Hid (w'.heap[g]? = some (.cells (cur.toList.take off ++ zs ++ cur.toList.drop (off + zs.length)).toArray elem (0, 0))) → w.grownBy w' (some g) →
      wpList P ops Q rest (a.put o.dst (.tuple #[])) w') : wpList P ops Q (o :: rest) a w := by
  refine wpList_plain hgd fun K hK => ?_
  have hrun := run_clear_cells (P := P) t o.type elem i z ht hi hz g off n c cur hg hn zs hzs hfit h1
  unfold Oper.wp execOp
  simp only [ho, resolve, invoke, builtin, Sem.run_bind, Sem.run_pure, Result.andThen_ok, List.map_toArray, List.map_cons, List.map_nil, hx, hrun]
  refine hK _ _ (h _ ?_ ?_)
  · exact setRow_heap w g cur _ elem _ hg
  · exact ⟨rfl, rfl, rfl, by simp, fun k _ hk => setRow_other w g k _ (fun e => hk (by rw [e]))⟩
end

theorem grown2 {a b c : World} {r : Option Nat} (h : a.grownBy b r) (k : b.grownBy c r) : a.grownBy c r :=
  ⟨k.os.trans h.os, k.tape.trans h.tape, k.output.trans h.output, Nat.le_trans h.size k.size, fun i hi hne => (k.block i (Nat.lt_of_lt_of_le hi h.size) hne).trans (h.block i hi hne)⟩

end Go.Proofs.Ytmclalhjnjghnaa

namespace Go.Proofs.Ytmclalhjnjghnaa
open Go.RowKit Hw


set_option maxRecDepth 100000 in
set_option maxHeartbeats 2000000 in
theorem delP_cells (g cap n i : Nat) (cur : Array Value) (w : World) (hg : w.heap[g]? = some (.cells cur 40 (0, 0))) (hcur : cur.size = cap * 7) (hcap : n ≤ cap) (hm : cap ≤ maxLen) (hi : i < n)
    (hx1 : ∀ u ∈ (cur.toList.drop ((i + 1) * 7)).take ((n - (i + 1)) * 7), u.oneCell' = true) :
    Calls Try.prog 88 #[.slice (some ⟨g, 0, none⟩) n cap, .int .i64 i, .int .i64 (i + 1)] w
      fun e w' => (∃ cur', e = .returned (.slice (some ⟨g, 0, none⟩) (n - 1) cap) ∧ w'.heap[g]? = some (.cells cur' 40 (0, 0)) ∧ cur'.size = cap * 7 ∧
        cur'.toList.take ((n - 1) * 7) = cur.toList.take (i * 7) ++ (cur.toList.drop ((i + 1) * 7)).take ((n - (i + 1)) * 7)) ∧ w.grownBy w' (some g) := by
  obtain ⟨i0, hi0, hz0, hz1, hz2⟩ := info_parts info40
  have hii : (i : Int) < (n : Int) := by omega
  have hi1 : (i : Int) + 1 ≤ (n : Int) := by omega
  have hcc : (n : Int) ≤ (cap : Int) := by omega
  have hm' : cap ≤ 9223372036854775807 := by simp only [maxLen] at hm; omega
  have hm'' : (cap : Int) ≤ 9223372036854775807 := by omega
  have hd : ((i : Int) == (i : Int) + 1) = false := by simp; omega
  have Hg := Lib.hid hg
  have Hcur := Lib.hid hcur
  have Hm := Lib.hid hm
  clear hg hcur hm
  have k1 : IntKind.i64.wrap ((i : Int) + 1) = (i : Int) + 1 := IntWalk.i64_in _ (by omega)
  have k2 : (0 : Int) ≤ (i : Int) + 1 := by omega
  have k3 : ((i : Int) + 1).toNat = i + 1 := by omega
  have k6 : (0 : Int) ≤ (i : Int) := by omega
  have k7 : (i : Int) ≤ (n : Int) := by omega
  have k8 : (i : Int) ≤ (cap : Int) := by omega
  have k9 : (i : Int) + 1 ≤ (cap : Int) := by omega
  go_enter Try.func88, Try.ntmps88
  go_wp2_with fail
  go_still_tail 6, (by kernel_rfl)
  change wpList _ _ _ _ _ w.drew
  obtain ⟨ad, hA, hnews⟩ : ∃ ad : Addr, (if cap = i + 1 then some ({ block := g, off := 0 } : Addr) else some { block := g, off := (i + 1) * 7 }) = some ad ∧
      ∀ j u, ((cur.toList.drop ((i + 1) * 7)).take ((n - (i + 1)) * 7))[j]? = some u → w.cell? (ad.add j) = some u := by
    by_cases hq : cap = i + 1
    · have h0 : n - (i + 1) = 0 := by omega
      exact ⟨_, if_pos hq, fun j u hu => by simp [h0] at hu⟩
    · refine ⟨_, if_neg hq, ?_⟩
      exact rowcells Hg.out _ _
  rw [hA]
  have Hn := Lib.hid hnews
  clear hA hnews
  refine wpList_append_within (o := ⟨some 26, _, _, _, _, _⟩) (by rfl) (.tmp 22) (.tmp 25) 22 (by rfl) 40 i0 Try.underlying22 hi0 g i cap (n - (i + 1)) _ (n - 1) ad (by rfl) (by rfl) cur (by exact Hg.out) ((cur.toList.drop ((i + 1) * 7)).take ((n - (i + 1)) * 7)) ?_ ?_ hx1 ?_ ?_ ?_ ?_
  · have := Hcur.out
    rw [hz1]
    simp
    omega
  · exact Hn.out
  · omega
  · omega
  · have := Hcur.out
    rw [hz1]
    simp
    omega
  · intro w2 hh2 hg2
    have hg2' : w.grownBy w2 (some g) := ⟨hg2.os, hg2.tape, hg2.output, hg2.size, hg2.block⟩
    rw [hz1] at hh2
    have q1 : ((n : Int) - 1) = ((n - 1 : Nat) : Int) := by omega
    clear k1 k2 k3 k6 k7 k8 k9 hg2 Hn q1
    have k1 : ((n - 1 : Nat) : Int) ≤ (n : Int) := by omega
    have k2 : ((n - 1 : Nat) : Int) < (cap : Int) := by omega
    have k3 : n - (n - 1) = 1 := by omega
    have q5 := Hcur.out
    go_wp2_with ((refine wpList_clear_cells (o := ⟨none, _, _, _, _, _⟩) (by rfl) (.tmp 31) 22 (by rfl) 40 i0 _ Try.underlying22 hi0 hz0 g ((n - 1) * 7) 1 _ (by rfl) _ (by exact hh2.out) (by omega) [.string ByteArray.empty, .int .i64 0, .int .i64 0, .int .i64 0, .int .i64 0, .slice none 0 0, .int .i64 0] zeros7 (by simp; omega) (by simp [Value.oneCell']) ?_; intro w3 hh3 hg3))
    go_ret
    have q6 : ((cur.toList.drop ((i + 1) * 7)).take ((n - (i + 1)) * 7)).length = (n - (i + 1)) * 7 := by simp; omega
    have q7 : cur.toList.length = cap * 7 := by simpa using q5
    refine ⟨⟨rfl, _, hh3.out, ?_, ?_⟩, grown2 hg2' hg3⟩
    · have := del_len cur.toList [.string ByteArray.empty, .int .i64 0, .int .i64 0, .int .i64 0, .int .i64 0, .slice none 0 0, .int .i64 0] ((cur.toList.drop ((i + 1) * 7)).take ((n - (i + 1)) * 7)) (i * 7) _ ((n - 1) * 7) q6 (by omega) (by simp; omega)
      simpa [q5] using this
    · exact del_take cur.toList [.string ByteArray.empty, .int .i64 0, .int .i64 0, .int .i64 0, .int .i64 0, .slice none 0 0, .int .i64 0] _ (i * 7) ((n - (i + 1)) * 7) ((n - 1) * 7) q6 (by omega) (by omega)

set_option maxRecDepth 100000 in
set_option maxHeartbeats 2000000 in
theorem delSub_cells (g cap n i : Nat) (cur : Array Value) (w : World) (hg : w.heap[g]? = some (.cells cur 85 (0, 0))) (hcur : cur.size = cap * 3) (hcap : n ≤ cap) (hm : cap ≤ maxLen) (hi : i < n)
    (hx1 : ∀ u ∈ (cur.toList.drop ((i + 1) * 3)).take ((n - (i + 1)) * 3), u.oneCell' = true) :
    Calls Try.prog 109 #[.slice (some ⟨g, 0, none⟩) n cap, .int .i64 i, .int .i64 (i + 1)] w
      fun e w' => (∃ cur', e = .returned (.slice (some ⟨g, 0, none⟩) (n - 1) cap) ∧ w'.heap[g]? = some (.cells cur' 85 (0, 0)) ∧ cur'.size = cap * 3 ∧
        cur'.toList.take ((n - 1) * 3) = cur.toList.take (i * 3) ++ (cur.toList.drop ((i + 1) * 3)).take ((n - (i + 1)) * 3)) ∧ w.grownBy w' (some g) := by
  obtain ⟨i0, hi0, hz0, hz1, hz2⟩ := info_parts info85
  have hii : (i : Int) < (n : Int) := by omega
  have hi1 : (i : Int) + 1 ≤ (n : Int) := by omega
  have hcc : (n : Int) ≤ (cap : Int) := by omega
  have hm' : cap ≤ 9223372036854775807 := by simp only [maxLen] at hm; omega
  have hm'' : (cap : Int) ≤ 9223372036854775807 := by omega
  have hd : ((i : Int) == (i : Int) + 1) = false := by simp; omega
  have Hg := Lib.hid hg
  have Hcur := Lib.hid hcur
  have Hm := Lib.hid hm
  clear hg hcur hm
  have k1 : IntKind.i64.wrap ((i : Int) + 1) = (i : Int) + 1 := IntWalk.i64_in _ (by omega)
  have k2 : (0 : Int) ≤ (i : Int) + 1 := by omega
  have k3 : ((i : Int) + 1).toNat = i + 1 := by omega
  have k6 : (0 : Int) ≤ (i : Int) := by omega
  have k7 : (i : Int) ≤ (n : Int) := by omega
  have k8 : (i : Int) ≤ (cap : Int) := by omega
  have k9 : (i : Int) + 1 ≤ (cap : Int) := by omega
  go_enter Try.func109, Try.ntmps109
  go_wp2_with fail
  go_still_tail 6, (by kernel_rfl)
  change wpList _ _ _ _ _ w.drew
  obtain ⟨ad, hA, hnews⟩ : ∃ ad : Addr, (if cap = i + 1 then some ({ block := g, off := 0 } : Addr) else some { block := g, off := (i + 1) * 3 }) = some ad ∧
      ∀ j u, ((cur.toList.drop ((i + 1) * 3)).take ((n - (i + 1)) * 3))[j]? = some u → w.cell? (ad.add j) = some u := by
    by_cases hq : cap = i + 1
    · have h0 : n - (i + 1) = 0 := by omega
      exact ⟨_, if_pos hq, fun j u hu => by simp [h0] at hu⟩
    · refine ⟨_, if_neg hq, ?_⟩
      exact rowcells Hg.out _ _
  rw [hA]
  have Hn := Lib.hid hnews
  clear hA hnews
  refine wpList_append_within (o := ⟨some 26, _, _, _, _, _⟩) (by rfl) (.tmp 22) (.tmp 25) 82 (by rfl) 85 i0 Try.underlying82 hi0 g i cap (n - (i + 1)) _ (n - 1) ad (by rfl) (by rfl) cur (by exact Hg.out) ((cur.toList.drop ((i + 1) * 3)).take ((n - (i + 1)) * 3)) ?_ ?_ hx1 ?_ ?_ ?_ ?_
  · have := Hcur.out
    rw [hz1]
    simp
    omega
  · exact Hn.out
  · omega
  · omega
  · have := Hcur.out
    rw [hz1]
    simp
    omega
  · intro w2 hh2 hg2
    have hg2' : w.grownBy w2 (some g) := ⟨hg2.os, hg2.tape, hg2.output, hg2.size, hg2.block⟩
    rw [hz1] at hh2
    have q1 : ((n : Int) - 1) = ((n - 1 : Nat) : Int) := by omega
    clear k1 k2 k3 k6 k7 k8 k9 hg2 Hn q1
    have k1 : ((n - 1 : Nat) : Int) ≤ (n : Int) := by omega
    have k2 : ((n - 1 : Nat) : Int) < (cap : Int) := by omega
    have k3 : n - (n - 1) = 1 := by omega
    have q5 := Hcur.out
    go_wp2_with ((refine wpList_clear_cells (o := ⟨none, _, _, _, _, _⟩) (by rfl) (.tmp 31) 82 (by rfl) 85 i0 _ Try.underlying82 hi0 hz0 g ((n - 1) * 3) 1 _ (by rfl) _ (by exact hh2.out) (by omega) [.string ByteArray.empty, .int .i64 0, .bool false] zeros3 (by simp; omega) (by simp [Value.oneCell']) ?_; intro w3 hh3 hg3))
    go_ret
    have q6 : ((cur.toList.drop ((i + 1) * 3)).take ((n - (i + 1)) * 3)).length = (n - (i + 1)) * 3 := by simp; omega
    have q7 : cur.toList.length = cap * 3 := by simpa using q5
    refine ⟨⟨rfl, _, hh3.out, ?_, ?_⟩, grown2 hg2' hg3⟩
    · have := del_len cur.toList [.string ByteArray.empty, .int .i64 0, .bool false] ((cur.toList.drop ((i + 1) * 3)).take ((n - (i + 1)) * 3)) (i * 3) _ ((n - 1) * 3) q6 (by omega) (by simp; omega)
      simpa [q5] using this
    · exact del_take cur.toList [.string ByteArray.empty, .int .i64 0, .bool false] _ (i * 3) ((n - (i + 1)) * 3) ((n - 1) * 3) q6 (by omega) (by omega)

set_option maxRecDepth 100000 in
set_option maxHeartbeats 2000000 in
theorem delS_cells (g cap n i : Nat) (cur : Array Value) (w : World) (hg : w.heap[g]? = some (.cells cur 9 (0, 0))) (hcur : cur.size = cap * 1) (hcap : n ≤ cap) (hm : cap ≤ maxLen) (hi : i < n)
    (hx1 : ∀ u ∈ (cur.toList.drop ((i + 1) * 1)).take ((n - (i + 1)) * 1), u.oneCell' = true) :
    Calls Try.prog 111 #[.slice (some ⟨g, 0, none⟩) n cap, .int .i64 i, .int .i64 (i + 1)] w
      fun e w' => (∃ cur', e = .returned (.slice (some ⟨g, 0, none⟩) (n - 1) cap) ∧ w'.heap[g]? = some (.cells cur' 9 (0, 0)) ∧ cur'.size = cap * 1 ∧
        cur'.toList.take ((n - 1) * 1) = cur.toList.take (i * 1) ++ (cur.toList.drop ((i + 1) * 1)).take ((n - (i + 1)) * 1)) ∧ w.grownBy w' (some g) := by
  obtain ⟨i0, hi0, hz0, hz1, hz2⟩ := info_parts info9
  have hii : (i : Int) < (n : Int) := by omega
  have hi1 : (i : Int) + 1 ≤ (n : Int) := by omega
  have hcc : (n : Int) ≤ (cap : Int) := by omega
  have hm' : cap ≤ 9223372036854775807 := by simp only [maxLen] at hm; omega
  have hm'' : (cap : Int) ≤ 9223372036854775807 := by omega
  have hd : ((i : Int) == (i : Int) + 1) = false := by simp; omega
  have Hg := Lib.hid hg
  have Hcur := Lib.hid hcur
  have Hm := Lib.hid hm
  clear hg hcur hm
  have k1 : IntKind.i64.wrap ((i : Int) + 1) = (i : Int) + 1 := IntWalk.i64_in _ (by omega)
  have k2 : (0 : Int) ≤ (i : Int) + 1 := by omega
  have k3 : ((i : Int) + 1).toNat = i + 1 := by omega
  have k6 : (0 : Int) ≤ (i : Int) := by omega
  have k7 : (i : Int) ≤ (n : Int) := by omega
  have k8 : (i : Int) ≤ (cap : Int) := by omega
  have k9 : (i : Int) + 1 ≤ (cap : Int) := by omega
  go_enter Try.func111, Try.ntmps111
  go_wp2_with fail
  go_still_tail 6, (by kernel_rfl)
  change wpList _ _ _ _ _ w.drew
  obtain ⟨ad, hA, hnews⟩ : ∃ ad : Addr, (if cap = i + 1 then some ({ block := g, off := 0 } : Addr) else some { block := g, off := i + 1 }) = some ad ∧
      ∀ j u, ((cur.toList.drop ((i + 1) * 1)).take ((n - (i + 1)) * 1))[j]? = some u → w.cell? (ad.add j) = some u := by
    by_cases hq : cap = i + 1
    · have h0 : n - (i + 1) = 0 := by omega
      exact ⟨_, if_pos hq, fun j u hu => by simp [h0] at hu⟩
    · refine ⟨_, if_neg hq, ?_⟩
      have hh := rowcells Hg.out ((i + 1) * 1) ((n - (i + 1)) * 1)
      simpa using hh
  rw [hA]
  have Hn := Lib.hid hnews
  clear hA hnews
  refine wpList_append_within (o := ⟨some 26, _, _, _, _, _⟩) (by rfl) (.tmp 22) (.tmp 25) 48 (by rfl) 9 i0 Try.underlying48 hi0 g i cap (n - (i + 1)) _ (n - 1) ad (by rfl) (by rfl) cur (by exact Hg.out) ((cur.toList.drop ((i + 1) * 1)).take ((n - (i + 1)) * 1)) ?_ ?_ hx1 ?_ ?_ ?_ ?_
  · have := Hcur.out
    rw [hz1]
    simp
    omega
  · exact Hn.out
  · omega
  · omega
  · have := Hcur.out
    rw [hz1]
    simp
    omega
  · intro w2 hh2 hg2
    have hg2' : w.grownBy w2 (some g) := ⟨hg2.os, hg2.tape, hg2.output, hg2.size, hg2.block⟩
    rw [hz1] at hh2
    have q1 : ((n : Int) - 1) = ((n - 1 : Nat) : Int) := by omega
    clear k1 k2 k3 k6 k7 k8 k9 hg2 Hn q1
    have k1 : ((n - 1 : Nat) : Int) ≤ (n : Int) := by omega
    have k2 : ((n - 1 : Nat) : Int) < (cap : Int) := by omega
    have k3 : n - (n - 1) = 1 := by omega
    have q5 := Hcur.out
    go_wp2_with ((refine wpList_clear_cells (o := ⟨none, _, _, _, _, _⟩) (by rfl) (.tmp 31) 48 (by rfl) 9 i0 _ Try.underlying48 hi0 hz0 g (n - 1) 1 _ (by rfl) _ (by exact hh2.out) (by omega) [.string ByteArray.empty] zeros1 (by simp; omega) (by simp [Value.oneCell']) ?_; intro w3 hh3 hg3))
    go_ret
    have q6 : ((cur.toList.drop ((i + 1) * 1)).take ((n - (i + 1)) * 1)).length = (n - (i + 1)) * 1 := by simp; omega
    have q7 : cur.toList.length = cap * 1 := by simpa using q5
    refine ⟨⟨rfl, _, hh3.out, ?_, ?_⟩, grown2 hg2' hg3⟩
    · have := del_len cur.toList [.string ByteArray.empty] ((cur.toList.drop ((i + 1) * 1)).take ((n - (i + 1)) * 1)) (i * 1) _ (n - 1) q6 (by omega) (by simp; omega)
      simpa [q5] using this
    · simpa only [Nat.mul_one] using del_take cur.toList [.string ByteArray.empty] _ (i * 1) ((n - (i + 1)) * 1) (n - 1) q6 (by omega) (by omega)

end Go.Proofs.Ytmclalhjnjghnaa

namespace Go.Proofs.Ytmclalhjnjghnaa
open Go.RowKit Hw

theorem eraseIdx_get {α : Type} (l : List α) (i k : Nat) : (l.eraseIdx i)[k]? = if k < i then l[k]? else l[k + 1]? := by
  rw [List.getElem?_eraseIdx]

theorem eraseIdx_td {α : Type} (l : List α) (i : Nat) : l.eraseIdx i = l.take i ++ l.drop (i + 1) := List.eraseIdx_eq_take_drop_succ l i

/-- A row out of which one peer has been taken. -/
theorem OwnP.erased {w w' : World} {B : Nat} {v v' : Value} {l : List Peer} {vs : List Value} {i : Nat} (hi : i < l.length) (h1 : vs.length = l.length) (h2 : w.ownsRow B 40 7 v l.length (cellsOf l vs))
    (h3 : ∀ (k : Nat) (u : Value) (p : Peer), vs[k]? = some u → l[k]? = some p → w.ownsRow B 3 1 u p.vals.length (ints p.vals))
    (hown : w'.ownsRow B 40 7 v' (l.length - 1) ((cellsOf l vs).take (i * 7) ++ (cellsOf l vs).drop ((i + 1) * 7))) (hg : w.grownBy w' v.ownBlock) : OwnP w' B v' (l.eraseIdx i) := by
  have hlen : (l.eraseIdx i).length = l.length - 1 := by rw [List.length_eraseIdx, if_pos hi]
  refine ⟨vs.eraseIdx i, by rw [List.length_eraseIdx, if_pos (by omega), hlen, h1], ?_, fun k y q hy hq => ?_⟩
  · rw [hlen]
    have e : cellsOf (l.eraseIdx i) (vs.eraseIdx i) = (cellsOf l vs).take (i * 7) ++ (cellsOf l vs).drop ((i + 1) * 7) := by
      rw [eraseIdx_td, eraseIdx_td, cellsOf_append _ _ _ _ (by simp [h1]), cellsOf_take l vs i h1 (by omega), cellsOf_drop l vs (i + 1) h1 (by omega)]
    rw [e]
    exact hown
  · have hr : w.ownsRow B 3 1 y q.vals.length (ints q.vals) := by
      rw [eraseIdx_get] at hy hq
      split at hy
      · rename_i hk
        rw [if_pos hk] at hq
        exact h3 k y q hy hq
      · rename_i hk
        rw [if_neg hk] at hq
        exact h3 _ y q hy hq
    exact hr.kept hg (own_ne hr h2 (by decide))

theorem found_lt {l : List Peer} {id : ByteArray} (h : found l id = true) : place l id < l.length := by
  unfold found at h
  split at h
  · rename_i p hp
    exact (List.getElem?_eq_some_iff.1 hp).1
  · cases h

/-- slices.Delete of one peer out of peers of the call's own. -/
theorem delP_any (A : Option Addr) (c : Nat) (l : List Peer) (i B : Nat) (w : World) (h : OwnP w B (.slice A l.length c) l) (hi : i < l.length) :
    Calls Try.prog 88 #[.slice A l.length c, .int .i64 i, .int .i64 (i + 1)] w
      fun e w' => (∃ v, e = .returned v ∧ OwnP w' B v (l.eraseIdx i)) ∧ w.grownBy w' (A.map (·.block)) := by
  obtain ⟨vs, h1, h2, h3⟩ := h
  rcases h2.2 with ⟨_, e2⟩ | ⟨g, cap, cur, e, hBg, hg, hnc, hcm, hcs, htake⟩
  · omega
  · injection e with e1 _ e3
    subst e1 e3
    have hxs : (cur.toList.drop ((i + 1) * 7)).take ((l.length - (i + 1)) * 7) = (cellsOf l vs).drop ((i + 1) * 7) := by
      rw [← htake, List.drop_take]
      congr 1
      omega
    have hx1 : ∀ u ∈ (cur.toList.drop ((i + 1) * 7)).take ((l.length - (i + 1)) * 7), u.oneCell' = true := by
      rw [hxs]
      intro u hu
      exact cellsOf_one l vs (OwnP.vs_form h1 h3) u (List.mem_of_mem_drop hu)
    have ht1 : cur.toList.take (i * 7) = (cellsOf l vs).take (i * 7) := by
      rw [← htake, List.take_take]
      congr 1
      omega
    refine (delP_cells g c l.length i cur w hg hcs hnc hcm hi hx1).mono ?_
    rintro e w' ⟨⟨cur', rfl, q1, q2, q3⟩, q4⟩
    refine ⟨⟨_, rfl, OwnP.erased hi h1 h2 h3 ⟨?_, .inr ⟨g, c, cur', rfl, hBg, q1, by omega, hcm, q2, ?_⟩⟩ q4⟩, q4⟩
    · rw [List.length_append, List.length_take, List.length_drop, cellsOf_length _ _ h1]
      omega
    · rw [q3, ht1, hxs]

theorem drop_bad {l : List Peer} {id : ByteArray} (h : peersCheck l ≠ 0) : drop l id = ([], peersCheck l) := by
  unfold drop; rw [if_pos h]
theorem drop_none {l : List Peer} {id : ByteArray} (h : peersCheck l = 0) (h1 : found l id = false) : drop l id = ([], 4) := by
  unfold drop; rw [if_neg (by simp [h]), if_pos h1]
theorem drop_yes {l : List Peer} {id : ByteArray} (h : peersCheck l = 0) (h1 : found l id = true) : drop l id = (l.eraseIdx (place l id), 0) := by
  unfold drop; rw [if_neg (by simp [h]), if_neg (by simp [h1])]

set_option maxHeartbeats 2000000 in
theorem drop_any (A : Option Addr) (c : Nat) (l : List Peer) (id : ByteArray) (w : World) (h : PeersR w A l) :
    Calls Try.prog 23 #[.slice A l.length c, .string id] w (AddPost w (drop l id)) := by
  have Hh := Lib.hid h
  clear h
  by_cases hp : peersCheck l = 0
  · have hpb : (peersCheck l != 0) = false := by simp [hp]
    obtain ⟨hl, ho⟩ := (check_iff l).1 hp
    have Hm := Lib.hid (ordered_mono ho id)
    have Hv := Lib.hid (fun (k : Nat) (p : Peer) (hk : l[k]? = some p) => win_len (ho.ok p (List.mem_of_getElem? hk)).win)
    have Hp := Lib.hid hp
    have hpl : (place l id : Int) ≤ 6 := by have := place_le l id; omega
    clear hp ho
    cases hf : found l id with
    | false =>
      have Hf := Lib.hid hf
      go_enter Try.func23, Try.ntmps23
      go_wp2_with (first
        | (go_at_call 47; refine (check_any A c l _ Hh.out).mono ?_; rintro e w1 ⟨rfl, hb1⟩)
        | (go_at_call 85; refine (find_any A c l id _ (Hh.out.below hb1) hl Hm.out).mono ?_; rintro e w3 ⟨rfl, hb3⟩))
      go_ret2
      rw [drop_none Hp.out Hf.out]
      exact ⟨⟨_, rfl, OwnP.nil _ _⟩, hb1.trans (hb3.mono hb1.size)⟩
    | true =>
      have Hf := Lib.hid hf
      have Hlt := Lib.hid (found_lt hf)
      go_enter Try.func23, Try.ntmps23
      go_wp2_with (first
        | (go_at_call 47; refine (check_any A c l _ Hh.out).mono ?_; rintro e w1 ⟨rfl, hb1⟩)
        | (go_at_call 85; refine (find_any A c l id _ (Hh.out.below hb1) hl Hm.out).mono ?_; rintro e w3 ⟨rfl, hb3⟩)
        | (go_at_call 87; refine (copied_any A c l _ ((Hh.out.below hb1).below hb3) hl Hv.out).mono ?_; rintro e w4 ⟨⟨v4, rfl, ho4⟩, hb4⟩; obtain ⟨A4, c4, rfl, hblk⟩ := ho4.form; have Ho4 := Lib.hid ho4; have Hblk := Lib.hid hblk; clear ho4 hblk)
        | (go_at_call 88; refine (delP_any A4 c4 l (place l id) _ _ Ho4.out Hlt.out).mono ?_; rintro e w5 ⟨⟨v5, rfl, ho5⟩, hg5⟩; have Ho5 := Lib.hid ho5; clear ho5))
      go_ret2
      rw [drop_yes Hp.out Hf.out]
      have hb13 := hb1.trans (hb3.mono hb1.size)
      have hb14 := hb13.trans (hb4.mono hb13.size)
      exact ⟨⟨_, rfl, Ho5.out.base hb13.size⟩, hb14.grown hg5 hb14.size (fun k hk => by have := Hblk.out k hk; have := hb13.size; omega)⟩
  · have hpb : (peersCheck l != 0) = true := by simp [hp]
    go_enter Try.func23, Try.ntmps23
    go_wp2_with (go_at_call 47; refine (check_any A c l _ Hh.out).mono ?_; rintro e w1 ⟨rfl, hb1⟩)
    go_ret2
    rw [drop_bad hp]
    exact ⟨⟨_, rfl, OwnP.nil _ _⟩, hb1⟩

end Go.Proofs.Ytmclalhjnjghnaa

namespace Go.Proofs.Ytmclalhjnjghnaa
open Go.RowKit Hw

theorem clone_len (A : Option Addr) (c n : Nat) (l : List Int) (w : World) (hn : n = l.length) (h : Ints w A l) (hl : l.length ≤ 17592186044416) :
    Calls Try.prog 78 #[.slice A n c] w fun e w' => (∃ v, e = .returned v ∧ w'.ownsRow w.heap.size 3 1 v l.length (ints l)) ∧ Below w.heap.size w w' := by
  subst hn
  exact clone_any A c l w h hl

theorem ite_step {c : Bool} {A E : Prop} (h : c = true) (hA : A) : if c = true then A else E := by rw [if_pos h]; exact hA

/-- An append to a row of the call's own, at a step of a region that draws. -/
theorem step_append_own {P : Program} {w : World} {ops : Array Oper} {o : Oper} {a : Act} {K : Act → World → Prop} {Q : Exit → Act → World → Prop} {E : Prop} (hgd : o.guard = none) (s x : Operand) (t : TypeId)
    (ho : o.op = .call { callee := .builtin .append, args := #[s, x], argTypes := #[t, t] })
    (base : Nat) (e : TypeId) (i : TypeInfo) (z : Value) (size bytes : Nat) (ht : P.underlying t = some (.slice e)) (hi : P.info? e = some i) (hz : i.zero = some z)
    (hsize : i.size = size) (hby : i.bytes = bytes) (hzs : z.cells.size = size) (hsz : 0 < size)
    (v : Value) (n : Nat) (xs : List Value) (hs : a.eval s = v) (hown : w.ownsRow base e size v n xs)
    (ad : Addr) (m c : Nat) (news : List Value) (hx : a.eval x = .slice (some ad) m c) (hl : news.length = m * size) (hnews : ∀ j u, news[j]? = some u → w.cell? (ad.add j) = some u) (h1 : ∀ u ∈ news, u.oneCell' = true)
    (h63 : n + m ≤ maxLen) (hbytes : (n + m) * bytes ≤ 140737488355328) (hbase : base ≤ w.heap.size)
    (h : ∀ v' w', w'.ownsRow base e size v' (n + m) (xs ++ news) → w.grownBy w' v.ownBlock → (v' = .slice none 0 0 ↔ v = .slice none 0 0 ∧ m = 0) → K (a.put o.dst v') w') :
    if Region.wanted o (yielded ops a.tmps) = true then Oper.wp P o a w K Q else E := by
  have hw : Region.wanted o (yielded ops a.tmps) = true := by simp [Region.wanted, hgd]
  rw [if_pos hw]
  exact wp_append_own w s x t ho base e i z size bytes ht hi hz hsize hby hzs hsz v n xs hs hown ad m c news hx hl hnews h1 h63 hbytes hbase h

theorem keep_grown {W w4 : World} {B : Nat} {e : TypeId} {s : Nat} {v : Value} {n : Nat} {xs : List Value} (ho : W.ownsRow B e s v n xs) (hg : W.grownBy w4 v.ownBlock) {b : Nat} (hb : b < B) (hbW : b < W.heap.size) :
    (∀ i, w4.cell? ⟨b, i, none⟩ = W.cell? ⟨b, i, none⟩) ∧ (∀ i, w4.frozen? ⟨b, i, none⟩ = W.frozen? ⟨b, i, none⟩) := by
  have hne : some b ≠ v.ownBlock := fun he => by have := (ho.lt b he.symm).1; omega
  have hbl := hg.block b hbW hne
  exact ⟨fun i => World.cell?_of_block (a := ⟨b, i, none⟩) hbl, fun i => World.frozen?_of_block (a := ⟨b, i, none⟩) hbl⟩

/-- What win.Push answers. -/
def push (cap : Int) (vals : List Int) (n : Int) : (Int × List Int) × Int :=
  if winCheck cap vals ≠ 0 then ((0, []), winCheck cap vals) else if valOk n = false then ((0, []), 1) else ((cap, pushed cap vals n), 0)

def PushPost (w0 : World) (r : (Int × List Int) × Int) (e : Ending) (w' : World) : Prop :=
  (∃ v, e = .returned (.tuple #[.agg #[.int .i64 r.1.1, v], .int .i64 r.2]) ∧ w'.ownsRow w0.heap.size 3 1 v r.1.2.length (ints r.1.2)) ∧ Below w0.heap.size w0 w'

theorem ints_tail {w : World} {A : Option Addr} {l : List Int} (h : Ints w A l) : Ints w (A.map fun x => ⟨x.block, x.off + 1, none⟩) l.tail := fun h0 => by
  obtain ⟨b, off, e, hc⟩ := h (by simp at h0; omega)
  subst e
  refine ⟨b, off + 1, rfl, fun j hj => ?_⟩
  have := hc (j + 1) (by simp at hj; omega)
  rw [show off + 1 + j = off + (j + 1) by omega, this]
  congr 2
  cases l <;> simp

theorem ints_tail1 {w : World} {A : Option Addr} {c : Nat} {l : List Int} (hc : l.length ≤ c) (h1 : c = 1) (_ : Ints w A l) : Ints w A l.tail := fun h0 => by simp at h0; omega

theorem pushed_short {cap n : Int} {l : List Int} (h : ¬ (l.length : Int) = cap) : pushed cap l n = l ++ [n] := by unfold pushed; rw [if_neg h]
theorem pushed_full {cap n : Int} {l : List Int} (h : (l.length : Int) = cap) : pushed cap l n = l.tail ++ [n] := by unfold pushed; rw [if_pos h]

theorem push_end {cap : Int} {w w1 w4 : World} {v x y : Value} {m : Nat} {l : List Int} {n : Int} (hb : Below w.heap.size w w1) (h4 : Below w1.heap.size w1 w4)
    (ho : w4.ownsRow w1.heap.size 3 1 v m (ints l ++ [.int .i64 n])) (hn : m = l.length + 1) (hz : w.heap.size + 1 < w1.heap.size) :
    PushPost w ((cap, l ++ [n]), 0) (.returned (.tuple #[.agg #[.int .i64 cap, v], .int .i64 0])) ((w4.setCell ⟨w.heap.size + 1, 0, none⟩ x).setCell ⟨w.heap.size + 1, 1, none⟩ y) := by
  have e : ints l ++ [.int .i64 n] = ints (l ++ [n]) := by simp
  have e2 : m = (l ++ [n]).length := by simp [hn]
  rw [e, e2] at ho
  refine ⟨⟨v, rfl, own_base (ownsRow_setCell_below (ownsRow_setCell_below ho hz x) hz y) (by omega)⟩, ?_⟩
  exact ((hb.trans (h4.mono (by omega))).setCell (by simp) _).setCell (by simp) _

set_option maxHeartbeats 2000000 in
theorem push_any (cap : Int) (A : Option Addr) (c : Nat) (l : List Int) (n : Int) (w : World) (h : Ints w A l) (hc : l.length ≤ c) :
    Calls Try.prog 67 #[.agg #[.int .i64 cap, .slice A l.length c], .int .i64 n] w (PushPost w (push cap l n)) := by
  have Hh := Lib.hid h
  clear h
  cases hw : (winCheck cap l != 0) with
  | true =>
    have hr : push cap l n = ((0, []), winCheck cap l) := by unfold push; rw [if_pos (by simpa using hw)]
    have Hr := Lib.hid hr
    clear hr
    go_enter Try.func67, Try.ntmps67
    go_wp2_with (go_at_call 105; refine (wcheck_any cap A c l _ (Hh.out.below (((Below.refl _ _).alloc (Nat.le_refl _) _).alloc (by simp) _))).mono ?_; rintro e w1 ⟨rfl, hb1⟩; obtain ⟨c0, f0, c1, f1, z1, hb2⟩ := keep2 hb1; clear hb1)
    rw [Hr.out]
    refine bodyPost_ret (v := .tuple #[.agg #[.int .i64 0, .slice none 0 0], .int .i64 (winCheck cap l)]) (by simp [results, Try.results67, go_sem, c1]) rfl ⟨⟨_, rfl, World.ownsRow_nil _ _ _ _⟩, ?_⟩
    repeat (first | exact hb2 | refine Below.setCell ?_ (by simp) _)
  | false =>
    have hw0 : winCheck cap l = 0 := by simpa using hw
    cases hv : valOk n with
    | false =>
      have hr : push cap l n = ((0, []), 1) := by unfold push; rw [if_neg (by simp [hw0]), if_pos hv]
      have Hr := Lib.hid hr
      clear hr hw0
      go_enter Try.func67, Try.ntmps67
      go_wp2_with (first
        | (go_at_call 105; refine (wcheck_any cap A c l _ (Hh.out.below (((Below.refl _ _).alloc (Nat.le_refl _) _).alloc (by simp) _))).mono ?_; rintro e w1 ⟨rfl, hb1⟩; obtain ⟨c0, f0, c1, f1, z1, hb2⟩ := keep2 hb1; clear hb1)
        | (go_at_call 84; refine (val_any _ _).mono ?_; rintro e w2 ⟨rfl, rfl⟩))
      rw [Hr.out]
      refine bodyPost_ret (v := .tuple #[.agg #[.int .i64 0, .slice none 0 0], .int .i64 1]) (by simp [results, Try.results67, go_sem, c1]) rfl ⟨⟨_, rfl, World.ownsRow_nil _ _ _ _⟩, ?_⟩
      repeat (first | exact hb2 | refine Below.setCell ?_ (by simp) _)
    | true =>
      have hr : push cap l n = ((cap, pushed cap l n), 0) := by unfold push; rw [if_neg (by simp [hw0]), if_neg (by simp [hv])]
      have Hr := Lib.hid hr
      have hl64 := win_len hw0
      have hcap : 1 ≤ cap := by
        unfold winCheck at hw0
        split at hw0
        · cases hw0
        · omega
      clear hr hw0
      by_cases hfull : (l.length : Int) = cap
      · have hfb : ((l.length : Int) == cap) = true := by simpa using hfull
        have hl1 : 1 ≤ l.length := by omega
        have Hf := Lib.hid hfull
        clear hfull
        go_enter Try.func67, Try.ntmps67
        go_wp2_with (first
          | (go_at_call 105; refine (wcheck_any cap A c l _ (Hh.out.below (((Below.refl _ _).alloc (Nat.le_refl _) _).alloc (by simp) _))).mono ?_; rintro e w1 ⟨rfl, hb1⟩; obtain ⟨c0, f0, c1, f1, z1, hb2⟩ := keep2 hb1; clear hb1)
          | (go_at_call 84; refine (val_any _ _).mono ?_; rintro e w2 ⟨rfl, rfl⟩))
        · have hlt : l.tail.length + 1 = l.length := by simp; omega
          obtain ⟨i0, hi0, hz0, hz1, hz2⟩ := info_parts info3
          have hI := ints_tail1 hc (by omega) (Hh.out.below hb2)
          have HI := Lib.hid hI
          have H2 := Lib.hid hb2
          have b0 := c0 0
          have d0 := c1 0
          have d1 := c1 1
          have e0 := f1 0
          have e1 := f1 1
          simp at b0 d0 d1
          clear hI hb2 c0 c1 f0 f1 Hh
          have Hlen : Hid (l.tail.length ≤ 17592186044416) := (by simp; omega : l.tail.length ≤ 17592186044416)
          have Hlen64 : Hid (l.tail.length ≤ 64) := (by simp; omega : l.tail.length ≤ 64)
          go_region_held3 (fun w' => w'.cell? ⟨w.heap.size, 0, none⟩ = some (.int .i64 cap)) (go_keep)
            (first
              | (go_at_call 78; refine (clone_len _ _ (l.length - 1) l.tail _ (by simp) (HI.out.below (by first | exact (Below.refl _ _).drew | exact ((Below.refl _ _).alloc (by simp) _).drew)) Hlen.out).mono ?_; rintro e w3 ⟨⟨v3, rfl, ho3⟩, hb3⟩;
                 have q0 := (hb3.cell (p := ⟨w.heap.size, 0, none⟩) (by simp; omega)).trans (by first | exact b0 | exact (World.cell?_alloc_past (w := w1) (.cells #[.int .i64 n] 3) _ _ (by omega)).trans b0); have q1 := (hb3.cell (p := ⟨w.heap.size + 1, 0, none⟩) (by simp; omega)).trans (by first | exact d0 | exact (World.cell?_alloc_past (w := w1) (.cells #[.int .i64 n] 3) _ _ (by omega)).trans d0); have q2 := (hb3.cell (p := ⟨w.heap.size + 1, 1, none⟩) (by simp; omega)).trans (by first | exact d1 | exact (World.cell?_alloc_past (w := w1) (.cells #[.int .i64 n] 3) _ _ (by omega)).trans d1); 
                 have q3 := (hb3.frozen (p := ⟨w.heap.size + 1, 0, none⟩) (by simp; omega)).trans (by first | exact e0 | exact (World.frozen?_alloc_past (w := w1) (.cells #[.int .i64 n] 3) _ _ (by omega)).trans e0); have q4 := (hb3.frozen (p := ⟨w.heap.size + 1, 1, none⟩) (by simp; omega)).trans (by first | exact e1 | exact (World.frozen?_alloc_past (w := w1) (.cells #[.int .i64 n] 3) _ _ (by omega)).trans e1); have q5 := hb3.size; simp at q5; have z3 : w.heap.size + 1 < w3.heap.size := (by omega); have z4 : w.heap.size < w3.heap.size := (by omega); have Ho3 := Lib.hid ho3; clear ho3)
              | (have hoA : (w3.alloc (.cells #[.int .i64 n] 3)).ownsRow w1.heap.size 3 1 v3 l.tail.length (ints l.tail) := (own_base Ho3.out (by simp)).alloc _;
                 rw [if_pos (by rfl : Region.wanted _ _ = true)]; refine wp_append_own _ (.tmp 30) (.tmp 32) 36 (by rfl) w1.heap.size 3 i0 _ 1 8 Try.underlying36 hi0 hz0 hz1 hz2 (by rfl) (by omega) v3 l.tail.length (ints l.tail) (by rfl) (by exact hoA) ⟨w3.heap.size, 0, none⟩ 1 1 [.int .i64 n] (by rfl) (by rfl) ?a1 ?a2 ?a3 ?a4 ?a5 ?_; (case a1 => exact news_at w3 w3.heap.size [.int .i64 n] 3 rfl); (case a2 => simp [Value.oneCell']); (case a3 => (have h9 := Hlen.out; simp only [maxLen]; omega)); (case a4 => (have h9 := Hlen64.out; omega)); (case a5 => (simp; omega));
                 intro v4 w4 ho4 hg4 _; rw [hlt] at ho4; obtain ⟨p0, p1⟩ := keep_grown hoA hg4 (b := w.heap.size) (by omega) (by simp; omega); obtain ⟨p2, p3⟩ := keep_grown hoA hg4 (b := w.heap.size + 1) (by omega) (by simp; omega); have u0 : w4.cell? ⟨w.heap.size, 0, none⟩ = some (.int .i64 cap) := (p0 0).trans ((World.cell?_alloc_past _ _ _ z4).trans q0); have u1 : w4.cell? ⟨w.heap.size + 1, 0, none⟩ = some (.int .i64 0) := (p2 0).trans ((World.cell?_alloc_past _ _ _ z3).trans q1); have u2 : w4.cell? ⟨w.heap.size + 1, 1, none⟩ = some (.slice none 0 0) := (p2 1).trans ((World.cell?_alloc_past _ _ _ z3).trans q2); have u3 : w4.frozen? ⟨w.heap.size + 1, 0, none⟩ = false := (p3 0).trans ((World.frozen?_alloc_past _ _ _ z3).trans q3); have u4 : w4.frozen? ⟨w.heap.size + 1, 1, none⟩ = false := (p3 1).trans ((World.frozen?_alloc_past _ _ _ z3).trans q4); clear p0 p1 p2 p3; obtain ⟨A4, c4, rfl, -⟩ := own_form ho4; have Ho4 := Lib.hid ho4;
                 have Hb4 := Lib.hid ((((Below.refl _ _).drew.trans hb3).alloc q5 _).grown hg4 (by simp; omega) (fun k hk => (hoA.lt k hk).1)); clear hoA ho4 hg4 hb3)
              | (have hoA : w3.ownsRow w1.heap.size 3 1 v3 l.tail.length (ints l.tail) := own_base Ho3.out (by simp);
                 rw [if_pos (by rfl : Region.wanted _ _ = true)]; refine wp_append_own _ (.tmp 30) (.tmp 32) 36 (by rfl) w1.heap.size 3 i0 _ 1 8 Try.underlying36 hi0 hz0 hz1 hz2 (by rfl) (by omega) v3 l.tail.length (ints l.tail) (by rfl) (by exact hoA) ⟨w1.heap.size, 0, none⟩ 1 1 [.int .i64 n] (by rfl) (by rfl) ?a1 ?a2 ?a3 ?a4 ?a5 ?_; (case a1 => exact news_below hb3 (news_at w1 w1.heap.size [.int .i64 n] 3 rfl)); (case a2 => simp [Value.oneCell']); (case a3 => (have h9 := Hlen.out; simp only [maxLen]; omega)); (case a4 => (have h9 := Hlen64.out; omega)); (case a5 => omega);
                 intro v4 w4 ho4 hg4 _; rw [hlt] at ho4; obtain ⟨p0, p1⟩ := keep_grown hoA hg4 (b := w.heap.size) (by omega) (by omega); obtain ⟨p2, p3⟩ := keep_grown hoA hg4 (b := w.heap.size + 1) (by omega) (by omega); have u0 : w4.cell? ⟨w.heap.size, 0, none⟩ = some (.int .i64 cap) := (p0 0).trans q0; have u1 : w4.cell? ⟨w.heap.size + 1, 0, none⟩ = some (.int .i64 0) := (p2 0).trans q1; have u2 : w4.cell? ⟨w.heap.size + 1, 1, none⟩ = some (.slice none 0 0) := (p2 1).trans q2; have u3 : w4.frozen? ⟨w.heap.size + 1, 0, none⟩ = false := (p3 0).trans q3; have u4 : w4.frozen? ⟨w.heap.size + 1, 1, none⟩ = false := (p3 1).trans q4; clear p0 p1 p2 p3; obtain ⟨A4, c4, rfl, -⟩ := own_form ho4; have Ho4 := Lib.hid ho4;
                 have Hb4 := Lib.hid (((((Below.refl w1.heap.size w1).alloc (Nat.le_refl _) (.cells #[.int .i64 n] 3)).drew).trans (hb3.mono (by simp))).grown hg4 (by omega) (fun k hk => (hoA.lt k hk).1)); clear hoA ho4 hg4 hb3)
              | fail)
          all_goals go_wp2_with fail
          all_goals rw [Hr.out]
          all_goals
            rw [pushed_full Hf.out]
            refine bodyPost_ret (v := .tuple #[.agg #[.int .i64 cap, .slice A4 l.length c4], .int .i64 0]) ?_ rfl (push_end H2.out Hb4.out Ho4.out hlt.symm z1)
            simp [results, Try.results67, go_sem, u1, u2]
        · have hlt : l.tail.length + 1 = l.length := by simp; omega
          obtain ⟨i0, hi0, hz0, hz1, hz2⟩ := info_parts info3
          have hI := ints_tail (Hh.out.below hb2)
          have HI := Lib.hid hI
          have H2 := Lib.hid hb2
          have b0 := c0 0
          have d0 := c1 0
          have d1 := c1 1
          have e0 := f1 0
          have e1 := f1 1
          simp at b0 d0 d1
          clear hI hb2 c0 c1 f0 f1 Hh
          have Hlen : Hid (l.tail.length ≤ 17592186044416) := (by simp; omega : l.tail.length ≤ 17592186044416)
          have Hlen64 : Hid (l.tail.length ≤ 64) := (by simp; omega : l.tail.length ≤ 64)
          go_region_held3 (fun w' => w'.cell? ⟨w.heap.size, 0, none⟩ = some (.int .i64 cap)) (go_keep)
            (first
              | (go_at_call 78; refine (clone_len _ _ (l.length - 1) l.tail _ (by simp) (HI.out.below (by first | exact (Below.refl _ _).drew | exact ((Below.refl _ _).alloc (by simp) _).drew)) Hlen.out).mono ?_; rintro e w3 ⟨⟨v3, rfl, ho3⟩, hb3⟩;
                 have q0 := (hb3.cell (p := ⟨w.heap.size, 0, none⟩) (by simp; omega)).trans (by first | exact b0 | exact (World.cell?_alloc_past (w := w1) (.cells #[.int .i64 n] 3) _ _ (by omega)).trans b0); have q1 := (hb3.cell (p := ⟨w.heap.size + 1, 0, none⟩) (by simp; omega)).trans (by first | exact d0 | exact (World.cell?_alloc_past (w := w1) (.cells #[.int .i64 n] 3) _ _ (by omega)).trans d0); have q2 := (hb3.cell (p := ⟨w.heap.size + 1, 1, none⟩) (by simp; omega)).trans (by first | exact d1 | exact (World.cell?_alloc_past (w := w1) (.cells #[.int .i64 n] 3) _ _ (by omega)).trans d1); 
                 have q3 := (hb3.frozen (p := ⟨w.heap.size + 1, 0, none⟩) (by simp; omega)).trans (by first | exact e0 | exact (World.frozen?_alloc_past (w := w1) (.cells #[.int .i64 n] 3) _ _ (by omega)).trans e0); have q4 := (hb3.frozen (p := ⟨w.heap.size + 1, 1, none⟩) (by simp; omega)).trans (by first | exact e1 | exact (World.frozen?_alloc_past (w := w1) (.cells #[.int .i64 n] 3) _ _ (by omega)).trans e1); have q5 := hb3.size; simp at q5; have z3 : w.heap.size + 1 < w3.heap.size := (by omega); have z4 : w.heap.size < w3.heap.size := (by omega); have Ho3 := Lib.hid ho3; clear ho3)
              | (have hoA : (w3.alloc (.cells #[.int .i64 n] 3)).ownsRow w1.heap.size 3 1 v3 l.tail.length (ints l.tail) := (own_base Ho3.out (by simp)).alloc _;
                 rw [if_pos (by rfl : Region.wanted _ _ = true)]; refine wp_append_own _ (.tmp 30) (.tmp 32) 36 (by rfl) w1.heap.size 3 i0 _ 1 8 Try.underlying36 hi0 hz0 hz1 hz2 (by rfl) (by omega) v3 l.tail.length (ints l.tail) (by rfl) (by exact hoA) ⟨w3.heap.size, 0, none⟩ 1 1 [.int .i64 n] (by rfl) (by rfl) ?a1 ?a2 ?a3 ?a4 ?a5 ?_; (case a1 => exact news_at w3 w3.heap.size [.int .i64 n] 3 rfl); (case a2 => simp [Value.oneCell']); (case a3 => (have h9 := Hlen.out; simp only [maxLen]; omega)); (case a4 => (have h9 := Hlen64.out; omega)); (case a5 => (simp; omega));
                 intro v4 w4 ho4 hg4 _; rw [hlt] at ho4; obtain ⟨p0, p1⟩ := keep_grown hoA hg4 (b := w.heap.size) (by omega) (by simp; omega); obtain ⟨p2, p3⟩ := keep_grown hoA hg4 (b := w.heap.size + 1) (by omega) (by simp; omega); have u0 : w4.cell? ⟨w.heap.size, 0, none⟩ = some (.int .i64 cap) := (p0 0).trans ((World.cell?_alloc_past _ _ _ z4).trans q0); have u1 : w4.cell? ⟨w.heap.size + 1, 0, none⟩ = some (.int .i64 0) := (p2 0).trans ((World.cell?_alloc_past _ _ _ z3).trans q1); have u2 : w4.cell? ⟨w.heap.size + 1, 1, none⟩ = some (.slice none 0 0) := (p2 1).trans ((World.cell?_alloc_past _ _ _ z3).trans q2); have u3 : w4.frozen? ⟨w.heap.size + 1, 0, none⟩ = false := (p3 0).trans ((World.frozen?_alloc_past _ _ _ z3).trans q3); have u4 : w4.frozen? ⟨w.heap.size + 1, 1, none⟩ = false := (p3 1).trans ((World.frozen?_alloc_past _ _ _ z3).trans q4); clear p0 p1 p2 p3; obtain ⟨A4, c4, rfl, -⟩ := own_form ho4; have Ho4 := Lib.hid ho4;
                 have Hb4 := Lib.hid ((((Below.refl _ _).drew.trans hb3).alloc q5 _).grown hg4 (by simp; omega) (fun k hk => (hoA.lt k hk).1)); clear hoA ho4 hg4 hb3)
              | (have hoA : w3.ownsRow w1.heap.size 3 1 v3 l.tail.length (ints l.tail) := own_base Ho3.out (by simp);
                 rw [if_pos (by rfl : Region.wanted _ _ = true)]; refine wp_append_own _ (.tmp 30) (.tmp 32) 36 (by rfl) w1.heap.size 3 i0 _ 1 8 Try.underlying36 hi0 hz0 hz1 hz2 (by rfl) (by omega) v3 l.tail.length (ints l.tail) (by rfl) (by exact hoA) ⟨w1.heap.size, 0, none⟩ 1 1 [.int .i64 n] (by rfl) (by rfl) ?a1 ?a2 ?a3 ?a4 ?a5 ?_; (case a1 => exact news_below hb3 (news_at w1 w1.heap.size [.int .i64 n] 3 rfl)); (case a2 => simp [Value.oneCell']); (case a3 => (have h9 := Hlen.out; simp only [maxLen]; omega)); (case a4 => (have h9 := Hlen64.out; omega)); (case a5 => omega);
                 intro v4 w4 ho4 hg4 _; rw [hlt] at ho4; obtain ⟨p0, p1⟩ := keep_grown hoA hg4 (b := w.heap.size) (by omega) (by omega); obtain ⟨p2, p3⟩ := keep_grown hoA hg4 (b := w.heap.size + 1) (by omega) (by omega); have u0 : w4.cell? ⟨w.heap.size, 0, none⟩ = some (.int .i64 cap) := (p0 0).trans q0; have u1 : w4.cell? ⟨w.heap.size + 1, 0, none⟩ = some (.int .i64 0) := (p2 0).trans q1; have u2 : w4.cell? ⟨w.heap.size + 1, 1, none⟩ = some (.slice none 0 0) := (p2 1).trans q2; have u3 : w4.frozen? ⟨w.heap.size + 1, 0, none⟩ = false := (p3 0).trans q3; have u4 : w4.frozen? ⟨w.heap.size + 1, 1, none⟩ = false := (p3 1).trans q4; clear p0 p1 p2 p3; obtain ⟨A4, c4, rfl, -⟩ := own_form ho4; have Ho4 := Lib.hid ho4;
                 have Hb4 := Lib.hid (((((Below.refl w1.heap.size w1).alloc (Nat.le_refl _) (.cells #[.int .i64 n] 3)).drew).trans (hb3.mono (by simp))).grown hg4 (by omega) (fun k hk => (hoA.lt k hk).1)); clear hoA ho4 hg4 hb3)
              | fail)
          all_goals go_wp2_with fail
          all_goals rw [Hr.out]
          all_goals
            rw [pushed_full Hf.out]
            refine bodyPost_ret (v := .tuple #[.agg #[.int .i64 cap, .slice A4 l.length c4], .int .i64 0]) ?_ rfl (push_end H2.out Hb4.out Ho4.out hlt.symm z1)
            simp [results, Try.results67, go_sem, u1, u2]
      · have hfb : ((l.length : Int) == cap) = false := by simpa using hfull
        have Hf := Lib.hid hfull
        clear hfull
        go_enter Try.func67, Try.ntmps67
        go_wp2_with (first
          | (go_at_call 105; refine (wcheck_any cap A c l _ (Hh.out.below (((Below.refl _ _).alloc (Nat.le_refl _) _).alloc (by simp) _))).mono ?_; rintro e w1 ⟨rfl, hb1⟩; obtain ⟨c0, f0, c1, f1, z1, hb2⟩ := keep2 hb1; clear hb1)
          | (go_at_call 84; refine (val_any _ _).mono ?_; rintro e w2 ⟨rfl, rfl⟩))
        obtain ⟨i0, hi0, hz0, hz1, hz2⟩ := info_parts info3
        have hI := Hh.out.below hb2
        have HI := Lib.hid hI
        have H2 := Lib.hid hb2
        have b0 := c0 0
        have d0 := c1 0
        have d1 := c1 1
        have e0 := f1 0
        have e1 := f1 1
        simp at b0 d0 d1
        clear hI hb2 c0 c1 f0 f1 Hh
        have Hlen : Hid (l.length ≤ 17592186044416) := (by omega : l.length ≤ 17592186044416)
        have Hlen64 := Lib.hid hl64
        go_region_held3 (fun w' => w'.cell? ⟨w.heap.size, 0, none⟩ = some (.int .i64 cap)) (go_keep)
          (first
            | (go_at_call 78; refine (clone_len A c l.length l _ rfl (HI.out.below (by first | exact (Below.refl _ _).drew | exact ((Below.refl _ _).alloc (by simp) _).drew)) Hlen.out).mono ?_; rintro e w3 ⟨⟨v3, rfl, ho3⟩, hb3⟩;
               have q0 := (hb3.cell (p := ⟨w.heap.size, 0, none⟩) (by simp; omega)).trans (by first | exact b0 | exact (World.cell?_alloc_past (w := w1) (.cells #[.int .i64 n] 3) _ _ (by omega)).trans b0); have q1 := (hb3.cell (p := ⟨w.heap.size + 1, 0, none⟩) (by simp; omega)).trans (by first | exact d0 | exact (World.cell?_alloc_past (w := w1) (.cells #[.int .i64 n] 3) _ _ (by omega)).trans d0); have q2 := (hb3.cell (p := ⟨w.heap.size + 1, 1, none⟩) (by simp; omega)).trans (by first | exact d1 | exact (World.cell?_alloc_past (w := w1) (.cells #[.int .i64 n] 3) _ _ (by omega)).trans d1); 
               have q3 := (hb3.frozen (p := ⟨w.heap.size + 1, 0, none⟩) (by simp; omega)).trans (by first | exact e0 | exact (World.frozen?_alloc_past (w := w1) (.cells #[.int .i64 n] 3) _ _ (by omega)).trans e0); have q4 := (hb3.frozen (p := ⟨w.heap.size + 1, 1, none⟩) (by simp; omega)).trans (by first | exact e1 | exact (World.frozen?_alloc_past (w := w1) (.cells #[.int .i64 n] 3) _ _ (by omega)).trans e1); have q5 := hb3.size; simp at q5; have z3 : w.heap.size + 1 < w3.heap.size := (by omega); have z4 : w.heap.size < w3.heap.size := (by omega); have Ho3 := Lib.hid ho3; clear ho3)
            | (have hoA : (w3.alloc (.cells #[.int .i64 n] 3)).ownsRow w1.heap.size 3 1 v3 (l).length (ints (l)) := (own_base Ho3.out (by simp)).alloc _;
               rw [if_pos (by rfl : Region.wanted _ _ = true)]; refine wp_append_own _ (.tmp 30) (.tmp 32) 36 (by rfl) w1.heap.size 3 i0 _ 1 8 Try.underlying36 hi0 hz0 hz1 hz2 (by rfl) (by omega) v3 (l).length (ints (l)) (by rfl) (by exact hoA) ⟨w3.heap.size, 0, none⟩ 1 1 [.int .i64 n] (by rfl) (by rfl) ?a1 ?a2 ?a3 ?a4 ?a5 ?_; (case a1 => exact news_at w3 w3.heap.size [.int .i64 n] 3 rfl); (case a2 => simp [Value.oneCell']); (case a3 => (have h9 := Hlen.out; simp only [maxLen]; omega)); (case a4 => (have h9 := Hlen64.out; omega)); (case a5 => (simp; omega));
               intro v4 w4 ho4 hg4 _; obtain ⟨p0, p1⟩ := keep_grown hoA hg4 (b := w.heap.size) (by omega) (by simp; omega); obtain ⟨p2, p3⟩ := keep_grown hoA hg4 (b := w.heap.size + 1) (by omega) (by simp; omega); have u0 : w4.cell? ⟨w.heap.size, 0, none⟩ = some (.int .i64 cap) := (p0 0).trans ((World.cell?_alloc_past _ _ _ z4).trans q0); have u1 : w4.cell? ⟨w.heap.size + 1, 0, none⟩ = some (.int .i64 0) := (p2 0).trans ((World.cell?_alloc_past _ _ _ z3).trans q1); have u2 : w4.cell? ⟨w.heap.size + 1, 1, none⟩ = some (.slice none 0 0) := (p2 1).trans ((World.cell?_alloc_past _ _ _ z3).trans q2); have u3 : w4.frozen? ⟨w.heap.size + 1, 0, none⟩ = false := (p3 0).trans ((World.frozen?_alloc_past _ _ _ z3).trans q3); have u4 : w4.frozen? ⟨w.heap.size + 1, 1, none⟩ = false := (p3 1).trans ((World.frozen?_alloc_past _ _ _ z3).trans q4); clear p0 p1 p2 p3; obtain ⟨A4, c4, rfl, -⟩ := own_form ho4; have Ho4 := Lib.hid ho4;
               have Hb4 := Lib.hid ((((Below.refl _ _).drew.trans hb3).alloc q5 _).grown hg4 (by simp; omega) (fun k hk => (hoA.lt k hk).1)); clear hoA ho4 hg4 hb3)
            | (have hoA : w3.ownsRow w1.heap.size 3 1 v3 (l).length (ints (l)) := own_base Ho3.out (by simp);
               rw [if_pos (by rfl : Region.wanted _ _ = true)]; refine wp_append_own _ (.tmp 30) (.tmp 32) 36 (by rfl) w1.heap.size 3 i0 _ 1 8 Try.underlying36 hi0 hz0 hz1 hz2 (by rfl) (by omega) v3 (l).length (ints (l)) (by rfl) (by exact hoA) ⟨w1.heap.size, 0, none⟩ 1 1 [.int .i64 n] (by rfl) (by rfl) ?a1 ?a2 ?a3 ?a4 ?a5 ?_; (case a1 => exact news_below hb3 (news_at w1 w1.heap.size [.int .i64 n] 3 rfl)); (case a2 => simp [Value.oneCell']); (case a3 => (have h9 := Hlen.out; simp only [maxLen]; omega)); (case a4 => (have h9 := Hlen64.out; omega)); (case a5 => omega);
               intro v4 w4 ho4 hg4 _; obtain ⟨p0, p1⟩ := keep_grown hoA hg4 (b := w.heap.size) (by omega) (by omega); obtain ⟨p2, p3⟩ := keep_grown hoA hg4 (b := w.heap.size + 1) (by omega) (by omega); have u0 : w4.cell? ⟨w.heap.size, 0, none⟩ = some (.int .i64 cap) := (p0 0).trans q0; have u1 : w4.cell? ⟨w.heap.size + 1, 0, none⟩ = some (.int .i64 0) := (p2 0).trans q1; have u2 : w4.cell? ⟨w.heap.size + 1, 1, none⟩ = some (.slice none 0 0) := (p2 1).trans q2; have u3 : w4.frozen? ⟨w.heap.size + 1, 0, none⟩ = false := (p3 0).trans q3; have u4 : w4.frozen? ⟨w.heap.size + 1, 1, none⟩ = false := (p3 1).trans q4; clear p0 p1 p2 p3; obtain ⟨A4, c4, rfl, -⟩ := own_form ho4; have Ho4 := Lib.hid ho4;
               have Hb4 := Lib.hid (((((Below.refl w1.heap.size w1).alloc (Nat.le_refl _) (.cells #[.int .i64 n] 3)).drew).trans (hb3.mono (by simp))).grown hg4 (by omega) (fun k hk => (hoA.lt k hk).1)); clear hoA ho4 hg4 hb3)
            | fail)
        all_goals go_wp2_with fail
        all_goals rw [Hr.out]
        all_goals
          rw [pushed_short Hf.out]
          refine bodyPost_ret (v := .tuple #[.agg #[.int .i64 cap, .slice A4 (l.length + 1) c4], .int .i64 0]) ?_ rfl (push_end H2.out Hb4.out Ho4.out rfl z1)
          simp [results, Try.results67, go_sem, u1, u2]

end Go.Proofs.Ytmclalhjnjghnaa

namespace Go.Proofs.Ytmclalhjnjghnaa
open Go.RowKit Hw

/-- Peers of the call's own, their rows of values named. -/
def OwnV (w : World) (B : Nat) (v : Value) (l : List Peer) (vs : List Value) : Prop :=
  vs.length = l.length ∧ w.ownsRow B 40 7 v l.length (cellsOf l vs) ∧
    ∀ (k : Nat) (u : Value) (p : Peer), vs[k]? = some u → l[k]? = some p → w.ownsRow B 3 1 u p.vals.length (ints p.vals)

theorem OwnV.own {w : World} {B : Nat} {v : Value} {l : List Peer} {vs : List Value} (h : OwnV w B v l vs) : OwnP w B v l := ⟨vs, h⟩

theorem OwnV.below {w w' : World} {B : Nat} {v : Value} {l : List Peer} {vs : List Value} (h : OwnV w B v l vs) (hb : Below w.heap.size w w') : OwnV w' B v l vs :=
  ⟨h.1, own_below h.2.1 hb, fun k u p a b => own_below (h.2.2 k u p a b) hb⟩

theorem cellsOf_set : ∀ (l : List Peer) (vs : List Value) (i j : Nat) (p p' : Peer) (V V' u : Value), vs.length = l.length → l[i]? = some p → vs[i]? = some V → j < 7 → peerCells p' V' = (peerCells p V).set j u →
    cellsOf (l.set i p') (vs.set i V') = (cellsOf l vs).set (i * 7 + j) u
  | [], _, i, j, p, p', V, V', u, _, h, _, _, _ => by simp at h
  | q :: l, [], i, j, p, p', V, V', u, h, _, _, _, _ => by simp at h
  | q :: l, x :: vs, 0, j, p, p', V, V', u, h, hl, hv, hj, hc => by
    simp at hl hv
    subst hl hv
    simp only [List.set_cons_zero, cellsOf, hc]
    rw [List.set_append_left _ _ (by simp; omega)]
    simp
  | q :: l, x :: vs, i + 1, j, p, p', V, V', u, h, hl, hv, hj, hc => by
    have ih := cellsOf_set l vs i j p p' V V' u (by simpa using h) (by simpa using hl) (by simpa using hv) hj hc
    simp only [List.set_cons_succ, cellsOf, ih]
    rw [List.set_append_right _ _ (by simp; omega)]
    congr 2
    simp; omega

theorem _root_.Go.World.ownsRow.stored_grown {w : World} {base g n m cap size : Nat} {e : TypeId} {xs : List Value} (h : w.ownsRow base e size (.slice (some ⟨g, 0, none⟩) n cap) m xs) (hn : n = m) (j : Nat) (u : Value) :
    w.grownBy (w.setCell ⟨g, j, none⟩ u) (some g) := by
  subst hn
  exact (h.stored j u).2

/-- One cell of one peer is stored. -/
theorem OwnV.put {w : World} {B g n c : Nat} {l : List Peer} {vs : List Value} (h : OwnV w B (.slice (some ⟨g, 0, none⟩) n c) l vs) (hn : n = l.length) {i j : Nat} {p p' : Peer} {V V' u : Value}
    (hp : l[i]? = some p) (hv : vs[i]? = some V) (hj : j < 7) (hc : peerCells p' V' = (peerCells p V).set j u) (hV : w.ownsRow B 3 1 V' p'.vals.length (ints p'.vals)) :
    OwnV (w.setCell ⟨g, i * 7 + j, none⟩ u) B (.slice (some ⟨g, 0, none⟩) n c) (l.set i p') (vs.set i V') := by
  obtain ⟨h1, h2, h3⟩ := h
  subst hn
  obtain ⟨s1, s2⟩ := h2.stored (i * 7 + j) u
  refine ⟨by simp [h1], ?_, fun k y q hy hq => ?_⟩
  · rw [cellsOf_set l vs i j p p' V V' u h1 hp hv hj hc]
    simpa using s1
  · have hr : w.ownsRow B 3 1 y q.vals.length (ints q.vals) := by
      by_cases hk : i = k
      · subst hk
        have hi := (List.getElem?_eq_some_iff.1 hp).1
        rw [List.getElem?_set_self (by omega)] at hy hq
        cases hy; cases hq
        exact hV
      · rw [List.getElem?_set_ne hk] at hy hq
        exact h3 k y q hy hq
    exact hr.kept s2 (own_ne hr h2 (by decide))

/-- Where one peer's cells are, what they hold. -/
theorem OwnV.at {w : World} {B : Nat} {v : Value} {l : List Peer} {vs : List Value} (h : OwnV w B v l vs) {i : Nat} {p : Peer} (hp : l[i]? = some p) :
    ∃ g c A' c', v = .slice (some ⟨g, 0, none⟩) l.length c ∧ B ≤ g ∧ g < w.heap.size ∧ vs[i]? = some (.slice A' p.vals.length c') ∧ p.vals.length ≤ c' ∧
      w.ownsRow B 3 1 (.slice A' p.vals.length c') p.vals.length (ints p.vals) ∧
      w.cell? ⟨g, i * 7, none⟩ = some (.string p.id) ∧ w.cell? ⟨g, i * 7 + 1, none⟩ = some (.int .i64 p.gate.inc) ∧ w.cell? ⟨g, i * 7 + 1 + 1, none⟩ = some (.int .i64 p.gate.seq) ∧
      w.cell? ⟨g, i * 7 + 1 + 2, none⟩ = some (.int .i64 p.gate.drops) ∧ w.cell? ⟨g, i * 7 + 4, none⟩ = some (.int .i64 p.cap) ∧ w.cell? ⟨g, i * 7 + 4 + 1, none⟩ = some (.slice A' p.vals.length c') ∧
      w.cell? ⟨g, i * 7 + 6, none⟩ = some (.int .i64 p.last) ∧ ∀ j, w.frozen? ⟨g, j, none⟩ = false := by
  obtain ⟨h1, h2, h3⟩ := h
  have hi := (List.getElem?_eq_some_iff.1 hp).1
  have hpe := (List.getElem?_eq_some_iff.1 hp).2
  have hv : vs[i]? = some (vs[i]'(by omega)) := List.getElem?_eq_getElem (by omega)
  have ho := h3 i _ _ hv hp
  obtain ⟨A', c', ev, hle, -⟩ := own_form ho
  rcases h2.2 with ⟨_, e2⟩ | ⟨g, cap, cur, e, hBg, hg, _⟩
  · omega
  · subst e
    have hcell : ∀ j u, j < 7 → (peerCells p (vs[i]'(by omega)))[j]? = some u → w.cell? ⟨g, i * 7 + j, none⟩ = some u := by
      intro j u hj hu
      have hc := h2.cells (g := g) rfl (i * 7 + j) u (by rw [cellsOf_get l vs i j h1 hi hj, hpe]; exact hu)
      rw [add_lit] at hc
      rw [← hc]
      congr 2
      omega
    rw [ev] at hv ho hcell
    exact ⟨g, cap, A', c', rfl, hBg, (Array.getElem?_eq_some_iff.1 hg).1, hv, hle, ho, hcell 0 _ (by omega) rfl, hcell 1 _ (by omega) rfl, hcell 2 _ (by omega) rfl, hcell 3 _ (by omega) rfl, hcell 4 _ (by omega) rfl,
      hcell 5 _ (by omega) rfl, hcell 6 _ (by omega) rfl, h2.frozenAt⟩

/-- Behind gate.Take: the peer's three cells of its gate have been stored. -/
theorem hear_gate {w4 w6 : World} {B g n c : Nat} {l : List Peer} {vs : List Value} (h : OwnV w4 B (.slice (some ⟨g, 0, none⟩) n c) l vs) (hn : n = l.length) {i : Nat} {p : Peer} {V : Value} (g' : Gate)
    (hp : l[i]? = some p) (hv : vs[i]? = some V) (hb : Below w4.heap.size w4 w6) :
    OwnV (((w6.setCell ⟨g, i * 7 + 1, none⟩ (.int .i64 g'.inc)).setCell ⟨g, i * 7 + 1 + 1, none⟩ (.int .i64 g'.seq)).setCell ⟨g, i * 7 + 1 + 2, none⟩ (.int .i64 g'.drops)) B (.slice (some ⟨g, 0, none⟩) n c)
      (l.set i { p with gate := g' }) (vs.set i V) := by
  have hi := (List.getElem?_eq_some_iff.1 hp).1
  have hi' := (List.getElem?_eq_some_iff.1 hv).1
  have h6 := h.below hb
  have s1 := h6.put hn (i := i) (j := 1) (p := p) (p' := { p with gate := { p.gate with inc := g'.inc } }) (V := V) (V' := V) (u := .int .i64 g'.inc) hp hv (by omega) rfl (by have r := h6.2.2 i _ _ hv hp; exact r)
  have s2 := s1.put (by simp [hn]) (i := i) (j := 2) (p := { p with gate := { p.gate with inc := g'.inc } }) (p' := { p with gate := { p.gate with inc := g'.inc, seq := g'.seq } }) (V := V) (V' := V) (u := .int .i64 g'.seq)
    (by rw [List.getElem?_set_self hi]) (by rw [List.getElem?_set_self hi']) (by omega) rfl (by have r := s1.2.2 i _ _ (by rw [List.getElem?_set_self hi']) (by rw [List.getElem?_set_self hi]); exact r)
  have s3 := s2.put (by simp [hn]) (i := i) (j := 3) (p := { p with gate := { p.gate with inc := g'.inc, seq := g'.seq } }) (p' := { p with gate := g' }) (V := V) (V' := V) (u := .int .i64 g'.drops)
    (by rw [List.getElem?_set_self (by simpa using hi)]) (by rw [List.getElem?_set_self (by simpa using hi')]) (by omega) rfl (by have r := s2.2.2 i _ _ (by rw [List.getElem?_set_self (by simpa using hi')]) (by rw [List.getElem?_set_self (by simpa using hi)]); exact r)
  simpa only [List.set_set] using s3

/-- Behind win.Push: the peer's window and its last time have been stored. -/
theorem hear_win {w4 w6 : World} {B g n c : Nat} {l : List Peer} {vs : List Value} (h : OwnV w4 B (.slice (some ⟨g, 0, none⟩) n c) l vs) (hn : n = l.length) {i : Nat} {p : Peer} {V V' : Value} (cap : Int) (vals : List Int) (now : Int)
    (hp : l[i]? = some p) (hv : vs[i]? = some V) (hb : Below w4.heap.size w4 w6) (hc : cap = p.cap) (hV : w6.ownsRow B 3 1 V' vals.length (ints vals)) :
    OwnV (((w6.setCell ⟨g, i * 7 + 4, none⟩ (.int .i64 cap)).setCell ⟨g, i * 7 + 4 + 1, none⟩ V').setCell ⟨g, i * 7 + 6, none⟩ (.int .i64 now)) B (.slice (some ⟨g, 0, none⟩) n c)
      (l.set i { p with vals := vals, last := now }) (vs.set i V') := by
  subst hc
  have hi := (List.getElem?_eq_some_iff.1 hp).1
  have hi' := (List.getElem?_eq_some_iff.1 hv).1
  have h6 := h.below hb
  have hne : V'.ownBlock = none ∨ V'.ownBlock ≠ some g := own_ne hV h6.2.1 (by decide)
  have s1 := h6.put hn (i := i) (j := 4) (p := p) (p' := p) (V := V) (V' := V) (u := .int .i64 p.cap) hp hv (by omega) rfl (by have r := h6.2.2 i _ _ hv hp; exact r)
  have hV1 := hV.kept (h6.2.1.stored_grown hn (i * 7 + 4) (.int .i64 p.cap)) hne
  have s2 := s1.put (by simp [hn]) (i := i) (j := 5) (p := p) (p' := { p with vals := vals }) (V := V) (V' := V') (u := V')
    (by rw [List.getElem?_set_self hi]) (by rw [List.getElem?_set_self hi']) (by omega) rfl hV1
  have s3 := s2.put (by simp [hn]) (i := i) (j := 6) (p := { p with vals := vals }) (p' := { p with vals := vals, last := now }) (V := V') (V' := V') (u := .int .i64 now)
    (by rw [List.getElem?_set_self (by simpa using hi)]) (by rw [List.getElem?_set_self (by simpa using hi')]) (by omega) rfl (by have r := s2.2.2 i _ _ (by rw [List.getElem?_set_self (by simpa using hi')]) (by rw [List.getElem?_set_self (by simpa using hi)]); exact r)
  simpa only [List.set_set] using s3

end Go.Proofs.Ytmclalhjnjghnaa

namespace Go.Proofs.Ytmclalhjnjghnaa
open Go.RowKit Hw
attribute [local go_sem ↓] Go.wp_at_zero Go.wp_at_succ

theorem found_iff {l : List Peer} {id : ByteArray} (h : found l id = true) : ∃ p, l[place l id]? = some p ∧ sq p.id id = true := by
  unfold found at h
  split at h
  · rename_i p hp
    exact ⟨p, hp, h⟩
  · cases h

theorem hear_bad {l : List Peer} {b : Beat} {now : Int} (h : peersCheck l ≠ 0) : hear l b now = ([], false, peersCheck l) := by
  unfold hear; rw [if_pos h]
theorem hear_beat {l : List Peer} {b : Beat} {now : Int} (h : peersCheck l = 0) (h1 : beatCheck b ≠ 0) : hear l b now = ([], false, beatCheck b) := by
  unfold hear; rw [if_neg (by simp [h]), if_pos h1]
theorem hear_now {l : List Peer} {b : Beat} {now : Int} (h : peersCheck l = 0) (h1 : beatCheck b = 0) (h2 : now < 0 ∨ 1073741824 < now) : hear l b now = ([], false, 1) := by
  unfold hear; rw [if_neg (by simp [h]), if_neg (by simp [h1]), if_pos h2]
theorem hear_none {l : List Peer} {b : Beat} {now : Int} (h : peersCheck l = 0) (h1 : beatCheck b = 0) (h2 : ¬ (now < 0 ∨ 1073741824 < now)) (h3 : found l b.id = false) : hear l b now = ([], false, 4) := by
  unfold hear; rw [if_neg (by simp [h]), if_neg (by simp [h1]), if_neg h2]
  unfold found at h3
  split at h3
  · rename_i p hp
    rw [hp]
    simp [h3]
  · rename_i hp
    rw [hp]
theorem hear_late {l : List Peer} {b : Beat} {now : Int} {p : Peer} (h : peersCheck l = 0) (h1 : beatCheck b = 0) (h2 : ¬ (now < 0 ∨ 1073741824 < now)) (hp : l[place l b.id]? = some p) (hs : sq p.id b.id = true) (h4 : now < p.last) : hear l b now = ([], false, 1) := by
  unfold hear; rw [if_neg (by simp [h]), if_neg (by simp [h1]), if_neg h2, hp]
  simp [hs, h4]
theorem hear_yes {l : List Peer} {b : Beat} {now : Int} {p : Peer} (h : peersCheck l = 0) (h1 : beatCheck b = 0) (h2 : ¬ (now < 0 ∨ 1073741824 < now)) (hp : l[place l b.id]? = some p) (hs : sq p.id b.id = true) (h4 : ¬ now < p.last) :
    hear l b now = (l.set (place l b.id) (heard p b now), (take p.gate b.inc b.seq).2.1, 0) := by
  unfold hear; rw [if_neg (by simp [h]), if_neg (by simp [h1]), if_neg h2, hp]
  simp [hs, h4]

/-- What peers.Hear hands back. -/
def HearPost (w0 : World) (r : List Peer × Bool × Int) (e : Ending) (w' : World) : Prop :=
  (∃ v, e = .returned (.tuple #[v, .bool r.2.1, .int .i64 r.2.2]) ∧ OwnP w' w0.heap.size v r.1) ∧ Below w0.heap.size w0 w'

set_option maxRecDepth 100000 in
set_option maxHeartbeats 4000000 in
theorem hear_any (A : Option Addr) (c : Nat) (l : List Peer) (b : Beat) (now : Int) (w : World) (h : PeersR w A l) :
    Calls Try.prog 24 #[.slice A l.length c, .agg #[.string b.id, .int .i64 b.inc, .int .i64 b.seq], .int .i64 now] w (HearPost w (hear l b now)) := by
  have Hh := Lib.hid h
  clear h
  cases hpb : (peersCheck l != 0) with
  | true =>
    have Hr := Lib.hid (hear_bad (b := b) (now := now) (by simpa using hpb : peersCheck l ≠ 0))
    go_enter Try.func24, Try.ntmps24
    go_wp2_with (go_at_call 47; refine (check_any A c l _ (Hh.out.below ((Below.refl _ _).alloc (Nat.le_refl _) _))).mono ?_; rintro e w1 ⟨rfl, hb1⟩; obtain ⟨c1, f1, z1, hw1⟩ := keep1 hb1; clear hb1)
    go_ret3
    rw [Hr.out]
    exact ⟨⟨_, rfl, OwnP.nil _ _⟩, hw1⟩
  | false =>
    have hp0 : peersCheck l = 0 := by simpa using hpb
    cases hbb : (beatCheck b != 0) with
    | true =>
      have Hr := Lib.hid (hear_beat (b := b) (now := now) hp0 (by simpa using hbb : beatCheck b ≠ 0))
      clear hp0
      go_enter Try.func24, Try.ntmps24
      go_wp2_with (first
        | (go_at_call 47; refine (check_any A c l _ (Hh.out.below ((Below.refl _ _).alloc (Nat.le_refl _) _))).mono ?_; rintro e w1 ⟨rfl, hb1⟩; obtain ⟨c1, f1, z1, hw1⟩ := keep1 hb1; clear hb1; have c10 := c1 0; have c11 := c1 1; have c12 := c1 2; simp at c10 c11 c12; clear c1)
        | (go_at_call 89; refine (bcheck_any b _).mono ?_; rintro e w2 ⟨rfl, hb2⟩))
      go_ret3
      rw [Hr.out]
      exact ⟨⟨_, rfl, OwnP.nil _ _⟩, hw1.trans (hb2.mono hw1.size)⟩
    | false =>
      have hb0 : beatCheck b = 0 := by simpa using hbb
      by_cases hn : now < 0 ∨ 1073741824 < now
      · have Hr := Lib.hid (hear_now (b := b) (now := now) hp0 hb0 hn)
        clear hp0 hb0
        go_enter Try.func24, Try.ntmps24
        go_wp2_with (first
          | (go_at_call 47; refine (check_any A c l _ (Hh.out.below ((Below.refl _ _).alloc (Nat.le_refl _) _))).mono ?_; rintro e w1 ⟨rfl, hb1⟩; obtain ⟨c1, f1, z1, hw1⟩ := keep1 hb1; clear hb1; have c10 := c1 0; have c11 := c1 1; have c12 := c1 2; simp at c10 c11 c12; clear c1)
          | (go_at_call 89; refine (bcheck_any b _).mono ?_; rintro e w2 ⟨rfl, hb2⟩))
        all_goals
          go_ret3
          rw [Hr.out]
          exact ⟨⟨_, rfl, OwnP.nil _ _⟩, hw1.trans (hb2.mono hw1.size)⟩
      · have hn1 : ¬ now < 0 := by omega
        have hn2 : ¬ 1073741824 < now := by omega
        have hnb : (decide (now < 0)) = false := by simpa using hn1
        have hnc : (decide (1073741824 < now)) = false := by simpa using hn2
        obtain ⟨hl, ho⟩ := (check_iff l).1 hp0
        have Hm := Lib.hid (ordered_mono ho b.id)
        have Hv := Lib.hid (fun (k : Nat) (p : Peer) (hk : l[k]? = some p) => win_len (ho.ok p (List.mem_of_getElem? hk)).win)
        have hpl : (place l b.id : Int) ≤ 6 := by have := place_le l b.id; omega
        have Hp0 := Lib.hid hp0
        have Hb0 := Lib.hid hb0
        have Hn := Lib.hid hn
        have Ho := Lib.hid ho
        clear hp0 hb0 ho hn
        cases hf : found l b.id with
        | false =>
          have Hr := Lib.hid (hear_none Hp0.out Hb0.out Hn.out hf)
          go_enter Try.func24, Try.ntmps24
          go_wp2_with (first
            | (go_at_call 47; refine (check_any A c l _ (Hh.out.below ((Below.refl _ _).alloc (Nat.le_refl _) _))).mono ?_; rintro e w1 ⟨rfl, hb1⟩; obtain ⟨c1, f1, z1, hw1⟩ := keep1 hb1; clear hb1; have c10 := c1 0; have c11 := c1 1; have c12 := c1 2; simp at c10 c11 c12; clear c1)
            | (go_at_call 89; refine (bcheck_any b _).mono ?_; rintro e w2 ⟨rfl, hb2⟩; have c20 := bsome hb2 c10; have c21 := bsome hb2 c11; have c22 := bsome hb2 c12; have hw2 := hw1.trans (hb2.mono hw1.size))
            | (go_at_call 85; refine (find_any A c l b.id _ (Hh.out.below hw2) hl Hm.out).mono ?_; rintro e w3 ⟨rfl, hb3⟩; have hw3 := hw2.trans (hb3.mono hw2.size)))
          go_ret3
          rw [Hr.out]
          exact ⟨⟨_, rfl, OwnP.nil _ _⟩, hw3⟩
        | true =>
          obtain ⟨p, hp, hs⟩ := found_iff hf
          obtain ⟨i, hi⟩ : ∃ i, i = place l b.id := ⟨_, rfl⟩
          rw [← hi] at hp hpl
          have hil := (List.getElem?_eq_some_iff.1 hp).1
          have hil' : (i : Int) < (l.length : Int) := by omega
          have hi0 : (0 : Int) ≤ (i : Int) := by omega
          have Hlate : Hid (now < p.last → hear l b now = ([], false, 1)) := fun h => hear_late Hp0.out Hb0.out Hn.out (hi ▸ hp) hs h
          have Hyes : Hid (¬ now < p.last → hear l b now = (l.set i (heard p b now), (take p.gate b.inc b.seq).2.1, 0)) := fun h => by rw [hi]; exact hear_yes Hp0.out Hb0.out Hn.out (hi ▸ hp) hs h
          have Hs := Lib.hid hs
          have Hp := Lib.hid hp
          have Hi := Lib.hid hi
          clear hs hp hi
          by_cases hla : now < p.last
          · have hlab : (decide (now < p.last)) = true := by simpa using hla
            go_enter Try.func24, Try.ntmps24
            go_wp2_with (first
              | (go_at_call 47; refine (check_any A c l _ (Hh.out.below ((Below.refl _ _).alloc (Nat.le_refl _) _))).mono ?_; rintro e w1 ⟨rfl, hb1⟩; obtain ⟨c1, f1, z1, hw1⟩ := keep1 hb1; clear hb1; have c10 := c1 0; have c11 := c1 1; have c12 := c1 2; simp at c10 c11 c12; clear c1)
              | (go_at_call 89; refine (bcheck_any b _).mono ?_; rintro e w2 ⟨rfl, hb2⟩; have c20 := bsome hb2 c10; have c21 := bsome hb2 c11; have c22 := bsome hb2 c12; have hw2 := hw1.trans (hb2.mono hw1.size))
              | (go_at_call 85; refine (find_any A c l b.id _ (Hh.out.below hw2) hl Hm.out).mono ?_; rintro e w3 ⟨rfl, hb3⟩; have hw3 := hw2.trans (hb3.mono hw2.size); rw [← Hi.out])
              | (go_at_call 87; refine (copied_any A c l _ (Hh.out.below hw3) hl Hv.out).mono ?_; rintro e w4 ⟨⟨v4, rfl, vs, ho4⟩, hb4⟩; obtain ⟨g, c4, A', c', rfl, hg1, hg2, hvi, hvl, hvo, p0, p1, p2, p3, p4, p5, p6, pf⟩ := OwnV.at ho4 Hp.out; have Ho4 := Lib.hid ho4; have Hvo := Lib.hid hvo; have hw4 := hw3.trans (hb4.mono hw3.size); clear ho4 hvo))
            go_ret3
            rw [Hlate.out hla]
            exact ⟨⟨_, rfl, OwnP.nil _ _⟩, hw4⟩
          · have hlab : (decide (now < p.last)) = false := by simpa using hla
            obtain ⟨g', tk, er, hT⟩ : ∃ g' tk er, take p.gate b.inc b.seq = (g', tk, er) := ⟨_, _, _, rfl⟩
            have HT := Lib.hid hT
            clear hT
            go_enter Try.func24, Try.ntmps24
            go_upto_region 17 with (first
              | (go_at_call 47; refine (check_any A c l _ (Hh.out.below ((Below.refl _ _).alloc (Nat.le_refl _) _))).mono ?_; rintro e w1 ⟨rfl, hb1⟩; obtain ⟨c1, f1, z1, hw1⟩ := keep1 hb1; clear hb1; have c10 := c1 0; have c11 := c1 1; have c12 := c1 2; simp at c10 c11 c12; clear c1)
              | (go_at_call 89; refine (bcheck_any b _).mono ?_; rintro e w2 ⟨rfl, hb2⟩; have c20 := bsome hb2 c10; have c21 := bsome hb2 c11; have c22 := bsome hb2 c12; have hw2 := hw1.trans (hb2.mono hw1.size); have z2 := hb2.size; clear c10 c11 c12)
              | (go_at_call 85; refine (find_any A c l b.id _ (Hh.out.below hw2) hl Hm.out).mono ?_; rintro e w3 ⟨rfl, hb3⟩; have c30 := bsome hb3 c20; have c31 := bsome hb3 c21; have c32 := bsome hb3 c22; have hw3 := hw2.trans (hb3.mono hw2.size); rw [← Hi.out]; have z3 := hb3.size; clear c20 c21 c22)
              | (go_at_call 87; refine (copied_any A c l _ (Hh.out.below hw3) hl Hv.out).mono ?_; rintro e w4 ⟨⟨v4, rfl, vs, ho4⟩, hb4⟩; obtain ⟨g, c4, A', c', rfl, hg1, hg2, hvi, hvl, hvo, p0, p1, p2, p3, p4, p5, p6, pf⟩ := OwnV.at ho4 Hp.out; have Ho4 := Lib.hid ho4; have Hvo := Lib.hid hvo; have c40 := bsome hb4 c30; have c41 := bsome hb4 c31; have c42 := bsome hb4 c32; have hw4 := hw3.trans (hb4.mono hw3.size); clear ho4 hvo c30 c31 c32; have z4 : w.heap.size < g := by omega))
            have z6 : w.heap.size ≤ g := by omega
            go_cut [15] from 52 to 67 (fun t15 wx => t15 = .bool tk ∧ Hid (OwnV wx w3.heap.size (.slice (some ⟨g, 0, none⟩) l.length c4) (l.set i { p with gate := g' }) (vs.set i (.slice A' p.vals.length c'))) ∧ Hid (Below w.heap.size w wx))
            case first =>
              go_region_with
                (first
                  | (go_at_call 90; refine (take_any p.gate b.inc b.seq _).mono ?_; rintro e w6 ⟨rfl, hb6⟩; rw [HT.out]; simp only [takeV]; have q1 := bsome hb6 p1; have q2 := bsome hb6 p2; have q3 := bsome hb6 p3; have qf := fun j => (hb6.frozen (p := ⟨g, j, none⟩) hg2).trans (pf j); have d1 := bsome hb6 c41; have d2 := bsome hb6 c42; have Hb6 := Lib.hid (((Below.refl w4.heap.size w4).drew).trans hb6); clear hb6)
                  | fail)
              all_goals
                go_wp2_with fail
                go_meet
                exact ⟨rfl, hear_gate Ho4.out rfl g' Hp.out hvi Hb6.out, (((hw4.trans (Hb6.out.mono hw4.size)).setCell z6 _).setCell z6 _).setCell z6 _⟩
            case rest =>
              obtain ⟨rfl, HO, HB⟩ := hcut
              have hpi : (l.set i { p with gate := g' })[i]? = some { p with gate := g' } := by rw [List.getElem?_set_self hil]
              obtain ⟨g2, c5, A2, c2, e2, k1, k2, kvi, kvl, kvo, y0, y1, y2, y3, y4, y5, y6, yf⟩ := OwnV.at HO.out hpi
              injection e2 with e2 e3 e4
              injection e2 with e2
              injection e2 with e2
              subst e2
              subst e4
              have Kvi := Lib.hid kvi
              have Kvo := Lib.hid kvo
              have Hpi := Lib.hid hpi
              clear kvi kvo hpi e3 y0 y1 y2 y3
              have zc := HB.out.size
              cases tk with
              | false =>
                go_wp2_with fail
                go_ret3
                have e : heard p b now = { p with gate := g' } := by unfold heard; rw [HT.out]; rfl
                rw [Hyes.out hla, HT.out, e]
                exact ⟨⟨.slice (some ⟨g, 0, none⟩) l.length c4, rfl, HO.out.own.base hw3.size⟩, HB.out⟩
              | true =>
                obtain ⟨m, hm⟩ : ∃ m, m = min (now - p.last) 16777216 := ⟨_, rfl⟩
                have hm2 : (if 16777216 < now - p.last then 16777216 else now - p.last) = m := by rw [hm]; omega
                have Hmm := Lib.hid hm
                have hpk := Ho.out.ok p (List.mem_of_getElem? Hp.out)
                have hpw := hpk.win
                have hplo := hpk.lo
                have hv1 : valOk m = true := by simp [valOk]; omega
                have Hpush : Hid (push p.cap p.vals m = ((p.cap, pushed p.cap p.vals m), 0)) := Lib.hid (by
                  unfold push
                  rw [if_neg (by simp [hpw]), if_neg (by simp [hv1])])
                have hwr : IntKind.i64.wrap (now - p.last) = now - p.last := IntWalk.i64_in _ (by omega)
                have Kr := Lib.hid (own_ints Kvo.out)
                clear hpk hpw hv1 hm
                go_wp2_with fail
                go_region_with
                  (first
                    | (go_at_call 67; refine (push_any p.cap A2 c2 p.vals m _ (Kr.out.below ((Below.refl _ _).drew)) kvl).mono ?_; rintro e w7 ⟨⟨v7, rfl, ho7⟩, hb7⟩; rw [Hpush.out] at ho7; rw [Hpush.out]; dsimp only at ho7; obtain ⟨A7, c7, rfl, -, -⟩ := own_form ho7; have q4 := bsome hb7 y4; have q5 := bsome hb7 y5; have q6 := bsome hb7 y6; have qf := fun j => (hb7.frozen (p := ⟨g, j, none⟩) k2).trans (yf j); have Hb7 := Lib.hid (((Below.refl wc.heap.size wc).drew).trans hb7); have Ho7 := Lib.hid ho7; clear hb7 ho7)
                    | fail)
                all_goals go_wp2_with fail
                all_goals
                  have e : heard p b now = { p with gate := g', vals := pushed p.cap p.vals m, last := now } := by unfold heard; rw [HT.out, ← Hmm.out]; rfl
                  have hk3 : w3.heap.size ≤ wc.drew.heap.size := by simp; omega
                  have hfin := hear_win HO.out (by simp) p.cap (pushed p.cap p.vals m) now Hpi.out Kvi.out Hb7.out rfl (own_base Ho7.out hk3)
                  rw [List.set_set] at hfin
                  go_ret3
                  rw [Hyes.out hla, HT.out, e]
                  exact ⟨⟨.slice (some ⟨g, 0, none⟩) l.length c4, rfl, hfin.own.base hw3.size⟩, (((HB.out.trans (Hb7.out.mono zc)).setCell z6 _).setCell z6 _).setCell z6 _⟩

end Go.Proofs.Ytmclalhjnjghnaa

namespace Go.Proofs.Ytmclalhjnjghnaa
open Go.RowKit Hw

theorem equal_same (A A' : Option Addr) (c c' : Nat) (l : List Int) (w : World) (h : Ints w A l) (h' : Ints w A' l) (hl : l.length ≤ 17592186044416) :
    Calls Try.prog 77 #[.slice A l.length c, .slice A' l.length c'] w fun e w' => e = .returned (.bool true) ∧ Below w.heap.size w w' := by
  go_enter Try.func77, Try.ntmps77
  go_wp2_with fail
  go_loopw [5, 13] (fun _ i wr => ∃ k : Nat, k ≤ l.length ∧ i = .int .i64 k ∧ Below w.heap.size w wr) (fun _ i _ => l.length - (intOf i).toNat)
  case atStart => exact ⟨0, Nat.zero_le _, rfl, Below.refl _ _⟩
  case round =>
    obtain ⟨k, hk, rfl, hb⟩ := hrel
    by_cases hlt : k < l.length
    · obtain ⟨b, off, rfl, hc⟩ := (h.below hb) (by omega)
      obtain ⟨b', off', rfl, hc'⟩ := (h'.below hb) (by omega)
      have q := hc k hlt
      have q' := hc' k hlt
      have hkk : (k : Int) < (l.length : Int) := by omega
      have hk0 : (0 : Int) ≤ (k : Int) := by omega
      clear hc hc'
      have Hb := Lib.hid hb
      clear hb
      go_wp2_with fail
      go_quiet (fail)
      go_wp2_with fail
      go_roundw
      case rel => exact ⟨k + 1, by omega, by go_num, below_drewN Hb.out _⟩
      case measure => simp [intOf]; omega
    · have hk2 : k = l.length := by omega
      subst hk2
      go_wp2_with fail
      go_ret
      exact ⟨rfl, hb⟩

theorem samewin_same (cap : Int) (A A' : Option Addr) (c c' : Nat) (l : List Int) (w : World) (h : Ints w A l) (h' : Ints w A' l) (hl : l.length ≤ 17592186044416) :
    Calls Try.prog 110 #[.agg #[.int .i64 cap, .slice A l.length c], .agg #[.int .i64 cap, .slice A' l.length c']] w fun e w' => e = .returned (.bool true) ∧ Below w.heap.size w w' := by
  have H := Lib.hid h
  have H' := Lib.hid h'
  clear h h'
  go_enter Try.func110, Try.ntmps110
  go_wp2_with (go_at_call 77; refine (equal_same A A' c c' l _ (H.out.below (((Below.refl _ _).alloc (Nat.le_refl _) _).alloc (by simp) _)) (H'.out.below (((Below.refl _ _).alloc (Nat.le_refl _) _).alloc (by simp) _)) hl).mono ?_; rintro e w1 ⟨rfl, hb1⟩; obtain ⟨c0, f0, c1, f1, z1, hb2⟩ := keep2 hb1; clear hb1)
  go_ret
  exact ⟨rfl, hb2⟩

theorem sq_self (a : ByteArray) : (a.toList == a.toList) = true := by simp

theorem samepeer_same (p : Peer) (A A' : Option Addr) (c c' : Nat) (w : World) (h : Ints w A p.vals) (h' : Ints w A' p.vals) (hl : p.vals.length ≤ 17592186044416) :
    Calls Try.prog 54 #[.agg (peerCells p (.slice A p.vals.length c)).toArray, .agg (peerCells p (.slice A' p.vals.length c')).toArray] w fun e w' => e = .returned (.bool true) ∧ Below w.heap.size w w' := by
  have H := Lib.hid h
  have H' := Lib.hid h'
  clear h h'
  go_enter Try.func54, Try.ntmps54
  go_wp2_with (go_at_call 110; refine (samewin_same p.cap A A' c c' p.vals _ (H.out.below (((Below.refl _ _).alloc (Nat.le_refl _) _).alloc (by simp) _)) (H'.out.below (((Below.refl _ _).alloc (Nat.le_refl _) _).alloc (by simp) _)) hl).mono ?_; rintro e w1 ⟨rfl, hb1⟩; obtain ⟨c0, f0, c1, f1, z1, hb2⟩ := keep2 hb1; clear hb1; have d0 := c0 6; have d1 := c1 6; simp at d0 d1; clear c0 c1)
  go_ret
  exact ⟨rfl, hb2⟩

theorem equalfunc_same (A A' : Option Addr) (c c' : Nat) (l : List Peer) (w : World) (h : PeersR w A l) (h' : PeersR w A' l) (hl : l.length ≤ 17592186044416) (hv : ∀ (k : Nat) (p : Peer), l[k]? = some p → p.vals.length ≤ 17592186044416) :
    Calls Try.prog 91 #[.slice A l.length c, .slice A' l.length c', .func (.func 54) #[] #[]] w fun e w' => e = .returned (.bool true) ∧ Below w.heap.size w w' := by
  have HV := Lib.hid hv
  clear hv
  go_enter Try.func91, Try.ntmps91
  go_wp2_with fail
  go_loopw [7, 8, 9, 17] (fun _ _ _ i wr => ∃ k : Nat, k ≤ l.length ∧ i = .int .i64 k ∧ Below w.heap.size w wr) (fun _ _ _ i _ => l.length - (intOf i).toNat)
  case atStart => exact ⟨0, Nat.zero_le _, rfl, Below.refl _ _⟩
  case round =>
    obtain ⟨k, hk, rfl, hb⟩ := hrel
    by_cases hlt : k < l.length
    · obtain ⟨b, off, rfl, hp⟩ := (h.below hb) (by omega)
      obtain ⟨b', off', rfl, hp'⟩ := (h'.below hb) (by omega)
      obtain ⟨A1, c1, h0, h1, h2, h3, h4, h5, h6, hi, -⟩ := hp k hlt
      obtain ⟨A2, c2, g0, g1, g2, g3, g4, g5, g6, gi, -⟩ := hp' k hlt
      have zb := blt h0
      have zb' := blt g0
      have hv := HV.out k l[k] (List.getElem?_eq_getElem hlt)
      have hkk : (k : Int) < (l.length : Int) := by omega
      have hk0 : (0 : Int) ≤ (k : Int) := by omega
      have hkw : IntKind.i64.wrap ((k : Int) + 1) = (k : Int) + 1 := IntWalk.i64_in _ (by omega)
      clear hp hp'
      have Hb := Lib.hid hb
      have Hi := Lib.hid hi
      have Gi := Lib.hid gi
      clear hb hi gi
      go_wp2_with (go_at_call 54; refine (samepeer_same l[k] A1 A2 c1 c2 _ (Hi.out.below (((Below.refl _ _).alloc (Nat.le_refl _) _).alloc (by simp) _)) (Gi.out.below (((Below.refl _ _).alloc (Nat.le_refl _) _).alloc (by simp) _)) hv).mono ?_; rintro e w1 ⟨rfl, hb1⟩; obtain ⟨d0, f0, d1, f1, z1, hb2⟩ := keep2 hb1; clear hb1)
      go_roundw
      case rel => exact ⟨k + 1, by omega, by go_num, Hb.out.trans (hb2.mono Hb.out.size)⟩
      case measure => simp [intOf]; omega
    · have hk2 : k = l.length := by omega
      subst hk2
      go_wp2_with fail
      go_ret
      exact ⟨rfl, hb⟩

theorem samepeers_same (A A' : Option Addr) (c c' : Nat) (l : List Peer) (w : World) (h : PeersR w A l) (h' : PeersR w A' l) (hl : l.length ≤ 17592186044416) (hv : ∀ (k : Nat) (p : Peer), l[k]? = some p → p.vals.length ≤ 17592186044416) :
    Calls Try.prog 25 #[.slice A l.length c, .slice A' l.length c'] w fun e w' => e = .returned (.bool true) ∧ Below w.heap.size w w' := by
  go_enter Try.func25, Try.ntmps25
  go_wp2_with (go_at_call 91; refine (equalfunc_same A A' c c' l _ h h' hl hv).mono ?_; rintro e w1 ⟨rfl, hb1⟩)
  go_ret
  exact ⟨rfl, hb1⟩

end Go.Proofs.Ytmclalhjnjghnaa

namespace Go.Proofs.Ytmclalhjnjghnaa
open Go.RowKit Hw

/-- A slice of strings. -/
def Strs (w : World) (A : Option Addr) (l : List ByteArray) : Prop :=
  0 < l.length → ∃ b off, A = some ⟨b, off, none⟩ ∧ ∀ j (h : j < l.length), w.cell? ⟨b, off + j, none⟩ = some (.string l[j])

theorem Strs.below {w w' : World} {A : Option Addr} {l : List ByteArray} (h : Strs w A l) (hb : Below w.heap.size w w') : Strs w' A l := fun h0 => by
  obtain ⟨b, off, e, hc⟩ := h h0
  exact ⟨b, off, e, fun j hj => bsome hb (hc j hj)⟩

theorem own_strs {w : World} {B n : Nat} {A : Option Addr} {c : Nat} {l : List ByteArray} (h : w.ownsRow B 9 1 (.slice A n c) n (l.map .string)) : Strs w A l := fun h0 => by
  have hl : l.length = n := by have := h.1; simpa using this
  rcases h.2 with ⟨e1, e2⟩ | ⟨g, cap, cur, e1, _, e3, _, _, _, e7⟩
  · omega
  · simp only [Value.slice.injEq] at e1
    refine ⟨g, 0, e1.1, fun j hj => ?_⟩
    rw [Nat.zero_add, cell_of_row w g j cur 9 (0, 0) e3]
    have e8 : (cur.toList.take (n * 1))[j]? = some (.string l[j]) := by rw [e7]; simp [hj]
    rw [List.getElem?_take_of_lt (by omega)] at e8
    simpa using e8

theorem strs_one (l : List ByteArray) : ∀ u ∈ l.map Value.string, u.oneCell' = true := by
  intro u hu
  obtain ⟨s, _, rfl⟩ := List.mem_map.1 hu
  rfl

theorem Strs.news {w : World} {b off : Nat} {l : List ByteArray} (h : ∀ j (h : j < l.length), w.cell? ⟨b, off + j, none⟩ = some (.string l[j])) : ∀ j u, (l.map Value.string)[j]? = some u → w.cell? ((⟨b, off, none⟩ : Addr).add j) = some u := by
  intro j u hu
  rw [add_lit]
  have hj : j < l.length := by
    have := (List.getElem?_eq_some_iff.1 hu).1
    simpa using this
  rw [h j hj]
  simpa [hj] using hu

section
variable {P : Program} {w : World}

/-- 'append(s, xs...)' to a row of the call's own, of whatever slice. -/
theorem wpList_append_src {ops : Array Oper} {rest : List Oper} {o : Oper} {a : Act} {Q : Exit → Act → World → Prop} (hgd : o.guard = none) (s x : Operand) (t : TypeId)
    (ho : o.op = .call { callee := .builtin .append, args := #[s, x], argTypes := #[t, t] })
    (base : Nat) (e : TypeId) (i : TypeInfo) (z : Value) (size bytes : Nat) (ht : P.underlying t = some (.slice e)) (hi : P.info? e = some i) (hz : i.zero = some z)
    (hsize : i.size = size) (hby : i.bytes = bytes) (hzs : z.cells.size = size) (hsz : 0 < size)
    (v : Value) (n : Nat) (xs : List Value) (hs : a.eval s = v) (hown : w.ownsRow base e size v n xs)
    (A : Option Addr) (m c : Nat) (news : List Value) (hx : a.eval x = .slice A m c) (hl : news.length = m * size) (hnone : A = none → m = 0 ∧ c = 0) (hnews : ∀ ad, A = some ad → ∀ j u, news[j]? = some u → w.cell? (ad.add j) = some u) (h1 : ∀ u ∈ news, u.oneCell' = true)
    (h63 : n + m ≤ maxLen) (hbytes : (n + m) * bytes ≤ 140737488355328) (hbase : base ≤ w.heap.size)
    (h : ∀ v' w', w'.ownsRow base e size v' (n + m) (xs ++ news) → w.grownBy w' v.ownBlock → (v'.ownBlock = v.ownBlock ∨ v'.ownBlock = some w.heap.size) → wpList P ops Q rest (a.put o.dst v') w') : wpList P ops Q (o :: rest) a w := by
  cases A with
  | some ad => exact wpList_append_own_at w hgd s x t ho base e i z size bytes ht hi hz hsize hby hzs hsz v n xs hs hown ad m c news hx hl (hnews ad rfl) h1 h63 hbytes hbase fun v' w' e1 e2 _ e3 => h v' w' e1 e2 e3
  | none =>
    obtain ⟨rfl, rfl⟩ := hnone rfl
    have hn : news = [] := by simpa using hl
    subst hn
    refine wpList_append_own_none hgd s x t ho base e i size ht hi v n xs hs hown hx (h v w ?_ (World.grownBy.refl _ _) (.inl rfl))
    simpa using hown

/-- 'append(nil, make([]T, m)...)'. -/
theorem wpList_append_zeros_nil {ops : Array Oper} {rest : List Oper} {o : Oper} {a : Act} {Q : Exit → Act → World → Prop} (hgd : o.guard = none) (s x : Operand) (t tn : TypeId)
    (ho : o.op = .call { callee := .builtin .append, args := #[s, x], argTypes := #[t, tn] }) (e : TypeId) (i : TypeInfo) (z : Value) (kn kq : IntKind) (ht : P.underlying t = some (.slice e)) (htn : P.underlying tn = some (.int kn))
    (hi : P.info? e = some i) (hz : i.zero = some z) (hzs : z.cells.size = i.size) (m : Nat) (q : Int) (hs : a.eval s = .slice none 0 0) (hx : a.eval x = .int kq q) (hq : q = (m : Int))
    (h0 : 0 < m) (hsz : 0 < i.size) (h63 : m ≤ 1000) (hby : i.bytes ≤ 1000)
    (h : ∀ w' cap (cur : Array Value), Hid (w'.heap[w.heap.size]? = some (.cells cur e (0, 0))) → cur.size = cap * i.size → m ≤ cap → cap ≤ maxLen → w.grownBy w' none →
      wpList P ops Q rest (a.put o.dst (.slice (some ⟨w.heap.size, 0, none⟩) m cap)) w') : wpList P ops Q (o :: rest) a w := by
  subst hq
  have hf : (Builtin.firstCells i.size 0 (.slice none 0 0)).run P w.drew = .ok ([] : List Value).toArray w.drew := by simp [Builtin.firstCells]
  have hb1 : m * i.bytes ≤ 1000 * 1000 := Nat.mul_le_mul (by omega) hby
  have hb2 : (0 + m) * i.bytes ≤ 1000 * 1000 := Nat.mul_le_mul (by omega) hby
  have hr := Lib.run_append_grow_zeros (P := P) w t tn o.type e i z kq kn ht htn hi hz none 0 0 [] hf m h0 hsz (by omega) (by omega) (by omega)
    (growslice_fits (by omega) (by omega))
  have hge := grownCap_ge w (0 + m) 0 e
  rw [Nat.zero_add] at hr hge
  refine Lib.wpList_append_run w hgd s x t tn ho _ _ hs hx _ _ hr (h _ _ (([] : List Value).toArray ++ Builtin.zeroCells z.cells m ++ Builtin.zeroCells z.cells (grownCap w m 0 e - m)) ?_ ?_ hge ?_ ?_)
  · exact heap_alloc_new w.drew _
  · simp only [Array.size_append, size_zeroCells, hzs]
    simp
    rw [← Nat.add_mul]
    congr 1
    omega
  · exact grownCap_le_maxLen w m 0 e (by simp only [maxLen]; omega)
  · exact ⟨rfl, rfl, rfl, by simp, fun k hk _ => Below.heap_alloc w.drew _ k hk⟩
end

set_option maxRecDepth 100000 in
theorem grow_any (m : Nat) (w : World) (hm : m ≤ 1000) : Calls Try.prog 96 #[.slice none 0 0, .int .i64 m] w fun e w' => (∃ v, e = .returned v ∧ w'.ownsRow w.heap.size 9 1 v 0 []) ∧ Below w.heap.size w w' := by
  obtain ⟨i0, hi0, hz0, hz1, hz2⟩ := info_parts info9
  by_cases h0 : m = 0
  · subst h0
    go_enter Try.func96, Try.ntmps96
    go_wp2_with fail
    go_ret
    exact ⟨⟨_, rfl, World.ownsRow_nil _ _ _ _⟩, Below.refl _ _⟩
  · have h1 : (0 : Int) < (m : Int) := by omega
    go_enter Try.func96, Try.ntmps96
    go_wp2_with (at_builtin; refine wpList_append_zeros_nil (by rfl) (.tmp 20) (.tmp 21) 48 3 (by rfl) 9 i0 _ .i64 .i64 Try.underlying48 Try.underlying3 hi0 hz0 (by rw [hz1]; rfl) m _ (by rfl) (by rfl) (by omega) (by omega) (by omega) hm (by omega) ?_; intro w1 cap cur hh hc hmc hcm hgr; have Hh := hh; have Hg := Lib.hid hgr; clear hh hgr)
    go_ret
    refine ⟨⟨_, rfl, rfl, .inr ⟨w.heap.size, cap, cur, rfl, Nat.le_refl _, Hh.out, by omega, hcm, by rw [hc, hz1], by simp⟩⟩, (Below.refl _ _).grown Hg.out (Nat.le_refl _) (fun k hk => by cases hk)⟩

/-- All of some lists. -/
def cat (L : Nat → List ByteArray) (k : Nat) : List ByteArray := (List.range k).flatMap L
theorem cat_succ (L : Nat → List ByteArray) (k : Nat) : cat L (k + 1) = cat L k ++ L k := by
  unfold cat
  rw [List.range_succ, List.flatMap_append]
  simp

set_option maxRecDepth 100000 in
set_option maxHeartbeats 1000000 in
theorem concat_any (g n cap : Nat) (AA : Nat → Option Addr) (CC : Nat → Nat) (L : Nat → List ByteArray) (w : World) (hn : n ≤ 1000) (hc : ∀ j, j < n → w.cell? ⟨g, j, none⟩ = some (.slice (AA j) (L j).length (CC j)))
    (hs : ∀ j, j < n → Strs w (AA j) (L j)) (hno : ∀ j, j < n → AA j = none → (L j).length = 0 ∧ CC j = 0) (hsum : ∀ k, k ≤ n → (cat L k).length ≤ 1000) :
    Calls Try.prog 33 #[.slice (some ⟨g, 0, none⟩) n cap] w fun e w' => (∃ v, e = .returned v ∧ w'.ownsRow w.heap.size 9 1 v (cat L n).length ((cat L n).map .string)) ∧ Below w.heap.size w w' := by
  have HC := Lib.hid hc
  have HS := Lib.hid hs
  have HNO := Lib.hid hno
  have HSum := Lib.hid hsum
  obtain ⟨i0, hi0, hz0, hz1, hz2⟩ := info_parts info9
  clear hc hs hno hsum
  go_enter Try.func33, Try.ntmps33
  go_wp2_with fail
  go_loopw [3, 5, 11] (fun s _ i wr => ∃ k : Nat, k ≤ n ∧ i = .int .i64 k ∧ s = .int .i64 (cat L k).length ∧ Hid (wr = w)) (fun _ _ i _ => n - (intOf i).toNat)
  case atStart => exact ⟨0, by omega, rfl, rfl, rfl⟩
  case round =>
    obtain ⟨k, hk, rfl, rfl, hw⟩ := hrel
    obtain rfl := hw.out
    by_cases hlt : k < n
    · have q := HC.out k hlt
      have hki : (k : Int) < (n : Int) := by omega
      have hk0 : (0 : Int) ≤ (k : Int) := by omega
      have hkw : IntKind.i64.wrap ((k : Int) + 1) = (k : Int) + 1 := IntWalk.i64_in _ (by omega)
      have h1 := HSum.out k hk
      have h2 := HSum.out (k + 1) (by omega)
      have e2 : (cat L (k + 1)).length = (cat L k).length + (L k).length := by rw [cat_succ, List.length_append]
      have E2 := Lib.hid e2
      have hsw : IntKind.i64.wrap (((cat L k).length : Int) + ((L k).length : Int)) = ((cat L (k + 1)).length : Int) := by
        rw [IntWalk.i64_in _ (by omega)]
        omega
      have hns : ¬ ((cat L (k + 1)).length : Int) < 0 := by omega
      clear e2
      go_wp2_with fail
      go_roundw
      case rel => exact ⟨k + 1, by omega, by go_num, rfl, trivial⟩
      case measure => simp [intOf]; omega
    · have hkn : k = n := by omega
      subst hkn
      have h1 := HSum.out k (by omega)
      go_wp2_with (go_at_call 96; refine (grow_any (cat L k).length _ h1).mono ?_; rintro e w1 ⟨⟨v1, rfl, ho1⟩, hb1⟩; have Ho1 := Lib.hid ho1; have Hb1 := Lib.hid hb1; clear ho1 hb1)
      obtain ⟨wI, rfl⟩ : ∃ x, x = wr := ⟨wr, rfl⟩
      go_loopw [6, 8, 27] (fun v _ i wr => ∃ q : Nat, q ≤ k ∧ i = .int .i64 q ∧ Hid (wr.ownsRow wI.heap.size 9 1 v (cat L q).length ((cat L q).map .string)) ∧ Hid (Below wI.heap.size wI wr)) (fun _ _ i _ => k - (intOf i).toNat)
      case atStart =>
        exact ⟨0, by omega, rfl, Ho1.out, Hb1.out⟩
      case round =>
        obtain ⟨q, hq, rfl, HO, HB⟩ := hrel
        by_cases hlq : q < k
        · have hcell := bsome HB.out (HC.out q hlq)
          have hstr := (HS.out q hlq).below HB.out
          have Hstr := Lib.hid hstr
          have hki : (q : Int) < (k : Int) := by omega
          have hk0 : (0 : Int) ≤ (q : Int) := by omega
          have hkw : IntKind.i64.wrap ((q : Int) + 1) = (q : Int) + 1 := IntWalk.i64_in _ (by omega)
          have h2 := HSum.out (q + 1) (by omega)
          have e2 : (cat L (q + 1)).length = (cat L q).length + (L q).length := by rw [cat_succ, List.length_append]
          have E2 := Lib.hid e2
          have hle : (cat L q).length + (L q).length ≤ 1000 := by omega
          clear e2 hstr
          go_wp2_with (at_builtin; refine wpList_append_src (by rfl) (.tmp 31) (.tmp 32) 48 (by rfl) wI.heap.size 9 i0 _ 1 16 Try.underlying48 hi0 hz0 hz1 hz2 (by rfl) (by omega) _ _ _ (by rfl) HO.out (AA q) (L q).length (CC q) ((L q).map .string) (by rfl) (by simp) (HNO.out q hlq) ?b1 (strs_one _) ?b2 ?b3 HB.out.size ?_; (case b1 => (intro ad ha j u hu; obtain ⟨b, off, e1, e2⟩ := Hstr.out (by have := (List.getElem?_eq_some_iff.1 hu).1; simp at this; omega); rw [ha] at e1; cases e1; exact Strs.news e2 j u hu)); (case b2 => (simp only [maxLen]; omega)); (case b3 => omega); intro v9 w9 ho9 hg9 _; have hB9 := HB.out.grown hg9 HB.out.size (fun k hk => (HO.out.lt k hk).1); have Ho9 := Lib.hid ho9; have Hb9 := Lib.hid hB9; clear ho9 hg9 hB9)
          go_roundw
          case rel =>
            refine ⟨q + 1, by omega, by go_num, ?_, Hb9.out⟩
            show w9.ownsRow wI.heap.size 9 1 v9 (cat L (q + 1)).length ((cat L (q + 1)).map .string)
            rw [E2.out, cat_succ, List.map_append]
            exact Ho9.out
          case measure => simp [intOf]; omega
        · have hkq : q = k := by omega
          subst hkq
          go_wp2_with fail
          go_ret
          exact ⟨⟨_, rfl, HO.out⟩, HB.out⟩

theorem equal_strs (A A' : Option Addr) (c c' : Nat) (l : List ByteArray) (w : World) (h : Strs w A l) (h' : Strs w A' l) (hl : l.length ≤ 17592186044416) :
    Calls Try.prog 32 #[.slice A l.length c, .slice A' l.length c'] w fun e w' => e = .returned (.bool true) ∧ Below w.heap.size w w' := by
  go_enter Try.func32, Try.ntmps32
  go_wp2_with fail
  go_loopw [5, 13] (fun _ i wr => ∃ k : Nat, k ≤ l.length ∧ i = .int .i64 k ∧ Below w.heap.size w wr) (fun _ i _ => l.length - (intOf i).toNat)
  case atStart => exact ⟨0, Nat.zero_le _, rfl, Below.refl _ _⟩
  case round =>
    obtain ⟨k, hk, rfl, hb⟩ := hrel
    by_cases hlt : k < l.length
    · obtain ⟨b, off, rfl, hc⟩ := (h.below hb) (by omega)
      obtain ⟨b', off', rfl, hc'⟩ := (h'.below hb) (by omega)
      have q := hc k hlt
      have q' := hc' k hlt
      have hkk : (k : Int) < (l.length : Int) := by omega
      have hk0 : (0 : Int) ≤ (k : Int) := by omega
      have hsame := sq_self l[k]
      clear hc hc'
      have Hb := Lib.hid hb
      clear hb
      go_wp2_with fail
      go_quiet (fail)
      go_wp2_with fail
      go_roundw
      case rel => exact ⟨k + 1, by omega, by go_num, below_drewN Hb.out _⟩
      case measure => simp [intOf]; omega
    · have hk2 : k = l.length := by omega
      subst hk2
      go_wp2_with fail
      go_ret
      exact ⟨rfl, hb⟩

/-- 'Within'. -/
def within (n k : Int) : Int := n % 18446744073709551616 % k

theorem within_in {n k : Int} (h : 0 < k) : 0 ≤ within n k ∧ within n k < k := ⟨Int.emod_nonneg _ (by omega), Int.emod_lt_of_pos _ h⟩

theorem within_any (n k : Int) (w : World) (h1 : 1 ≤ k) (h2 : k ≤ 1073741824) : Calls Try.prog 30 #[.int .i64 n, .int .i64 k] w fun e w' => e = .returned (.int .i64 (within n k)) ∧ w = w' := by
  have hk : IntKind.u64.wrap k = k := by rw [IntKind.wrap_u64]; omega
  have hz : (k == 0) = false := by simp; omega
  have hm : wrap64 ((IntKind.u64.wrap n).tmod k) = within n k := by
    rw [IntKind.wrap_u64]
    have h0 : 0 ≤ n % 18446744073709551616 := Int.emod_nonneg _ (by omega)
    rw [Int.tmod_eq_emod_of_nonneg h0]
    have := within_in (n := n) (k := k) (by omega)
    exact IntWalk.wrap64_in _ (by unfold within at this; omega)
  have Hm := Lib.hid hm
  clear hm
  go_enter Try.func30, Try.ntmps30
  go_wp2_with fail
  go_ret
  exact ⟨ret_int Hm.out, rfl⟩

end Go.Proofs.Ytmclalhjnjghnaa
