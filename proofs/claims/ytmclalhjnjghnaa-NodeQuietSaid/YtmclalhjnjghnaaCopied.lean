/- The contract of peers.Copied: peers in new memory that are as those that came. -/
import Derived.Test.YtmclalhjnjghnaaClone
namespace Go.Proofs.Ytmclalhjnjghnaa
open Go.RowKit Hw

theorem own_below {w w' : World} {B : Nat} {e : TypeId} {s : Nat} {v : Value} {n : Nat} {xs : List Value} (h : w.ownsRow B e s v n xs) (hb : Below w.heap.size w w') : w'.ownsRow B e s v n xs := by
  refine ⟨h.1, ?_⟩
  rcases h.2 with h2 | ⟨g, cap, cur, e1, e2, e3, r⟩
  · exact .inl h2
  · exact .inr ⟨g, cap, cur, e1, e2, (hb.block g (Array.getElem?_eq_some_iff.1 e3).1).trans e3, r⟩

theorem own_base {w : World} {B B' : Nat} {e : TypeId} {s : Nat} {v : Value} {n : Nat} {xs : List Value} (h : w.ownsRow B e s v n xs) (hB : B' ≤ B) : w.ownsRow B' e s v n xs := by
  refine ⟨h.1, ?_⟩
  rcases h.2 with h2 | ⟨g, cap, cur, e1, e2, r⟩
  · exact .inl h2
  · exact .inr ⟨g, cap, cur, e1, by omega, r⟩

/-- Rows of two element types share no block. -/
theorem own_ne {w : World} {B B' : Nat} {e e' : TypeId} {s s' : Nat} {v v' : Value} {n n' : Nat} {xs xs' : List Value} (h : w.ownsRow B e s v n xs) (h' : w.ownsRow B' e' s' v' n' xs') (hne : e ≠ e') :
    v.ownBlock = none ∨ v.ownBlock ≠ v'.ownBlock := by
  rcases h.2 with ⟨e1, _⟩ | ⟨g, cap, cur, e1, _, e3, _⟩
  · left; rw [e1]; rfl
  · right
    rcases h'.2 with ⟨f1, _⟩ | ⟨g', cap', cur', f1, _, f3, _⟩
    · rw [e1, f1]; simp [Value.ownBlock]
    · rw [e1, f1]
      simp only [Value.ownBlock, ne_eq, Option.some.injEq]
      rintro rfl
      rw [e3] at f3
      injection f3 with f3
      injection f3 with _ ht _
      exact hne ht

abbrev peerCells (p : Peer) (v : Value) : List Value :=
  [.string p.id, .int .i64 p.gate.inc, .int .i64 p.gate.seq, .int .i64 p.gate.drops, .int .i64 p.cap, v, .int .i64 p.last]

def cellsOf : List Peer → List Value → List Value
  | p :: l, v :: vs => peerCells p v ++ cellsOf l vs
  | _, _ => []

theorem cellsOf_snoc : ∀ (l : List Peer) (vs : List Value) (p : Peer) (v : Value), vs.length = l.length → cellsOf (l ++ [p]) (vs ++ [v]) = cellsOf l vs ++ peerCells p v
  | [], [], p, v, _ => by simp [cellsOf]
  | [], _ :: _, _, _, h => by simp at h
  | _ :: _, [], _, _, h => by simp at h
  | q :: l, u :: vs, p, v, h => by
    have ih := cellsOf_snoc l vs p v (by simpa using h)
    simp only [List.cons_append, cellsOf]
    rw [ih]
    rfl

theorem cellsOf_length : ∀ (l : List Peer) (vs : List Value), vs.length = l.length → (cellsOf l vs).length = l.length * 7
  | [], [], _ => rfl
  | [], _ :: _, h => by simp at h
  | _ :: _, [], h => by simp at h
  | q :: l, u :: vs, h => by
    have ih := cellsOf_length l vs (by simpa using h)
    simp only [cellsOf, List.length_append, ih, List.length_cons]
    simp; omega

theorem cellsOf_get : ∀ (l : List Peer) (vs : List Value) (k j : Nat) (h : vs.length = l.length) (hk : k < l.length) (_ : j < 7),
    (cellsOf l vs)[k * 7 + j]? = (peerCells l[k] (vs[k]'(by omega)))[j]?
  | [], _, k, j, _, hk, _ => by simp at hk
  | q :: l, [], _, _, h, _, _ => by simp at h
  | q :: l, u :: vs, 0, j, h, hk, hj => by
    simp only [cellsOf, List.getElem_cons_zero]
    rw [List.getElem?_append_left (by simp; omega)]
    simp
  | q :: l, u :: vs, k + 1, j, h, hk, hj => by
    have ih := cellsOf_get l vs k j (by simpa using h) (by simpa using hk) hj
    simp only [cellsOf, List.getElem_cons_succ]
    rw [List.getElem?_append_right (by simp; omega)]
    rw [← ih]
    congr 1
    simp; omega

/-- Peers in memory of the call's own: the row of the peers, and each one's row of values. -/
def OwnP (w : World) (B : Nat) (v : Value) (l : List Peer) : Prop :=
  ∃ vs : List Value, vs.length = l.length ∧ w.ownsRow B 40 7 v l.length (cellsOf l vs) ∧
    ∀ (k : Nat) (u : Value) (p : Peer), vs[k]? = some u → l[k]? = some p → w.ownsRow B 3 1 u p.vals.length (ints p.vals)

theorem OwnP.nil (w : World) (B : Nat) : OwnP w B (.slice none 0 0) [] := ⟨[], rfl, World.ownsRow_nil _ _ _ _, by simp⟩

theorem OwnP.below {w w' : World} {B : Nat} {v : Value} {l : List Peer} (h : OwnP w B v l) (hb : Below w.heap.size w w') : OwnP w' B v l := by
  obtain ⟨vs, h1, h2, h3⟩ := h
  exact ⟨vs, h1, own_below h2 hb, fun k u p a b => own_below (h3 k u p a b) hb⟩

theorem OwnP.base {w : World} {B B' : Nat} {v : Value} {l : List Peer} (h : OwnP w B v l) (hB : B' ≤ B) : OwnP w B' v l := by
  obtain ⟨vs, h1, h2, h3⟩ := h
  exact ⟨vs, h1, own_base h2 hB, fun k u p a b => own_base (h3 k u p a b) hB⟩

/-- They read as those peers. -/
theorem OwnP.reads {w : World} {B : Nat} {A : Option Addr} {c : Nat} {l : List Peer} (h : OwnP w B (.slice A l.length c) l) : PeersR w A l := by
  obtain ⟨vs, h1, h2, h3⟩ := h
  intro h0
  rcases h2.2 with ⟨e, e2⟩ | ⟨g, cap, cur, e, _⟩
  · omega
  · injection e with e1 e2 e3
    subst e1
    refine ⟨g, 0, rfl, fun k hk => ?_⟩
    have hv : vs[k]? = some (vs[k]'(by omega)) := List.getElem?_eq_getElem (by omega)
    have hp : l[k]? = some l[k] := List.getElem?_eq_getElem hk
    have ho := h3 k _ _ hv hp
    obtain ⟨A', c', ev, hle, -⟩ := own_form ho
    have hcell : ∀ j u, j < 7 → (peerCells l[k] (vs[k]'(by omega)))[j]? = some u → w.cell? ⟨g, 0 + k * 7 + j, none⟩ = some u := by
      intro j u hj hu
      have hc := h2.cells (g := g) rfl (k * 7 + j) u (by rw [cellsOf_get l vs k j h1 hk hj]; exact hu)
      rw [add_lit] at hc
      rw [← hc]
      congr 2
      omega
    refine ⟨A', c', ?_, hcell 1 _ (by omega) rfl, hcell 2 _ (by omega) rfl, hcell 3 _ (by omega) rfl, hcell 4 _ (by omega) rfl, ?_, hcell 6 _ (by omega) rfl, ?_, hle⟩
    · have := hcell 0 _ (by omega) rfl
      exact this
    · have := hcell 5 _ (by omega) rfl
      rw [this, ev]
    · rw [ev] at ho
      exact own_ints ho

/-- One peer more behind a row of peers. -/
theorem OwnP.snoc {w w' : World} {B : Nat} {v v' u : Value} {l : List Peer} {p : Peer} {vs : List Value} (h1 : vs.length = l.length) (h2 : w.ownsRow B 40 7 v l.length (cellsOf l vs))
    (h3 : ∀ (k : Nat) (u : Value) (p : Peer), vs[k]? = some u → l[k]? = some p → w.ownsRow B 3 1 u p.vals.length (ints p.vals)) (hu : w.ownsRow B 3 1 u p.vals.length (ints p.vals))
    (hown : w'.ownsRow B 40 7 v' (l.length + 1) (cellsOf l vs ++ peerCells p u)) (hg : w.grownBy w' v.ownBlock) : OwnP w' B v' (l ++ [p]) := by
  refine ⟨vs ++ [u], by simp [h1], ?_, fun k y q hy hq => ?_⟩
  · rw [cellsOf_snoc _ _ _ _ h1]
    simpa using hown
  · have hr : w.ownsRow B 3 1 y q.vals.length (ints q.vals) := by
      rcases Nat.lt_or_ge k l.length with hk | hk
      · rw [List.getElem?_append_left (by omega)] at hy hq
        exact h3 k y q hy hq
      · rw [List.getElem?_append_right (by omega)] at hy hq
        rw [h1] at hy
        rcases Nat.eq_zero_or_pos (k - l.length) with e | e
        · rw [e] at hy hq
          simp at hy hq
          subst hy hq
          exact hu
        · rw [List.getElem?_eq_none (by simp; omega)] at hy
          cases hy
    exact hr.kept hg (own_ne hr h2 (by decide))

theorem OwnP.push {w W w' : World} {B : Nat} {v v' u : Value} {l : List Peer} {p : Peer} {vs : List Value} (h1 : vs.length = l.length) (h2 : w.ownsRow B 40 7 v l.length (cellsOf l vs))
    (h3 : ∀ (k : Nat) (u : Value) (p : Peer), vs[k]? = some u → l[k]? = some p → w.ownsRow B 3 1 u p.vals.length (ints p.vals)) (hW : Below w.heap.size w W) (hu : W.ownsRow B 3 1 u p.vals.length (ints p.vals))
    (hown : w'.ownsRow B 40 7 v' (l.length + 1) (cellsOf l vs ++ peerCells p u)) (hg : W.grownBy w' v.ownBlock) : OwnP w' B v' (l ++ [p]) :=
  OwnP.snoc h1 (own_below h2 hW) (fun k u p a b => own_below (h3 k u p a b) hW) hu hown hg

theorem peer_one (p : Peer) (A : Option Addr) (n c : Nat) : ∀ u ∈ peerCells p (.slice A n c), u.oneCell' = true := by
  intro u hu
  simp only [peerCells, List.mem_cons, List.not_mem_nil, or_false] at hu
  rcases hu with rfl | rfl | rfl | rfl | rfl | rfl | rfl <;> rfl

/-- The cells of a block that has just been laid. -/
theorem news_new (w : World) (cs : List Value) (t : TypeId) : ∀ j u, cs[j]? = some u → (w.alloc (.cells cs.toArray t)).cell? ((⟨w.heap.size, 0, none⟩ : Addr).add j) = some u := by
  intro j u hu
  rw [add_lit, Nat.zero_add, World.cell?_alloc_new]
  simpa using hu

theorem news_at (w : World) (n : Nat) (cs : List Value) (t : TypeId) (hn : n = w.heap.size) : ∀ j u, cs[j]? = some u → (w.alloc (.cells cs.toArray t)).cell? ((⟨n, 0, none⟩ : Addr).add j) = some u := by
  subst hn
  exact news_new w cs t

set_option maxHeartbeats 1000000 in
theorem copied_any (A : Option Addr) (c : Nat) (l : List Peer) (w : World) (h : PeersR w A l) (hl : l.length ≤ 6) (hv : ∀ (k : Nat) (p : Peer), l[k]? = some p → p.vals.length ≤ 64) :
    Calls Try.prog 87 #[.slice A l.length c] w fun e w' => (∃ v, e = .returned v ∧ OwnP w' w.heap.size v l) ∧ Below w.heap.size w w' := by
  obtain ⟨i0, hi0, hz0, hz1, hz2⟩ := info_parts info40
  have HV := Lib.hid hv
  clear hv
  go_enter Try.func87, Try.ntmps87
  go_wp2_with fail
  go_loopw [3, 8] (fun v i wr => ∃ k : Nat, k ≤ l.length ∧ i = .int .i64 k ∧ Below w.heap.size w wr ∧ Hid (OwnP wr w.heap.size v (l.take k))) (fun _ i _ => l.length - (intOf i).toNat)
  case atStart => exact ⟨0, Nat.zero_le _, rfl, Below.refl _ _, by simp only [List.take_zero]; exact OwnP.nil _ _⟩
  case round =>
    obtain ⟨k, hk, rfl, hb, HO⟩ := hrel
    by_cases hlt : k < l.length
    · have hr := h.below hb
      obtain ⟨b, off, rfl, hp⟩ := hr (by omega)
      clear hr
      obtain ⟨A', c', h0, h1, h2, h3, h4, h5, h6, hi, -⟩ := hp k hlt
      have hv := HV.out k l[k] (List.getElem?_eq_getElem hlt)
      have Hi := Lib.hid hi
      have Hb := Lib.hid hb
      have hkk : (k : Int) < (l.length : Int) := by omega
      clear hi hb hp
      obtain ⟨vs, hvs, hO2, hO3⟩ := HO.out
      have hkl : (l.take k).length = k := by simp; omega
      rw [hkl] at hO2
      have Hvs := Lib.hid hvs
      have HO2 := Lib.hid hO2
      have HO3 := Lib.hid hO3
      clear hvs hO2 hO3 HO hkl
      have Hlt := Lib.hid hlt
      go_wp2_with (first
        | (go_at_call 78; refine (clone_any A' c' l[k].vals _ (Hi.out.below ((Below.refl _ _).alloc (Nat.le_refl _) _)) (by omega)).mono ?_; rintro e w1 ⟨⟨v1, rfl, hown1⟩, hb1⟩; obtain ⟨c1, f1, z1, hw1⟩ := keep1 hb1; obtain ⟨A1, d1, rfl, -, -⟩ := own_form hown1; have Hown1 := Lib.hid hown1; clear hown1 hb1)
        | (at_builtin; go_loud (refine wpList_append_own_at _ rfl (.tmp 18) (.tmp 20) 22 rfl w.heap.size 40 i0 _ 7 80 Try.underlying22 hi0 hz0 hz1 hz2 rfl (by omega) u3 k (cellsOf (l.take k) vs) rfl (by exact own_below HO2.out ((hw1.setCell (Nat.le_refl _) _).alloc (by simp; omega) _)) ⟨w1.heap.size, 0, none⟩ 1 1 (peerCells l[k] (.slice A1 l[k].vals.length d1)) rfl rfl (by exact news_at _ _ _ _ (by simp)) (peer_one _ _ _ _) (by simp only [maxLen]; omega) (by omega) (by have := Hb.out.size; simp; omega) ?_); intro v2 w2 hown2 hgrow2 _ _; have Hown2 := Lib.hid hown2; clear hown2))
      have hB := Hb.out.size
      have hW3 : Below wr.heap.size wr ((w1.setCell ⟨wr.heap.size, 5, none⟩ (.slice A1 l[k].vals.length d1)).alloc (.cells (peerCells l[k] (.slice A1 l[k].vals.length d1)).toArray 40)) :=
        (hw1.setCell (Nat.le_refl _) _).alloc (by simp; omega) _
      have hu : ((w1.setCell ⟨wr.heap.size, 5, none⟩ (.slice A1 l[k].vals.length d1)).alloc (.cells (peerCells l[k] (.slice A1 l[k].vals.length d1)).toArray 40)).ownsRow w.heap.size 3 1 (.slice A1 l[k].vals.length d1) l[k].vals.length (ints l[k].vals) :=
        own_base ((ownsRow_setCell_below Hown1.out (by simp) _).alloc _) (by simp; omega)
      have hkl : (l.take k).length = k := by simp; omega
      have hfin : OwnP w2 w.heap.size v2 (l.take (k + 1)) := by
        have hlt' := Hlt.out
        rw [show l.take (k + 1) = l.take k ++ [l[k]] from List.take_succ_eq_append_getElem hlt']
        exact OwnP.push Hvs.out (by rw [hkl]; exact HO2.out) HO3.out hW3 hu (by rw [hkl]; exact Hown2.out) hgrow2
      have hb2 : Below w.heap.size w w2 := (Hb.out.trans (hW3.mono hB)).grown hgrow2 (by have := hW3.size; omega) (fun g hg => (HO2.out.lt g hg).1)
      go_roundw
      case rel => exact ⟨k + 1, by omega, by go_num, hb2, hfin⟩
      case measure => simp [intOf]; omega
    · have hk2 : k = l.length := by omega
      subst hk2
      go_wp2_with fail
      go_ret
      exact ⟨⟨_, rfl, by have := HO.out; rwa [List.take_length] at this⟩, hb⟩

end Go.Proofs.Ytmclalhjnjghnaa
