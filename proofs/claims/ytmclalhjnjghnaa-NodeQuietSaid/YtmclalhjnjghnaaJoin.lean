/- The contract of (*Node).Join. The walk of (*Node).Join. Contracts of slices.Delete and Clone of subs, of (*Node).Part, Subs and Peers. -/
import Derived.Test.YtmclalhjnjghnaaSubs
import Derived.Test.YtmclalhjnjghnaaNHear
import Derived.Test.YtmclalhjnjghnaaDrop
namespace Go.Proofs.Ytmclalhjnjghnaa
open Go.RowKit Hw

/-- A row that stands where an older one stood, or in new memory. -/
def VsTo (vs vs' : Value) (w : World) : Prop := ∀ k, some k = vs'.ownBlock → some k = vs.ownBlock ∨ w.heap.size ≤ k

theorem VsTo.refl (vs : Value) (w : World) : VsTo vs vs w := fun _ h => .inl h
theorem VsTo.trans {S : Nat → Prop} {vs vs' vs'' : Value} {w w' : World} (h : VsTo vs vs' w) (h' : VsTo vs' vs'' w') (ht : Touch S w w') : VsTo vs vs'' w := fun k hk => by
  rcases h' k hk with e | e
  · exact h k e
  · exact .inr (Nat.le_trans ht.size e)

theorem Touch.vs {b : Nat} {vs vs' : Value} {w w' w'' : World} (h : Touch (NodeS b vs) w w') (hv : VsTo vs vs' w) (h' : Touch (NodeS b vs') w' w'') : Touch (NodeS b vs) w w'' :=
  ⟨h'.os.trans h.os, h'.tape.trans h.tape, h'.output.trans h.output, Nat.le_trans h.size h'.size, fun k hk hn => (h'.block k (Nat.lt_of_lt_of_le hk h.size) (by
    rintro (e | e)
    · exact hn (.inl e)
    · rcases hv k e with e | e
      · exact hn (.inr e)
      · omega)).trans (h.block k hk hn)⟩

def NodeB (w : World) (b : Nat) (vs : Value) (n : Hw.Node) : Prop := ∃ vp, w.heap[b]? = some (.cells (nodeCells n vp vs).toArray 145 (0, 0)) ∧ OwnP w (b + 1) vp n.peers

theorem NodeAt.toB {w : World} {b : Nat} {vs : Value} {n : Hw.Node} (h : NodeAt w b vs n) : NodeB w b vs n := by
  obtain ⟨vp, e1, e2, _⟩ := h
  exact ⟨vp, e1, e2⟩

theorem NodeB.below {w w' : World} {b : Nat} {vs : Value} {n : Hw.Node} (h : NodeB w b vs n) (hb : Below w.heap.size w w') : NodeB w' b vs n := by
  obtain ⟨vp, h1, h2⟩ := h
  exact ⟨vp, (hb.block b (Array.getElem?_eq_some_iff.1 h1).1).trans h1, h2.below hb⟩

theorem NodeB.cell {w : World} {b : Nat} {vs : Value} {n : Hw.Node} (h : NodeB w b vs n) : w.cell? ⟨b, 9, none⟩ = some vs ∧ w.frozen? ⟨b, 9, none⟩ = false := by
  obtain ⟨vp, h1, h2⟩ := h
  exact ⟨cell_of_row w b 9 _ 145 (0, 0) h1, frozen_of_row _ _ _ _ _ h1⟩

/-- Other subs. -/
theorem NodeB.put {w : World} {b : Nat} {vs v : Value} {n : Hw.Node} {l : List Sub} (h : NodeB w b vs n) (ho : w.ownsRow (b + 1) 85 3 v l.length (subsCells l)) : NodeAt (w.setCell ⟨b, 9, none⟩ v) b v { n with subs := l } := by
  obtain ⟨vp, e1, e2⟩ := h
  have ht := set_typed (j := 9) v e1
  exact ⟨vp, by rw [heap_set v e1]; rfl, e2.typed fun k c t hk hc => ht k c t (by rcases hk with e | e <;> rw [e] <;> decide) hc, own_typed ho fun k c _ hc => ht k c 85 (by decide) hc⟩

theorem NodeAt.toBgrown {w w' : World} {b : Nat} {vs : Value} {n : Hw.Node} (h : NodeAt w b vs n) (hg : w.grownBy w' vs.ownBlock) : NodeB w' b vs n := by
  have hne : ∀ (q : Nat) (c : Array Value) (u : TypeId), w.heap[q]? = some (.cells c u (0, 0)) → u ≠ 85 → w'.heap[q]? = w.heap[q]? := by
    intro q c u hq hu
    refine hg.block q (Array.getElem?_eq_some_iff.1 hq).1 fun he => ?_
    by_cases h145 : u = 145
    · obtain ⟨vp, e1, _, e3⟩ := h
      rcases e3.2 with ⟨q', _⟩ | ⟨g, cap, cur, q', _, q3, _⟩
      · rw [q'] at he
        simp [Value.ownBlock] at he
      · rw [q'] at he
        simp [Value.ownBlock] at he
        subst he
        rw [hq] at q3
        injection q3 with q3
        injection q3 with _ q3 _
        exact hu q3
    · exact h.other hq h145 hu (.inr he)
  obtain ⟨vp, e1, e2, _⟩ := h
  exact ⟨vp, (hne _ _ _ e1 (by decide)).trans e1, e2.typed fun k c t' hk hc => hne k c t' hc (by rcases hk with e | e <;> rw [e] <;> decide)⟩

theorem subsCells_snoc (l : List Sub) (s : Sub) : subsCells (l ++ [s]) = subsCells l ++ subCells s := by simp [subsCells]

/-- '(*Node).Join'. -/
def njoin (n : Hw.Node) (id : ByteArray) (theta : Int) : Hw.Node × List Note × Int :=
  if theta < 1 ∨ 60 < theta then (n, [], 1)
  else if (level n id).2 ≠ 0 then (n, [], (level n id).2)
  else if 0 ≤ at? (subIs id theta) n.subs then (n, [], 5)
  else if n.subs.length = 8 then (n, [], 10)
  else ((told { n with subs := n.subs ++ [⟨id, theta, false⟩] }).1, (told { n with subs := n.subs ++ [⟨id, theta, false⟩] }).2, 0)

def JoinPost (b : Nat) (vs : Value) (w : World) (r : Hw.Node × List Note × Int) (e : Ending) (w' : World) : Prop :=
  (∃ vn, e = .returned (.tuple #[vn, .int .i64 r.2.2]) ∧ w'.ownsRow w.heap.size 74 3 vn r.2.1.length (notesCells r.2.1)) ∧ ∃ vs', NodeAt w' b vs' r.1 ∧ VsTo vs vs' w ∧ Touch (NodeS b vs) w w'

def V49 (b : Nat) (vs : Value) (n : Hw.Node) (id : ByteArray) (theta : Int) (w0 : World) (j : Nat) (v : Value) (w : World) : Prop :=
  match j with
  | 0 => v = .pointer (some ⟨b, 0, none⟩)
  | 1 => v = .pointer (some ⟨b, 0, none⟩)
  | 2 => v = .pointer (some ⟨b, 0, none⟩)
  | 3 => v = .pointer (some ⟨b, 9, none⟩)
  | 4 => v = vs
  | 5 => v = .string id
  | 6 => v = .int .i64 theta
  | 7 => v = .agg #[.string id, .int .i64 theta, .bool false]
  | 8 => ∃ x, v = .slice (some ⟨x, 0, none⟩) 1 1 ∧ w.heap[x]? = some (.cells #[.string id, .int .i64 theta, .bool false] 85 (0, 0)) ∧ vs.ownBlock ≠ some x ∧ x ≠ b
  | 9 => w.ownsRow (b + 1) 85 3 v (n.subs.length + 1) (subsCells (n.subs ++ [⟨id, theta, false⟩])) ∧ VsTo vs v w0
  | 10 => v = .pointer (some ⟨b, 0, none⟩)
  | 11 => v = .pointer (some ⟨b, 9, none⟩)
  | _ => True
def V49S : List Nat := [37, 38, 39, 40, 41, 42, 43, 44, 45, 46, 47, 48, 100]
theorem V49S_0 : ∀ j, j < 13 → V49S.getD j 0 ≠ 0 := by decide
theorem V49S_4 : ∀ j, j < 13 → V49S.getD j 0 ≠ 4 := by decide
theorem V49S_5 : ∀ j, j < 13 → V49S.getD j 0 ≠ 5 := by decide
theorem V49S_big : ∀ j, j < 13 → 51 ≤ V49S.getD j 0 → j = 12 := by decide

theorem V49.below {b : Nat} {vs : Value} {n : Hw.Node} {id : ByteArray} {theta : Int} {w0 : World} {j : Nat} {v : Value} {w w' : World} (h : V49 b vs n id theta w0 j v w) (hb : Below w.heap.size w w') : V49 b vs n id theta w0 j v w' := by
  unfold V49 at *
  split at h
  all_goals first
    | exact h
    | (obtain ⟨x, e1, e2, e3⟩ := h; exact ⟨x, e1, (hb.block x (Array.getElem?_eq_some_iff.1 e2).1).trans e2, e3⟩)
    | exact ⟨own_below h.1 hb, h.2⟩

theorem V49.kept {b : Nat} {vs : Value} {n : Hw.Node} {id : ByteArray} {theta : Int} {w0 : World} {j : Nat} {v : Value} {w w' : World} (h : V49 b vs n id theta w0 j v w) (hj : j < 9) (hb : ∀ x, x < w.heap.size → x ≠ b → vs.ownBlock ≠ some x → w'.heap[x]? = w.heap[x]?) : V49 b vs n id theta w0 j v w' := by
  have hjj : j = 0 ∨ j = 1 ∨ j = 2 ∨ j = 3 ∨ j = 4 ∨ j = 5 ∨ j = 6 ∨ j = 7 ∨ j = 8 := by omega
  rcases hjj with rfl | rfl | rfl | rfl | rfl | rfl | rfl | rfl | rfl
  all_goals first
    | exact h
    | (obtain ⟨x, e1, e2, e3, e4⟩ := h; exact ⟨x, e1, (hb x (Array.getElem?_eq_some_iff.1 e2).1 e4 e3).trans e2, e3, e4⟩)

def C49 (b : Nat) (vs : Value) (n : Hw.Node) (id : ByteArray) (theta : Int) (w0 : World) (g h : Nat) (L : Nat → Bool) (w : World) : Prop :=
  (Touch (NodeS b vs) w0 w ∧ w.heap[g]? = some (.cells #[.string id] 9 (0, 0)) ∧ w.heap[h]? = some (.cells #[.int .i64 theta] 3 (0, 0))) ∧
    (L 9 = false → NodeAt w b vs n) ∧ (L 12 = false → NodeB w b vs n) ∧ (L 12 = true → ∃ vs', NodeAt w b vs' { n with subs := n.subs ++ [⟨id, theta, false⟩] } ∧ VsTo vs vs' w0) ∧
    (L 9 = false → L 12 = false) ∧ (L 4 = false → L 12 = false) ∧ (L 8 = false → L 9 = false)

theorem upd_ne {L : Nat → Bool} {i j : Nat} (h : j ≠ i) : upd L i j = L j := by
  unfold upd
  rw [show (j == i) = false by simpa using h]
  rfl
theorem upd_false {L : Nat → Bool} {i j : Nat} (h : upd L i j = false) : L j = false := (Bool.or_eq_false_iff.1 h).2
theorem upd_of {L : Nat → Bool} {i j : Nat} (h : L j = true) : upd L i j = true := by unfold upd; rw [h]; simp

theorem C49.up {b : Nat} {vs : Value} {n : Hw.Node} {id : ByteArray} {theta : Int} {w0 : World} {g h : Nat} {L : Nat → Bool} {w : World} (hC : C49 b vs n id theta w0 g h L w) {i : Nat} (h9 : 9 ≠ i) (h12 : 12 ≠ i) : C49 b vs n id theta w0 g h (upd L i) w := by
  obtain ⟨c1, c2, c3, c4, c5, c6, c7⟩ := hC
  refine ⟨c1, ?_, ?_, ?_, ?_, ?_, ?_⟩
  · rw [upd_ne h9]; exact c2
  · rw [upd_ne h12]; exact c3
  · rw [upd_ne h12]; exact c4
  · rw [upd_ne h9, upd_ne h12]; exact c5
  · rw [upd_ne h12]; exact fun e => c6 (upd_false e)
  · rw [upd_ne h9]; exact fun e => c7 (upd_false e)

theorem C49.below {b : Nat} {vs : Value} {n : Hw.Node} {id : ByteArray} {theta : Int} {w0 : World} {g h : Nat} {L : Nat → Bool} {w w' : World} (hC : C49 b vs n id theta w0 g h L w) (hb : Below w.heap.size w w') : C49 b vs n id theta w0 g h L w' := by
  obtain ⟨⟨c1, c1', c1''⟩, c2, c3, c4, c5⟩ := hC
  refine ⟨⟨c1.trans (Touch.of_below hb), (hb.block g (Array.getElem?_eq_some_iff.1 c1').1).trans c1', (hb.block h (Array.getElem?_eq_some_iff.1 c1'').1).trans c1''⟩, fun e => (c2 e).below hb, fun e => (c3 e).below hb, fun e => ?_, c5⟩
  obtain ⟨v, q1, q2⟩ := c4 e
  exact ⟨v, q1.below hb, q2⟩

/-- Behind the append. -/
theorem C49.grown {b : Nat} {vs : Value} {n : Hw.Node} {id : ByteArray} {theta : Int} {w0 : World} {g h : Nat} {L : Nat → Bool} {w w' : World} (hC : C49 b vs n id theta w0 g h L w) (h9 : L 9 = false) (h8 : L 8 = true) (hg : w.grownBy w' vs.ownBlock) : C49 b vs n id theta w0 g h (upd L 9) w' := by
  obtain ⟨⟨c1, c1', c1''⟩, c2, c3, c4, c5, c6, c7⟩ := hC
  have hn := c2 h9
  have h12 := c5 h9
  have hne : ∀ (q : Nat) (c : Array Value) (u : TypeId), w.heap[q]? = some (.cells c u (0, 0)) → u ≠ 145 → u ≠ 85 → w'.heap[q]? = some (.cells c u (0, 0)) := fun q c u hq h1 h2 => (hg.block q (Array.getElem?_eq_some_iff.1 hq).1 fun e => hn.other hq h1 h2 (.inr e)).trans hq
  have ht : Touch (NodeS b vs) w0 w' := ⟨hg.os.trans c1.os, hg.tape.trans c1.tape, hg.output.trans c1.output, Nat.le_trans c1.size hg.size, fun k hk hs => (hg.block k (Nat.lt_of_lt_of_le hk c1.size) fun e => hs (.inr e)).trans (c1.block k hk hs)⟩
  refine ⟨⟨ht, hne g _ 9 c1' (by decide) (by decide), hne h _ 3 c1'' (by decide) (by decide)⟩, fun e => ?_, fun _ => hn.toBgrown hg, fun e => ?_, fun e => ?_, fun e => ?_, fun e => ?_⟩
  · simp [upd] at e
  · rw [upd_ne (by decide), h12] at e
    cases e
  · simp [upd] at e
  · rw [upd_ne (by decide)]
    exact h12
  · have := upd_false e
    rw [h8] at this
    cases this

/-- Behind the store. -/
theorem C49.stored {b : Nat} {vs v : Value} {n : Hw.Node} {id : ByteArray} {theta : Int} {w0 : World} {g h : Nat} {L : Nat → Bool} {w : World} (hC : C49 b vs n id theta w0 g h L w) (h12 : L 12 = false) (h9 : L 9 = true) (h4 : L 4 = true)
    (ho : w.ownsRow (b + 1) 85 3 v (n.subs.length + 1) (subsCells (n.subs ++ [⟨id, theta, false⟩]))) (hv : VsTo vs v w0) : C49 b vs n id theta w0 g h (upd L 12) (w.setCell ⟨b, 9, none⟩ v) := by
  obtain ⟨⟨c1, c1', c1''⟩, c2, c3, c4, c5, c6, c7⟩ := hC
  have hB := c3 h12
  obtain ⟨vp, q1, q2⟩ := hB
  have ht := set_typed (j := 9) v q1
  refine ⟨⟨c1.setCell (a := ⟨b, 9, none⟩) (.inl rfl) _, (ht g _ 9 (by decide) c1').trans c1', (ht h _ 3 (by decide) c1'').trans c1''⟩, fun e => ?_, fun e => ?_, fun _ => ⟨v, ?_, hv⟩, fun e => ?_, fun e => ?_, fun e => ?_⟩
  · have := upd_false e
    rw [h9] at this
    cases this
  · simp [upd] at e
  · refine NodeB.put ⟨vp, q1, q2⟩ ?_
    rw [List.length_append, List.length_singleton]
    exact ho
  · have := upd_false e
    rw [h9] at this
    cases this
  · have := upd_false e
    rw [h4] at this
    cases this
  · rw [upd_ne (by decide)]
    exact c7 (upd_false e)

end Go.Proofs.Ytmclalhjnjghnaa

namespace Go.Proofs.Ytmclalhjnjghnaa
open Go.RowKit Hw

set_option maxRecDepth 100000 in
set_option maxHeartbeats 2000000 in
theorem njoin_any (b : Nat) (vs : Value) (n : Hw.Node) (id : ByteArray) (theta : Int) (w : World) (h : NodeAt w b vs n) (hlv : NodeLv n) (h8 : n.subs.length ≤ 8) :
    Calls Try.prog 49 #[.pointer (some ⟨b, 0, none⟩), .string id, .int .i64 theta] w (JoinPost b vs w (njoin n id theta)) := by
  obtain ⟨i0, hi0, hz0, hz1, hz2⟩ := info_parts info85
  have HN := Lib.hid h
  have HL := Lib.hid hlv
  obtain ⟨A, c, evs, hsr⟩ := h.sub
  obtain ⟨A1, d1, -, -, -, -, -, -, -, -, -, c9, -, -, hf⟩ := h.cells
  have f9 := hf 9
  rw [evs] at c9
  have Hsr := Lib.hid hsr
  have Hevs := Lib.hid evs
  have hbl := h.lt
  clear h hlv hsr evs hf
  have hb2 := ((Below.refl w.heap.size w).alloc (Nat.le_refl _) (.cells #[.string id] 9)).alloc (by simp) (.cells #[.int .i64 theta] 3)
  have g0 := heap_alloc2_old w (.cells #[.string id] 9) (.cells #[.int .i64 theta] 3)
  have g1 := heap_alloc2_new w (.cells #[.string id] 9) (.cells #[.int .i64 theta] 3)
  have HB2 := Lib.hid hb2
  have G0 := Lib.hid g0
  have G1 := Lib.hid g1
  clear hb2 g0 g1
  by_cases ht : theta < 1 ∨ 60 < theta
  · have hr : njoin n id theta = (n, [], 1) := by unfold njoin; rw [if_pos ht]
    have Hr := Lib.hid hr
    clear hr
    rcases ht with ht | ht
    all_goals
      go_enter Try.func49, Try.ntmps49
      go_wp2_with fail
      go_ret2
      unfold JoinPost
      rw [Hr.out]
      exact ⟨⟨_, rfl, World.ownsRow_nil _ _ _ _⟩, vs, HN.out.below HB2.out, VsTo.refl _ _, Touch.of_below HB2.out⟩
  · have ht1 : ¬ theta < 1 := fun e => ht (.inl e)
    have ht2 : ¬ 60 < theta := fun e => ht (.inr e)
    obtain ⟨lv, hlv⟩ : ∃ lv, level n id = lv := ⟨_, rfl⟩
    obtain ⟨k, e⟩ := lv
    have Hlv := Lib.hid hlv
    by_cases he : e ≠ 0
    · have hr : njoin n id theta = (n, [], e) := by unfold njoin; rw [if_neg ht, hlv, if_pos he]
      have Hr := Lib.hid hr
      have heb : (e != 0) = true := by simpa using he
      clear hr hlv he ht
      go_enter Try.func49, Try.ntmps49
      go_wp2_with (first | (go_at_call 44; refine (nlevel_any b vs n id _ (HN.out.below HB2.out) HL.out).mono ?_; rintro e1 w1 ⟨rfl, hb1⟩; rw [Hlv.out]; have Hb1 := Lib.hid (HB2.out.trans (hb1.mono HB2.out.size)); clear hb1) | fail)
      go_ret2
      unfold JoinPost
      rw [Hr.out]
      exact ⟨⟨_, rfl, World.ownsRow_nil _ _ _ _⟩, vs, HN.out.below Hb1.out, VsTo.refl _ _, Touch.of_below Hb1.out⟩
    · have he0 : e = 0 := by simpa using he
      subst he0
      obtain ⟨z, hz⟩ : ∃ z, at? (subIs id theta) n.subs = z := ⟨_, rfl⟩
      have Hz := Lib.hid hz
      by_cases hc : 0 ≤ z
      · have hr : njoin n id theta = (n, [], 5) := by unfold njoin; rw [if_neg ht, hlv, if_neg (by simp), hz, if_pos hc]
        have Hr := Lib.hid hr
        clear hr hlv hz ht he
        go_enter Try.func49, Try.ntmps49
        go_wp2_with (first
          | (go_at_call 44; refine (nlevel_any b vs n id _ (HN.out.below HB2.out) HL.out).mono ?_; rintro e1 w1 ⟨rfl, hb1⟩; rw [Hlv.out]; have Hb1 := Lib.hid (HB2.out.trans (hb1.mono HB2.out.size)); have c9 := bsome Hb1.out c9; have p0 := bsome hb1 (cell_of_row _ _ 0 _ 9 (0, 0) G0.out); have p1 := bsome hb1 (cell_of_row _ _ 0 _ 3 (0, 0) G1.out); clear hb1)
          | (go_at_call 59; refine (contains106_any A c n.subs id theta _ _ _ (Hsr.out.below Hb1.out) h8 p0 p1).mono ?_; rintro e2 w2 ⟨rfl, hb2⟩; rw [Hz.out]; have Hb2 := Lib.hid (Hb1.out.trans (hb2.mono Hb1.out.size)); clear hb2)
          | fail)
        go_ret2
        unfold JoinPost
        rw [Hr.out]
        exact ⟨⟨_, rfl, World.ownsRow_nil _ _ _ _⟩, vs, HN.out.below Hb2.out, VsTo.refl _ _, Touch.of_below Hb2.out⟩
      · by_cases hfull : n.subs.length = 8
        · have hr : njoin n id theta = (n, [], 10) := by unfold njoin; rw [if_neg ht, hlv, if_neg (by simp), hz, if_neg hc, if_pos hfull]
          have Hr := Lib.hid hr
          have hfi : ((n.subs.length : Int) == 8) = true := by simp; omega
          clear hr hlv hz ht he hfull
          go_enter Try.func49, Try.ntmps49
          go_wp2_with (first
            | (go_at_call 44; refine (nlevel_any b vs n id _ (HN.out.below HB2.out) HL.out).mono ?_; rintro e1 w1 ⟨rfl, hb1⟩; rw [Hlv.out]; have Hb1 := Lib.hid (HB2.out.trans (hb1.mono HB2.out.size)); have c9 := bsome Hb1.out c9; have p0 := bsome hb1 (cell_of_row _ _ 0 _ 9 (0, 0) G0.out); have p1 := bsome hb1 (cell_of_row _ _ 0 _ 3 (0, 0) G1.out); clear hb1)
            | (go_at_call 59; refine (contains106_any A c n.subs id theta _ _ _ (Hsr.out.below Hb1.out) h8 p0 p1).mono ?_; rintro e2 w2 ⟨rfl, hb2⟩; rw [Hz.out]; have c9 := bsome hb2 c9; have Hb2 := Lib.hid (Hb1.out.trans (hb2.mono Hb1.out.size)); clear hb2)
            | fail)
          go_ret2
          unfold JoinPost
          rw [Hr.out]
          exact ⟨⟨_, rfl, World.ownsRow_nil _ _ _ _⟩, vs, HN.out.below Hb2.out, VsTo.refl _ _, Touch.of_below Hb2.out⟩
        · have hr : njoin n id theta = ((told { n with subs := n.subs ++ [⟨id, theta, false⟩] }).1, (told { n with subs := n.subs ++ [⟨id, theta, false⟩] }).2, 0) := by unfold njoin; rw [if_neg ht, hlv, if_neg (by simp), hz, if_neg hc, if_neg hfull]
          have Hr := Lib.hid hr
          have hfi : ¬ (n.subs.length : Int) = 8 := by omega
          clear hr hlv hz ht he
          go_enter Try.func49, Try.ntmps49
          go_wp2_with (first
            | (go_at_call 44; refine (nlevel_any b vs n id _ (HN.out.below HB2.out) HL.out).mono ?_; rintro e1 w1 ⟨rfl, hb1⟩; rw [Hlv.out]; have Hb1 := Lib.hid (HB2.out.trans (hb1.mono HB2.out.size)); have c9 := bsome Hb1.out c9; have p0 := bsome hb1 (cell_of_row _ _ 0 _ 9 (0, 0) G0.out); have p1 := bsome hb1 (cell_of_row _ _ 0 _ 3 (0, 0) G1.out); have G0 := Lib.hid ((hb1.block _ (Array.getElem?_eq_some_iff.1 G0.out).1).trans G0.out); have G1 := Lib.hid ((hb1.block _ (Array.getElem?_eq_some_iff.1 G1.out).1).trans G1.out); clear hb1)
            | (go_at_call 59; refine (contains106_any A c n.subs id theta _ _ _ (Hsr.out.below Hb1.out) h8 p0 p1).mono ?_; rintro e2 w2 ⟨rfl, hb2⟩; rw [Hz.out]; have c9 := bsome hb2 c9; have G0 := Lib.hid ((hb2.block _ (Array.getElem?_eq_some_iff.1 G0.out).1).trans G0.out); have G1 := Lib.hid ((hb2.block _ (Array.getElem?_eq_some_iff.1 G1.out).1).trans G1.out); have Hb2 := Lib.hid (Hb1.out.trans (hb2.mono Hb1.out.size)); clear hb2)
            | fail)
          clear c9 p0 p1 f9
          refine wp_region_inv (V49 b vs n id theta w) (C49 b vs n id theta w w.heap.size (w.heap.size + 1)) V49S (by kernel_rfl) (by rfl) (by kernel_rfl)
            (fun i hi hn v w => by rw [V49S_big i hi hn]; trivial) ?hc ?hs ?hd
          case hc => exact ⟨⟨Touch.of_below (below_drewN Hb2.out 1), G0.out, G1.out⟩, fun _ => HN.out.below (below_drewN Hb2.out 1), fun _ => (HN.out.below (below_drewN Hb2.out 1)).toB, fun e => (by cases (show false = true from e)), fun _ => rfl, fun _ => rfl, fun _ => rfl⟩
          case hs =>
            iterate 8 (refine AllOps.cons ?_ ?_; focus (
              intro L a wx hLi hC hk hv K hK
              have h0 := hk 0 (fun j hj _ => V49S_0 j hj)
              have h4 := hk 4 (fun j hj _ => V49S_4 j hj)
              have h5 := hk 5 (fun j hj _ => V49S_5 j hj)
              have p0 := cell_of_row wx w.heap.size 0 _ 9 (0, 0) hC.1.2.1
              have p1 := cell_of_row wx (w.heap.size + 1) 0 _ 3 (0, 0) hC.1.2.2
              simp at p0 p1
              have HC := Lib.hid hC
              have HLi := Lib.hid hLi
              clear hk hC
              simp [Region.binds, V49, V49S] at hv h0 h4 h5
              first
                | (go_simp; exact hK _ _ (HC.out.up (by decide) (by decide)) (fun _ _ _ _ h => h) rfl)
                | (have p9 := (HC.out.2.2.1 (HC.out.2.2.2.2.2.1 HLi.out)).cell.1; go_simp; exact hK _ _ (HC.out.up (by decide) (by decide)) (fun _ _ _ _ h => h) rfl)))
            refine AllOps.cons ?_ ?_
            focus
              intro L a wx hLi hC hk hv K hK
              have hn := hC.2.1 (hC.2.2.2.2.2.2 hLi)
              have hbx : Below wx.heap.size wx (wx.alloc (.cells #[.string id, .int .i64 theta, .bool false] 85)) := (Below.refl _ _).alloc (Nat.le_refl _) _
              have HC := Lib.hid hC
              have Hn := Lib.hid hn
              have HB := Lib.hid hbx
              clear hk hC hn hbx
              simp [Region.binds, V49, V49S] at hv
              go_simp
              refine hK _ _ ((HC.out.below HB.out).up (by decide) (by decide)) (fun _ _ _ _ h => h.below HB.out) ⟨_, rfl, heap_alloc_new _ _, fun e => ?_, fun e => ?_⟩
              · obtain ⟨vp, -, -, e3⟩ := Hn.out
                have := (e3.lt _ e).2
                omega
              · have := Hn.out.lt
                omega
            refine AllOps.cons ?_ ?_
            focus
              intro L a wx hLi hC hk hv K hK
              have hn := hC.2.1 hLi
              have HC := Lib.hid hC
              obtain ⟨vp, -, -, ho⟩ := hn
              have HO := Lib.hid ho
              clear hk hC ho
              simp [Region.binds, V49, V49S] at hv
              obtain ⟨⟨hL4, hv4⟩, hL8, x, hx1, hx2, hx3, hx4⟩ := hv
              have HK := Lib.hid hK
              clear hK
              refine oper_append_own (.tmp 41) (.tmp 45) 82 (by rfl) (b + 1) 85 i0 _ 3 32 Try.underlying82 hi0 hz0 hz1 hz2 rfl (by omega) vs n.subs.length _ (by simpa [Act.eval] using hv4) (by exact HO.out) ⟨x, 0, none⟩ 1 1 [.string id, .int .i64 theta, .bool false] (by simpa [Act.eval] using hx1) rfl ?b1 ?b2 ?b3 ?b4 ?b5 ?_
              case b1 =>
                intro j u hu
                rw [add_lit, Nat.zero_add, cell_of_row _ _ _ _ _ _ hx2]
                simpa using hu
              case b2 => simp [Value.oneCell']
              case b3 => simp only [maxLen]; omega
              case b4 => omega
              case b5 => have := HC.out.1.1.size; omega
              intro v9 w9 ho9 hg9 _ hb9
              refine HK.out v9 w9 (HC.out.grown hLi hL8 hg9) (fun j u hjl hj hu => ?_) ⟨by rw [subsCells_snoc]; exact ho9, fun q hq => ?_⟩
              · have hjl : j < 13 := hjl
                by_cases h9 : j < 9
                · exact hu.kept h9 fun y hy _ hyv => hg9.block y hy (Ne.symm hyv)
                · by_cases e9 : j = 9
                  · rw [e9, hLi] at hj
                    cases hj
                  · have hjj : j = 10 ∨ j = 11 ∨ j = 12 := by omega
                    rcases hjj with rfl | rfl | rfl <;> exact hu
              · rcases hb9 with e | e
                · exact .inl (by rw [← e]; exact hq)
                · rw [e] at hq
                  injection hq with hq
                  subst hq
                  exact .inr HC.out.1.1.size
            iterate 2 (refine AllOps.cons ?_ ?_; focus (
              intro L a wx hLi hC hk hv K hK
              have h0 := hk 0 (fun j hj _ => V49S_0 j hj)
              have HC := Lib.hid hC
              clear hk hC
              simp [Region.binds, V49, V49S] at hv h0
              go_simp
              exact hK _ _ (HC.out.up (by decide) (by decide)) (fun _ _ _ _ h => h) rfl))
            refine AllOps.cons ?_ ?_
            focus
              intro L a wx hLi hC hk hv K hK
              have hB := hC.2.2.1 hLi
              have HC := Lib.hid hC
              obtain ⟨q9, qf⟩ := hB.cell
              have HB := Lib.hid hB
              clear hk hC hB
              simp [Region.binds, V49, V49S] at hv
              obtain ⟨⟨-, h48⟩, ⟨l9, ho, hvt⟩, -, -, -, -, ⟨l4, -⟩, -⟩ := hv
              obtain ⟨Ax, cx, ex, -⟩ := own_form ho
              rw [ex] at ho hvt
              have HO := Lib.hid ho
              have HV := Lib.hid hvt
              have HK := Lib.hid hK
              clear ho hvt hK
              go_simp
              refine HK.out undef _ (HC.out.stored hLi l9 l4 HO.out HV.out) (fun j u hjl hj hu => ?_) trivial
              have hjl : j < 13 := hjl
              by_cases h9 : j < 9
              · exact hu.kept h9 fun y _ hyb _ => heap_setCell_other _ _ _ _ (fun e => hyb e)
              · by_cases e9 : j = 9
                · subst e9
                  exact ⟨ownsRow_setCell_below (a := ⟨b, 9, none⟩) hu.1 (Nat.lt_succ_self b) _, hu.2⟩
                · have hjj : j = 10 ∨ j = 11 ∨ j = 12 := by omega
                  rcases hjj with rfl | rfl | rfl <;> exact hu
            exact AllOps.nil
          case hd =>
            intro us L w2 hL hC hv
            have hcc := hC.2.2.2.1 (hL 12 (by decide))
            have HT := Lib.hid hC.1.1
            obtain ⟨vs', hn', hv'⟩ := hcc
            have Hn' := Lib.hid hn'
            have Hv' := Lib.hid hv'
            have e0 : us 0 = .pointer (some ⟨b, 0, none⟩) := hv 0 (by decide)
            simp only [setAll, V49S, List.setIfInBounds_toArray, List.set_cons_zero, List.set_cons_succ]
            clear hv hC hL hn' hv'
            go_wp2_with (first | (go_at_call 95; refine (told_any b vs' { n with subs := n.subs ++ [⟨id, theta, false⟩] } _ Hn'.out HL.out (by simp; omega)).mono ?_; rintro e3 w3 ⟨⟨vn, rfl, ho3⟩, hn3, ht3⟩; have Ho3 := Lib.hid (own_base ho3 HT.out.size); have Hn3 := Lib.hid hn3; have Ht3 := Lib.hid (HT.out.vs Hv'.out ht3); obtain ⟨A3, d3, rfl, -⟩ := own_form ho3; clear ho3 hn3 ht3) | fail)
            go_ret2
            unfold JoinPost
            rw [Hr.out]
            exact ⟨⟨_, rfl, Ho3.out⟩, vs', Hn3.out, Hv'.out, Ht3.out⟩

end Go.Proofs.Ytmclalhjnjghnaa

namespace Go.Proofs.Ytmclalhjnjghnaa
open Go.RowKit Hw

theorem subsCells_one (l : List Sub) : ∀ u ∈ subsCells l, u.oneCell' = true := by
  intro u hu
  obtain ⟨s, -, hs⟩ := List.mem_flatMap.1 hu
  simp only [subCells, List.mem_cons, List.not_mem_nil, or_false] at hs
  rcases hs with rfl | rfl | rfl <;> rfl

theorem subsCells_app (l t : List Sub) : subsCells (l ++ t) = subsCells l ++ subsCells t := by simp [subsCells]

theorem subsCells_split (l : List Sub) (i : Nat) : subsCells l = subsCells (l.take i) ++ subsCells (l.drop i) := by
  rw [← subsCells_app, List.take_append_drop]

theorem subsCells_take (l : List Sub) (i : Nat) (hi : i ≤ l.length) : subsCells (l.take i) = (subsCells l).take (i * 3) := by
  rw [subsCells_split l i, List.take_append_of_le_length (by rw [subsCells_len, List.length_take]; omega), List.take_of_length_le (l := subsCells (l.take i)) (by rw [subsCells_len, List.length_take]; omega)]

theorem subsCells_drop (l : List Sub) (i : Nat) (hi : i ≤ l.length) : subsCells (l.drop i) = (subsCells l).drop (i * 3) := by
  rw [subsCells_split l i, List.drop_append_of_le_length (by rw [subsCells_len, List.length_take]; omega), List.drop_of_length_le (l := subsCells (l.take i)) (by rw [subsCells_len, List.length_take]; omega), List.nil_append]

theorem delSub_any (A : Option Addr) (c : Nat) (l : List Sub) (i B : Nat) (w : World) (h : w.ownsRow B 85 3 (.slice A l.length c) l.length (subsCells l)) (hi : i < l.length) :
    Calls Try.prog 109 #[.slice A l.length c, .int .i64 i, .int .i64 (i + 1)] w
      fun e w' => (∃ v, e = .returned v ∧ w'.ownsRow B 85 3 v (l.eraseIdx i).length (subsCells (l.eraseIdx i)) ∧ v.ownBlock = A.map (·.block)) ∧ w.grownBy w' (A.map (·.block)) := by
  have h0 := h
  rcases h.2 with ⟨_, e2⟩ | ⟨g, cap, cur, e, hBg, hg, hnc, hcm, hcs, htake⟩
  · omega
  · injection e with e1 _ e3
    subst e1 e3
    have hxs : (cur.toList.drop ((i + 1) * 3)).take ((l.length - (i + 1)) * 3) = (subsCells l).drop ((i + 1) * 3) := by
      rw [← htake, List.drop_take]
      congr 1
      omega
    have hx1 : ∀ u ∈ (cur.toList.drop ((i + 1) * 3)).take ((l.length - (i + 1)) * 3), u.oneCell' = true := by
      rw [hxs]
      intro u hu
      exact subsCells_one l u (List.mem_of_mem_drop hu)
    have ht1 : cur.toList.take (i * 3) = (subsCells l).take (i * 3) := by
      rw [← htake, List.take_take]
      congr 1
      omega
    have hlen : (l.eraseIdx i).length = l.length - 1 := by rw [List.length_eraseIdx, if_pos hi]
    refine (delSub_cells g c l.length i cur w hg hcs hnc hcm hi hx1).mono ?_
    rintro e w' ⟨⟨cur', rfl, q1, q2, q3⟩, q4⟩
    refine ⟨⟨_, rfl, ⟨?_, .inr ⟨g, c, cur', by rw [hlen], hBg, q1, by omega, hcm, q2, ?_⟩⟩, rfl⟩, q4⟩
    · rw [subsCells_len]
    · rw [hlen, q3, ht1, hxs, eraseIdx_td, subsCells_app, subsCells_take _ _ (by omega), subsCells_drop _ _ (by omega)]

set_option maxRecDepth 100000 in
theorem clonesubs_any (A : Option Addr) (c B : Nat) (l : List Sub) (w : World) (h : w.ownsRow B 85 3 (.slice A l.length c) l.length (subsCells l)) (hl : l.length ≤ 8) :
    Calls Try.prog 103 #[.slice A l.length c] w fun e w' => (∃ v, e = .returned v ∧ w'.ownsRow w.heap.size 85 3 v l.length (subsCells l)) ∧ Below w.heap.size w w' := by
  obtain ⟨i0, hi0, hz0, hz1, hz2⟩ := info_parts info85
  have hnil := fun (W : World) (a : Option Addr) (n c : Nat) => Lib.run_eql_slice_nil (P := Try.prog) W 82 85 a n c 0 0 Try.underlying82
  rcases A with _ | ad
  · have hl0 : l = [] := by
      rcases h.2 with ⟨_, e2⟩ | ⟨g, cap, cur, e, _⟩
      · exact List.length_eq_zero_iff.1 e2
      · cases e
    subst hl0
    go_enter Try.func103, Try.ntmps103
    go_wp2_with fail
    go_ret
    exact ⟨⟨_, rfl, World.ownsRow_nil _ _ _ _⟩, Below.refl _ _⟩
  · have hn : ∀ j u, (subsCells l)[j]? = some u → w.cell? (ad.add j) = some u := by
      rcases h.2 with ⟨e1, e2⟩ | ⟨g, cap, cur, e, _⟩
      · cases e1
      · injection e with e1 _ _
        injection e1 with e1
        subst e1
        exact fun j u hu => h.cells (g := g) rfl j u hu
    have Hn := Lib.hid hn
    clear h hn
    go_enter Try.func103, Try.ntmps103
    go_wp2_with ((at_builtin; refine wpList_append_own _ rfl (.tmp 5) (.tmp 6) 82 rfl w.heap.size 85 i0 _ 3 32 Try.underlying82 hi0 hz0 hz1 hz2 rfl (by omega) (.slice (some ⟨w.heap.size, 0, none⟩) 0 0) 0 [] rfl (World.ownsRow_made w #[] 0 (Nat.le_refl _) (by simp) rfl) ad l.length c (subsCells l) rfl (subsCells_len l) (news_below ((Below.refl _ _).alloc (Nat.le_refl _) _) Hn.out) (subsCells_one l) (by simp only [maxLen]; omega) (by omega) (by simp) ?_; intro v' w1 hown hgrow _))
    go_ret
    exact ⟨⟨_, rfl, by simpa using hown⟩, ((Below.refl _ _).alloc (Nat.le_refl _) _).grown hgrow (by simp) (by simp [Value.ownBlock])⟩

set_option maxRecDepth 100000 in
theorem nsubs_any (b : Nat) (vs : Value) (n : Hw.Node) (w : World) (h : NodeAt w b vs n) (h8 : n.subs.length ≤ 8) : Calls Try.prog 45 #[.pointer (some ⟨b, 0, none⟩)] w fun e w' => (∃ v, e = .returned v ∧ w'.ownsRow w.heap.size 85 3 v n.subs.length (subsCells n.subs)) ∧ Below w.heap.size w w' := by
  obtain ⟨A1, d1, -, -, -, -, -, -, -, -, -, c9, -, -, -⟩ := h.cells
  obtain ⟨vp, -, -, e3⟩ := h
  obtain ⟨A, c, rfl, -⟩ := own_form e3
  have H3 := Lib.hid e3
  clear e3
  go_enter Try.func45, Try.ntmps45
  go_wp2_with (go_at_call 103; refine (clonesubs_any A c _ n.subs _ H3.out h8).mono ?_; rintro e w1 ⟨⟨v, rfl, ho⟩, hb1⟩; have HO := Lib.hid ho; have HB := Lib.hid hb1; clear ho hb1)
  go_ret
  exact ⟨⟨_, rfl, HO.out⟩, HB.out⟩

set_option maxRecDepth 100000 in
theorem npeers_any (b : Nat) (vs : Value) (n : Hw.Node) (w : World) (h : NodeAt w b vs n) (hl : n.peers.length ≤ 6) (hv : ∀ (k : Nat) (p : Peer), n.peers[k]? = some p → p.vals.length ≤ 64) :
    Calls Try.prog 46 #[.pointer (some ⟨b, 0, none⟩)] w fun e w' => (∃ v, e = .returned v ∧ OwnP w' w.heap.size v n.peers) ∧ Below w.heap.size w w' := by
  obtain ⟨A, c, -, -, -, -, -, -, -, -, c8, -, hp, -, -⟩ := h.cells
  have Hp := Lib.hid hp
  have Hv := Lib.hid hv
  clear h hp hv
  go_enter Try.func46, Try.ntmps46
  go_wp2_with (go_at_call 87; refine (copied_any A c n.peers _ Hp.out hl Hv.out).mono ?_; rintro e w1 ⟨⟨v, rfl, ho⟩, hb1⟩; have HO := Lib.hid ho; have HB := Lib.hid hb1; clear ho hb1)
  go_ret
  exact ⟨⟨_, rfl, HO.out⟩, HB.out⟩

/-- '(*Node).Part'. -/
def npart (n : Hw.Node) (id : ByteArray) (theta : Int) : Hw.Node × Int :=
  if at? (subIs id theta) n.subs < 0 then (n, 4) else ({ n with subs := n.subs.eraseIdx (at? (subIs id theta) n.subs).toNat }, 0)

set_option maxRecDepth 100000 in
set_option maxHeartbeats 1000000 in
theorem npart_any (b : Nat) (vs : Value) (n : Hw.Node) (id : ByteArray) (theta : Int) (w : World) (h : NodeAt w b vs n) (h8 : n.subs.length ≤ 8) :
    Calls Try.prog 51 #[.pointer (some ⟨b, 0, none⟩), .string id, .int .i64 theta] w fun e w' => e = .returned (.int .i64 (npart n id theta).2) ∧ ∃ vs', NodeAt w' b vs' (npart n id theta).1 ∧ VsTo vs vs' w ∧ Touch (NodeS b vs) w w' := by
  have HN := Lib.hid h
  obtain ⟨A, c, evs, hsr⟩ := h.sub
  obtain ⟨A1, d1, -, -, -, -, -, -, -, -, -, c9, -, -, hf⟩ := h.cells
  rw [evs] at c9
  have Hsr := Lib.hid hsr
  have Hevs := Lib.hid evs
  have HF := Lib.hid hf
  have hbl := h.lt
  have hvsb : vs.ownBlock = A.map (·.block) := by
    rw [evs]
    cases A <;> rfl
  have Hvsb := Lib.hid hvsb
  clear h hsr evs hf hvsb
  have hb2 := ((Below.refl w.heap.size w).alloc (Nat.le_refl _) (.cells #[.string id] 9)).alloc (by simp) (.cells #[.int .i64 theta] 3)
  have g0 := heap_alloc2_old w (.cells #[.string id] 9) (.cells #[.int .i64 theta] 3)
  have g1 := heap_alloc2_new w (.cells #[.string id] 9) (.cells #[.int .i64 theta] 3)
  have HB2 := Lib.hid hb2
  have HP0 := Lib.hid (cell_of_row _ _ 0 _ 9 (0, 0) g0)
  have HP1 := Lib.hid (cell_of_row _ _ 0 _ 3 (0, 0) g1)
  clear hb2 g0 g1
  rcases at_cases (subIs id theta) n.subs with ⟨ha, -⟩ | ⟨k, hk, ha, -, -⟩
  · have hr : npart n id theta = (n, 4) := by unfold npart; rw [ha, if_pos (by decide)]
    have Hr := Lib.hid hr
    have Ha := Lib.hid ha
    clear hr ha
    go_enter Try.func51, Try.ntmps51
    go_wp2_with (go_at_call 107; refine (index108_any A c n.subs id theta _ _ _ (Hsr.out.below HB2.out) h8 HP0.out HP1.out).mono ?_; rintro e w1 ⟨rfl, hb1⟩; rw [Ha.out]; have Hb1 := Lib.hid (HB2.out.trans (hb1.mono HB2.out.size)); clear hb1)
    go_ret
    rw [Hr.out]
    exact ⟨rfl, vs, HN.out.below Hb1.out, VsTo.refl _ _, Touch.of_below Hb1.out⟩
  · have hr : npart n id theta = ({ n with subs := n.subs.eraseIdx k }, 0) := by unfold npart; rw [ha, if_neg (by omega)]; rfl
    have Hr := Lib.hid hr
    have Ha := Lib.hid ha
    have hk0 : ¬ (k : Int) < 0 := by omega
    have hkw : IntKind.i64.wrap ((k : Int) + 1) = (k : Int) + 1 := IntWalk.i64_in _ (by omega)
    clear hr ha
    go_enter Try.func51, Try.ntmps51
    go_wp2_with (first
      | (go_at_call 107; refine (index108_any A c n.subs id theta _ _ _ (Hsr.out.below HB2.out) h8 HP0.out HP1.out).mono ?_; rintro e w1 ⟨rfl, hb1⟩; rw [Ha.out]; have Hb1 := Lib.hid (HB2.out.trans (hb1.mono HB2.out.size)); have c9 := bsome Hb1.out c9; clear hb1)
      | (go_at_call 109; refine (delSub_any A c n.subs k (b + 1) _ (by have := HN.out.below Hb1.out; rw [Hevs.out] at this; obtain ⟨_, _, _, e3⟩ := this; exact e3) hk).mono ?_; rintro e w2 ⟨⟨v2, rfl, ho2, hv2⟩, hg2⟩; obtain ⟨A2, c2, rfl, -⟩ := own_form ho2; rw [← Hvsb.out] at hg2; have hB := (HN.out.below Hb1.out).toBgrown hg2; have f9 := hB.cell.2; have q9 := hB.cell.1; have hbl2 := blt hB.cell.1; have HBB := Lib.hid hB; have HO2 := Lib.hid ho2; have HV2 := Lib.hid hv2; have HG2 := Lib.hid hg2; clear hB ho2 hv2 hg2)
      | fail)
    go_ret
    rw [Hr.out]
    have hts : Touch (NodeS b vs) w w2 := by
      have h1 : Touch (NodeS b vs) w w1 := Touch.of_below Hb1.out
      have hg := HG2.out
      exact ⟨hg.os.trans h1.os, hg.tape.trans h1.tape, hg.output.trans h1.output, Nat.le_trans h1.size hg.size, fun q hq hn => (hg.block q (Nat.lt_of_lt_of_le hq h1.size) fun e => hn (.inr e)).trans (h1.block q hq hn)⟩
    refine ⟨rfl, _, HBB.out.put HO2.out, fun q hq => .inl ?_, hts.setCell (a := ⟨b, 9, none⟩) (.inl rfl) _⟩
    rw [hq, HV2.out, Hvsb.out]

end Go.Proofs.Ytmclalhjnjghnaa
