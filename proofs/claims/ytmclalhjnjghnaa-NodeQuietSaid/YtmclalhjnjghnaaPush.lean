/- The contract of win.Push. -/
import Derived.Test.YtmclalhjnjghnaaDrop
namespace Go.Proofs.Ytmclalhjnjghnaa
open Go.RowKit Hw

theorem clone_len (A : Option Addr) (c n : Nat) (l : List Int) (w : World) (hn : n = l.length) (h : Ints w A l) (hl : l.length ≤ 17592186044416) :
    Calls Try.prog 78 #[.slice A n c] w fun e w' => (∃ v, e = .returned v ∧ w'.ownsRow w.heap.size 3 1 v l.length (ints l)) ∧ Below w.heap.size w w' := by
  subst hn
  exact clone_any A c l w h hl

theorem ite_step {c : Bool} {A E : Prop} (h : c = true) (hA : A) : if c = true then A else E := by rw [if_pos h]; exact hA

/-- An append to a row of the call's own, at a step of a region that draws. -/
theorem step_append_own {P : Program} {w : World} {ops : Array Oper} {o : Oper} {a : Act} {K : Act → World → Prop} {Q : Exit → Act → World → Prop} {E : Prop} (hgd : o.guard = none) (s x : Operand) (t : TypeId)
    (ho : o.op = .call { callee := .builtin .append, args := #[s, x], argTypes := #[t, t] })
    (base : Nat) (e : TypeId) (i : TypeInfo) (z : Value) (size bytes : Nat) (ht : P.underlying t = some (.slice e)) (hi : P.info? e = some i) (hz : i.zero = some z)
    (hsize : i.size = size) (hby : i.bytes = bytes) (hzs : z.cells.size = size) (hsz : 0 < size)
    (v : Value) (n : Nat) (xs : List Value) (hs : a.eval s = v) (hown : w.ownsRow base e size v n xs)
    (ad : Addr) (m c : Nat) (news : List Value) (hx : a.eval x = .slice (some ad) m c) (hl : news.length = m * size) (hnews : ∀ j u, news[j]? = some u → w.cell? (ad.add j) = some u) (h1 : ∀ u ∈ news, u.oneCell' = true)
    (h63 : n + m ≤ maxLen) (hbytes : (n + m) * bytes ≤ 140737488355328) (hbase : base ≤ w.heap.size)
    (h : ∀ v' w', w'.ownsRow base e size v' (n + m) (xs ++ news) → w.grownBy w' v.ownBlock → (v' = .slice none 0 0 ↔ v = .slice none 0 0 ∧ m = 0) → K (a.put o.dst v') w') :
    if Region.wanted o (yielded ops a.tmps) = true then Oper.wp P o a w K Q else E := by
  have hw : Region.wanted o (yielded ops a.tmps) = true := by simp [Region.wanted, hgd]
  rw [if_pos hw]
  exact wp_append_own w s x t ho base e i z size bytes ht hi hz hsize hby hzs hsz v n xs hs hown ad m c news hx hl hnews h1 h63 hbytes hbase h

theorem keep_grown {W w4 : World} {B : Nat} {e : TypeId} {s : Nat} {v : Value} {n : Nat} {xs : List Value} (ho : W.ownsRow B e s v n xs) (hg : W.grownBy w4 v.ownBlock) {b : Nat} (hb : b < B) (hbW : b < W.heap.size) :
    (∀ i, w4.cell? ⟨b, i, none⟩ = W.cell? ⟨b, i, none⟩) ∧ (∀ i, w4.frozen? ⟨b, i, none⟩ = W.frozen? ⟨b, i, none⟩) := by
  have hne : some b ≠ v.ownBlock := fun he => by have := (ho.lt b he.symm).1; omega
  have hbl := hg.block b hbW hne
  exact ⟨fun i => World.cell?_of_block (a := ⟨b, i, none⟩) hbl, fun i => World.frozen?_of_block (a := ⟨b, i, none⟩) hbl⟩

/-- What win.Push answers. -/
def push (cap : Int) (vals : List Int) (n : Int) : (Int × List Int) × Int :=
  if winCheck cap vals ≠ 0 then ((0, []), winCheck cap vals) else if valOk n = false then ((0, []), 1) else ((cap, pushed cap vals n), 0)

def PushPost (w0 : World) (r : (Int × List Int) × Int) (e : Ending) (w' : World) : Prop :=
  (∃ v, e = .returned (.tuple #[.agg #[.int .i64 r.1.1, v], .int .i64 r.2]) ∧ w'.ownsRow w0.heap.size 3 1 v r.1.2.length (ints r.1.2)) ∧ Below w0.heap.size w0 w'

theorem ints_tail {w : World} {A : Option Addr} {l : List Int} (h : Ints w A l) : Ints w (A.map fun x => ⟨x.block, x.off + 1, none⟩) l.tail := fun h0 => by
  obtain ⟨b, off, e, hc⟩ := h (by simp at h0; omega)
  subst e
  refine ⟨b, off + 1, rfl, fun j hj => ?_⟩
  have := hc (j + 1) (by simp at hj; omega)
  rw [show off + 1 + j = off + (j + 1) by omega, this]
  congr 2
  cases l <;> simp

theorem ints_tail1 {w : World} {A : Option Addr} {c : Nat} {l : List Int} (hc : l.length ≤ c) (h1 : c = 1) (_ : Ints w A l) : Ints w A l.tail := fun h0 => by simp at h0; omega

theorem pushed_short {cap n : Int} {l : List Int} (h : ¬ (l.length : Int) = cap) : pushed cap l n = l ++ [n] := by unfold pushed; rw [if_neg h]
theorem pushed_full {cap n : Int} {l : List Int} (h : (l.length : Int) = cap) : pushed cap l n = l.tail ++ [n] := by unfold pushed; rw [if_pos h]

theorem push_end {cap : Int} {w w1 w4 : World} {v x y : Value} {m : Nat} {l : List Int} {n : Int} (hb : Below w.heap.size w w1) (h4 : Below w1.heap.size w1 w4)
    (ho : w4.ownsRow w1.heap.size 3 1 v m (ints l ++ [.int .i64 n])) (hn : m = l.length + 1) (hz : w.heap.size + 1 < w1.heap.size) :
    PushPost w ((cap, l ++ [n]), 0) (.returned (.tuple #[.agg #[.int .i64 cap, v], .int .i64 0])) ((w4.setCell ⟨w.heap.size + 1, 0, none⟩ x).setCell ⟨w.heap.size + 1, 1, none⟩ y) := by
  have e : ints l ++ [.int .i64 n] = ints (l ++ [n]) := by simp
  have e2 : m = (l ++ [n]).length := by simp [hn]
  rw [e, e2] at ho
  refine ⟨⟨v, rfl, own_base (ownsRow_setCell_below (ownsRow_setCell_below ho hz x) hz y) (by omega)⟩, ?_⟩
  exact ((hb.trans (h4.mono (by omega))).setCell (by simp) _).setCell (by simp) _

set_option maxHeartbeats 2000000 in
theorem push_any (cap : Int) (A : Option Addr) (c : Nat) (l : List Int) (n : Int) (w : World) (h : Ints w A l) (hc : l.length ≤ c) :
    Calls Try.prog 67 #[.agg #[.int .i64 cap, .slice A l.length c], .int .i64 n] w (PushPost w (push cap l n)) := by
  have Hh := Lib.hid h
  clear h
  cases hw : (winCheck cap l != 0) with
  | true =>
    have hr : push cap l n = ((0, []), winCheck cap l) := by unfold push; rw [if_pos (by simpa using hw)]
    have Hr := Lib.hid hr
    clear hr
    go_enter Try.func67, Try.ntmps67
    go_wp2_with (go_at_call 105; refine (wcheck_any cap A c l _ (Hh.out.below (((Below.refl _ _).alloc (Nat.le_refl _) _).alloc (by simp) _))).mono ?_; rintro e w1 ⟨rfl, hb1⟩; obtain ⟨c0, f0, c1, f1, z1, hb2⟩ := keep2 hb1; clear hb1)
    rw [Hr.out]
    refine bodyPost_ret (v := .tuple #[.agg #[.int .i64 0, .slice none 0 0], .int .i64 (winCheck cap l)]) (by simp [results, Try.results67, go_sem, c1]) rfl ⟨⟨_, rfl, World.ownsRow_nil _ _ _ _⟩, ?_⟩
    repeat (first | exact hb2 | refine Below.setCell ?_ (by simp) _)
  | false =>
    have hw0 : winCheck cap l = 0 := by simpa using hw
    cases hv : valOk n with
    | false =>
      have hr : push cap l n = ((0, []), 1) := by unfold push; rw [if_neg (by simp [hw0]), if_pos hv]
      have Hr := Lib.hid hr
      clear hr hw0
      go_enter Try.func67, Try.ntmps67
      go_wp2_with (first
        | (go_at_call 105; refine (wcheck_any cap A c l _ (Hh.out.below (((Below.refl _ _).alloc (Nat.le_refl _) _).alloc (by simp) _))).mono ?_; rintro e w1 ⟨rfl, hb1⟩; obtain ⟨c0, f0, c1, f1, z1, hb2⟩ := keep2 hb1; clear hb1)
        | (go_at_call 84; refine (val_any _ _).mono ?_; rintro e w2 ⟨rfl, rfl⟩))
      rw [Hr.out]
      refine bodyPost_ret (v := .tuple #[.agg #[.int .i64 0, .slice none 0 0], .int .i64 1]) (by simp [results, Try.results67, go_sem, c1]) rfl ⟨⟨_, rfl, World.ownsRow_nil _ _ _ _⟩, ?_⟩
      repeat (first | exact hb2 | refine Below.setCell ?_ (by simp) _)
    | true =>
      have hr : push cap l n = ((cap, pushed cap l n), 0) := by unfold push; rw [if_neg (by simp [hw0]), if_neg (by simp [hv])]
      have Hr := Lib.hid hr
      have hl64 := win_len hw0
      have hcap : 1 ≤ cap := by
        unfold winCheck at hw0
        split at hw0
        · cases hw0
        · omega
      clear hr hw0
      by_cases hfull : (l.length : Int) = cap
      · have hfb : ((l.length : Int) == cap) = true := by simpa using hfull
        have hl1 : 1 ≤ l.length := by omega
        have Hf := Lib.hid hfull
        clear hfull
        go_enter Try.func67, Try.ntmps67
        go_wp2_with (first
          | (go_at_call 105; refine (wcheck_any cap A c l _ (Hh.out.below (((Below.refl _ _).alloc (Nat.le_refl _) _).alloc (by simp) _))).mono ?_; rintro e w1 ⟨rfl, hb1⟩; obtain ⟨c0, f0, c1, f1, z1, hb2⟩ := keep2 hb1; clear hb1)
          | (go_at_call 84; refine (val_any _ _).mono ?_; rintro e w2 ⟨rfl, rfl⟩))
        · have hlt : l.tail.length + 1 = l.length := by simp; omega
          obtain ⟨i0, hi0, hz0, hz1, hz2⟩ := info_parts info3
          have hI := ints_tail1 hc (by omega) (Hh.out.below hb2)
          have HI := Lib.hid hI
          have H2 := Lib.hid hb2
          have b0 := c0 0
          have d0 := c1 0
          have d1 := c1 1
          have e0 := f1 0
          have e1 := f1 1
          simp at b0 d0 d1
          clear hI hb2 c0 c1 f0 f1 Hh
          have Hlen : Hid (l.tail.length ≤ 17592186044416) := (by simp; omega : l.tail.length ≤ 17592186044416)
          have Hlen64 : Hid (l.tail.length ≤ 64) := (by simp; omega : l.tail.length ≤ 64)
          go_region_held3 (fun w' => w'.cell? ⟨w.heap.size, 0, none⟩ = some (.int .i64 cap)) (go_keep)
            (first
              | (go_at_call 78; refine (clone_len _ _ (l.length - 1) l.tail _ (by simp) (HI.out.below (by first | exact (Below.refl _ _).drew | exact ((Below.refl _ _).alloc (by simp) _).drew)) Hlen.out).mono ?_; rintro e w3 ⟨⟨v3, rfl, ho3⟩, hb3⟩;
                 have q0 := (hb3.cell (p := ⟨w.heap.size, 0, none⟩) (by simp; omega)).trans (by first | exact b0 | exact (World.cell?_alloc_past (w := w1) (.cells #[.int .i64 n] 3) _ _ (by omega)).trans b0); have q1 := (hb3.cell (p := ⟨w.heap.size + 1, 0, none⟩) (by simp; omega)).trans (by first | exact d0 | exact (World.cell?_alloc_past (w := w1) (.cells #[.int .i64 n] 3) _ _ (by omega)).trans d0); have q2 := (hb3.cell (p := ⟨w.heap.size + 1, 1, none⟩) (by simp; omega)).trans (by first | exact d1 | exact (World.cell?_alloc_past (w := w1) (.cells #[.int .i64 n] 3) _ _ (by omega)).trans d1); 
                 have q3 := (hb3.frozen (p := ⟨w.heap.size + 1, 0, none⟩) (by simp; omega)).trans (by first | exact e0 | exact (World.frozen?_alloc_past (w := w1) (.cells #[.int .i64 n] 3) _ _ (by omega)).trans e0); have q4 := (hb3.frozen (p := ⟨w.heap.size + 1, 1, none⟩) (by simp; omega)).trans (by first | exact e1 | exact (World.frozen?_alloc_past (w := w1) (.cells #[.int .i64 n] 3) _ _ (by omega)).trans e1); have q5 := hb3.size; simp at q5; have z3 : w.heap.size + 1 < w3.heap.size := (by omega); have z4 : w.heap.size < w3.heap.size := (by omega); have Ho3 := Lib.hid ho3; clear ho3)
              | (have hoA : (w3.alloc (.cells #[.int .i64 n] 3)).ownsRow w1.heap.size 3 1 v3 l.tail.length (ints l.tail) := (own_base Ho3.out (by simp)).alloc _;
                 rw [if_pos (by rfl : Region.wanted _ _ = true)]; refine wp_append_own _ (.tmp 30) (.tmp 32) 36 (by rfl) w1.heap.size 3 i0 _ 1 8 Try.underlying36 hi0 hz0 hz1 hz2 (by rfl) (by omega) v3 l.tail.length (ints l.tail) (by rfl) (by exact hoA) ⟨w3.heap.size, 0, none⟩ 1 1 [.int .i64 n] (by rfl) (by rfl) ?a1 ?a2 ?a3 ?a4 ?a5 ?_; (case a1 => exact news_at w3 w3.heap.size [.int .i64 n] 3 rfl); (case a2 => simp [Value.oneCell']); (case a3 => (have h9 := Hlen.out; simp only [maxLen]; omega)); (case a4 => (have h9 := Hlen64.out; omega)); (case a5 => (simp; omega));
                 intro v4 w4 ho4 hg4 _; rw [hlt] at ho4; obtain ⟨p0, p1⟩ := keep_grown hoA hg4 (b := w.heap.size) (by omega) (by simp; omega); obtain ⟨p2, p3⟩ := keep_grown hoA hg4 (b := w.heap.size + 1) (by omega) (by simp; omega); have u0 : w4.cell? ⟨w.heap.size, 0, none⟩ = some (.int .i64 cap) := (p0 0).trans ((World.cell?_alloc_past _ _ _ z4).trans q0); have u1 : w4.cell? ⟨w.heap.size + 1, 0, none⟩ = some (.int .i64 0) := (p2 0).trans ((World.cell?_alloc_past _ _ _ z3).trans q1); have u2 : w4.cell? ⟨w.heap.size + 1, 1, none⟩ = some (.slice none 0 0) := (p2 1).trans ((World.cell?_alloc_past _ _ _ z3).trans q2); have u3 : w4.frozen? ⟨w.heap.size + 1, 0, none⟩ = false := (p3 0).trans ((World.frozen?_alloc_past _ _ _ z3).trans q3); have u4 : w4.frozen? ⟨w.heap.size + 1, 1, none⟩ = false := (p3 1).trans ((World.frozen?_alloc_past _ _ _ z3).trans q4); clear p0 p1 p2 p3; obtain ⟨A4, c4, rfl, -⟩ := own_form ho4; have Ho4 := Lib.hid ho4;
                 have Hb4 := Lib.hid ((((Below.refl _ _).drew.trans hb3).alloc q5 _).grown hg4 (by simp; omega) (fun k hk => (hoA.lt k hk).1)); clear hoA ho4 hg4 hb3)
              | (have hoA : w3.ownsRow w1.heap.size 3 1 v3 l.tail.length (ints l.tail) := own_base Ho3.out (by simp);
                 rw [if_pos (by rfl : Region.wanted _ _ = true)]; refine wp_append_own _ (.tmp 30) (.tmp 32) 36 (by rfl) w1.heap.size 3 i0 _ 1 8 Try.underlying36 hi0 hz0 hz1 hz2 (by rfl) (by omega) v3 l.tail.length (ints l.tail) (by rfl) (by exact hoA) ⟨w1.heap.size, 0, none⟩ 1 1 [.int .i64 n] (by rfl) (by rfl) ?a1 ?a2 ?a3 ?a4 ?a5 ?_; (case a1 => exact news_below hb3 (news_at w1 w1.heap.size [.int .i64 n] 3 rfl)); (case a2 => simp [Value.oneCell']); (case a3 => (have h9 := Hlen.out; simp only [maxLen]; omega)); (case a4 => (have h9 := Hlen64.out; omega)); (case a5 => omega);
                 intro v4 w4 ho4 hg4 _; rw [hlt] at ho4; obtain ⟨p0, p1⟩ := keep_grown hoA hg4 (b := w.heap.size) (by omega) (by omega); obtain ⟨p2, p3⟩ := keep_grown hoA hg4 (b := w.heap.size + 1) (by omega) (by omega); have u0 : w4.cell? ⟨w.heap.size, 0, none⟩ = some (.int .i64 cap) := (p0 0).trans q0; have u1 : w4.cell? ⟨w.heap.size + 1, 0, none⟩ = some (.int .i64 0) := (p2 0).trans q1; have u2 : w4.cell? ⟨w.heap.size + 1, 1, none⟩ = some (.slice none 0 0) := (p2 1).trans q2; have u3 : w4.frozen? ⟨w.heap.size + 1, 0, none⟩ = false := (p3 0).trans q3; have u4 : w4.frozen? ⟨w.heap.size + 1, 1, none⟩ = false := (p3 1).trans q4; clear p0 p1 p2 p3; obtain ⟨A4, c4, rfl, -⟩ := own_form ho4; have Ho4 := Lib.hid ho4;
                 have Hb4 := Lib.hid (((((Below.refl w1.heap.size w1).alloc (Nat.le_refl _) (.cells #[.int .i64 n] 3)).drew).trans (hb3.mono (by simp))).grown hg4 (by omega) (fun k hk => (hoA.lt k hk).1)); clear hoA ho4 hg4 hb3)
              | fail)
          all_goals go_wp2_with fail
          all_goals rw [Hr.out]
          all_goals
            rw [pushed_full Hf.out]
            refine bodyPost_ret (v := .tuple #[.agg #[.int .i64 cap, .slice A4 l.length c4], .int .i64 0]) ?_ rfl (push_end H2.out Hb4.out Ho4.out hlt.symm z1)
            simp [results, Try.results67, go_sem, u1, u2]
        · have hlt : l.tail.length + 1 = l.length := by simp; omega
          obtain ⟨i0, hi0, hz0, hz1, hz2⟩ := info_parts info3
          have hI := ints_tail (Hh.out.below hb2)
          have HI := Lib.hid hI
          have H2 := Lib.hid hb2
          have b0 := c0 0
          have d0 := c1 0
          have d1 := c1 1
          have e0 := f1 0
          have e1 := f1 1
          simp at b0 d0 d1
          clear hI hb2 c0 c1 f0 f1 Hh
          have Hlen : Hid (l.tail.length ≤ 17592186044416) := (by simp; omega : l.tail.length ≤ 17592186044416)
          have Hlen64 : Hid (l.tail.length ≤ 64) := (by simp; omega : l.tail.length ≤ 64)
          go_region_held3 (fun w' => w'.cell? ⟨w.heap.size, 0, none⟩ = some (.int .i64 cap)) (go_keep)
            (first
              | (go_at_call 78; refine (clone_len _ _ (l.length - 1) l.tail _ (by simp) (HI.out.below (by first | exact (Below.refl _ _).drew | exact ((Below.refl _ _).alloc (by simp) _).drew)) Hlen.out).mono ?_; rintro e w3 ⟨⟨v3, rfl, ho3⟩, hb3⟩;
                 have q0 := (hb3.cell (p := ⟨w.heap.size, 0, none⟩) (by simp; omega)).trans (by first | exact b0 | exact (World.cell?_alloc_past (w := w1) (.cells #[.int .i64 n] 3) _ _ (by omega)).trans b0); have q1 := (hb3.cell (p := ⟨w.heap.size + 1, 0, none⟩) (by simp; omega)).trans (by first | exact d0 | exact (World.cell?_alloc_past (w := w1) (.cells #[.int .i64 n] 3) _ _ (by omega)).trans d0); have q2 := (hb3.cell (p := ⟨w.heap.size + 1, 1, none⟩) (by simp; omega)).trans (by first | exact d1 | exact (World.cell?_alloc_past (w := w1) (.cells #[.int .i64 n] 3) _ _ (by omega)).trans d1); 
                 have q3 := (hb3.frozen (p := ⟨w.heap.size + 1, 0, none⟩) (by simp; omega)).trans (by first | exact e0 | exact (World.frozen?_alloc_past (w := w1) (.cells #[.int .i64 n] 3) _ _ (by omega)).trans e0); have q4 := (hb3.frozen (p := ⟨w.heap.size + 1, 1, none⟩) (by simp; omega)).trans (by first | exact e1 | exact (World.frozen?_alloc_past (w := w1) (.cells #[.int .i64 n] 3) _ _ (by omega)).trans e1); have q5 := hb3.size; simp at q5; have z3 : w.heap.size + 1 < w3.heap.size := (by omega); have z4 : w.heap.size < w3.heap.size := (by omega); have Ho3 := Lib.hid ho3; clear ho3)
              | (have hoA : (w3.alloc (.cells #[.int .i64 n] 3)).ownsRow w1.heap.size 3 1 v3 l.tail.length (ints l.tail) := (own_base Ho3.out (by simp)).alloc _;
                 rw [if_pos (by rfl : Region.wanted _ _ = true)]; refine wp_append_own _ (.tmp 30) (.tmp 32) 36 (by rfl) w1.heap.size 3 i0 _ 1 8 Try.underlying36 hi0 hz0 hz1 hz2 (by rfl) (by omega) v3 l.tail.length (ints l.tail) (by rfl) (by exact hoA) ⟨w3.heap.size, 0, none⟩ 1 1 [.int .i64 n] (by rfl) (by rfl) ?a1 ?a2 ?a3 ?a4 ?a5 ?_; (case a1 => exact news_at w3 w3.heap.size [.int .i64 n] 3 rfl); (case a2 => simp [Value.oneCell']); (case a3 => (have h9 := Hlen.out; simp only [maxLen]; omega)); (case a4 => (have h9 := Hlen64.out; omega)); (case a5 => (simp; omega));
                 intro v4 w4 ho4 hg4 _; rw [hlt] at ho4; obtain ⟨p0, p1⟩ := keep_grown hoA hg4 (b := w.heap.size) (by omega) (by simp; omega); obtain ⟨p2, p3⟩ := keep_grown hoA hg4 (b := w.heap.size + 1) (by omega) (by simp; omega); have u0 : w4.cell? ⟨w.heap.size, 0, none⟩ = some (.int .i64 cap) := (p0 0).trans ((World.cell?_alloc_past _ _ _ z4).trans q0); have u1 : w4.cell? ⟨w.heap.size + 1, 0, none⟩ = some (.int .i64 0) := (p2 0).trans ((World.cell?_alloc_past _ _ _ z3).trans q1); have u2 : w4.cell? ⟨w.heap.size + 1, 1, none⟩ = some (.slice none 0 0) := (p2 1).trans ((World.cell?_alloc_past _ _ _ z3).trans q2); have u3 : w4.frozen? ⟨w.heap.size + 1, 0, none⟩ = false := (p3 0).trans ((World.frozen?_alloc_past _ _ _ z3).trans q3); have u4 : w4.frozen? ⟨w.heap.size + 1, 1, none⟩ = false := (p3 1).trans ((World.frozen?_alloc_past _ _ _ z3).trans q4); clear p0 p1 p2 p3; obtain ⟨A4, c4, rfl, -⟩ := own_form ho4; have Ho4 := Lib.hid ho4;
                 have Hb4 := Lib.hid ((((Below.refl _ _).drew.trans hb3).alloc q5 _).grown hg4 (by simp; omega) (fun k hk => (hoA.lt k hk).1)); clear hoA ho4 hg4 hb3)
              | (have hoA : w3.ownsRow w1.heap.size 3 1 v3 l.tail.length (ints l.tail) := own_base Ho3.out (by simp);
                 rw [if_pos (by rfl : Region.wanted _ _ = true)]; refine wp_append_own _ (.tmp 30) (.tmp 32) 36 (by rfl) w1.heap.size 3 i0 _ 1 8 Try.underlying36 hi0 hz0 hz1 hz2 (by rfl) (by omega) v3 l.tail.length (ints l.tail) (by rfl) (by exact hoA) ⟨w1.heap.size, 0, none⟩ 1 1 [.int .i64 n] (by rfl) (by rfl) ?a1 ?a2 ?a3 ?a4 ?a5 ?_; (case a1 => exact news_below hb3 (news_at w1 w1.heap.size [.int .i64 n] 3 rfl)); (case a2 => simp [Value.oneCell']); (case a3 => (have h9 := Hlen.out; simp only [maxLen]; omega)); (case a4 => (have h9 := Hlen64.out; omega)); (case a5 => omega);
                 intro v4 w4 ho4 hg4 _; rw [hlt] at ho4; obtain ⟨p0, p1⟩ := keep_grown hoA hg4 (b := w.heap.size) (by omega) (by omega); obtain ⟨p2, p3⟩ := keep_grown hoA hg4 (b := w.heap.size + 1) (by omega) (by omega); have u0 : w4.cell? ⟨w.heap.size, 0, none⟩ = some (.int .i64 cap) := (p0 0).trans q0; have u1 : w4.cell? ⟨w.heap.size + 1, 0, none⟩ = some (.int .i64 0) := (p2 0).trans q1; have u2 : w4.cell? ⟨w.heap.size + 1, 1, none⟩ = some (.slice none 0 0) := (p2 1).trans q2; have u3 : w4.frozen? ⟨w.heap.size + 1, 0, none⟩ = false := (p3 0).trans q3; have u4 : w4.frozen? ⟨w.heap.size + 1, 1, none⟩ = false := (p3 1).trans q4; clear p0 p1 p2 p3; obtain ⟨A4, c4, rfl, -⟩ := own_form ho4; have Ho4 := Lib.hid ho4;
                 have Hb4 := Lib.hid (((((Below.refl w1.heap.size w1).alloc (Nat.le_refl _) (.cells #[.int .i64 n] 3)).drew).trans (hb3.mono (by simp))).grown hg4 (by omega) (fun k hk => (hoA.lt k hk).1)); clear hoA ho4 hg4 hb3)
              | fail)
          all_goals go_wp2_with fail
          all_goals rw [Hr.out]
          all_goals
            rw [pushed_full Hf.out]
            refine bodyPost_ret (v := .tuple #[.agg #[.int .i64 cap, .slice A4 l.length c4], .int .i64 0]) ?_ rfl (push_end H2.out Hb4.out Ho4.out hlt.symm z1)
            simp [results, Try.results67, go_sem, u1, u2]
      · have hfb : ((l.length : Int) == cap) = false := by simpa using hfull
        have Hf := Lib.hid hfull
        clear hfull
        go_enter Try.func67, Try.ntmps67
        go_wp2_with (first
          | (go_at_call 105; refine (wcheck_any cap A c l _ (Hh.out.below (((Below.refl _ _).alloc (Nat.le_refl _) _).alloc (by simp) _))).mono ?_; rintro e w1 ⟨rfl, hb1⟩; obtain ⟨c0, f0, c1, f1, z1, hb2⟩ := keep2 hb1; clear hb1)
          | (go_at_call 84; refine (val_any _ _).mono ?_; rintro e w2 ⟨rfl, rfl⟩))
        obtain ⟨i0, hi0, hz0, hz1, hz2⟩ := info_parts info3
        have hI := Hh.out.below hb2
        have HI := Lib.hid hI
        have H2 := Lib.hid hb2
        have b0 := c0 0
        have d0 := c1 0
        have d1 := c1 1
        have e0 := f1 0
        have e1 := f1 1
        simp at b0 d0 d1
        clear hI hb2 c0 c1 f0 f1 Hh
        have Hlen : Hid (l.length ≤ 17592186044416) := (by omega : l.length ≤ 17592186044416)
        have Hlen64 := Lib.hid hl64
        go_region_held3 (fun w' => w'.cell? ⟨w.heap.size, 0, none⟩ = some (.int .i64 cap)) (go_keep)
          (first
            | (go_at_call 78; refine (clone_len A c l.length l _ rfl (HI.out.below (by first | exact (Below.refl _ _).drew | exact ((Below.refl _ _).alloc (by simp) _).drew)) Hlen.out).mono ?_; rintro e w3 ⟨⟨v3, rfl, ho3⟩, hb3⟩;
               have q0 := (hb3.cell (p := ⟨w.heap.size, 0, none⟩) (by simp; omega)).trans (by first | exact b0 | exact (World.cell?_alloc_past (w := w1) (.cells #[.int .i64 n] 3) _ _ (by omega)).trans b0); have q1 := (hb3.cell (p := ⟨w.heap.size + 1, 0, none⟩) (by simp; omega)).trans (by first | exact d0 | exact (World.cell?_alloc_past (w := w1) (.cells #[.int .i64 n] 3) _ _ (by omega)).trans d0); have q2 := (hb3.cell (p := ⟨w.heap.size + 1, 1, none⟩) (by simp; omega)).trans (by first | exact d1 | exact (World.cell?_alloc_past (w := w1) (.cells #[.int .i64 n] 3) _ _ (by omega)).trans d1); 
               have q3 := (hb3.frozen (p := ⟨w.heap.size + 1, 0, none⟩) (by simp; omega)).trans (by first | exact e0 | exact (World.frozen?_alloc_past (w := w1) (.cells #[.int .i64 n] 3) _ _ (by omega)).trans e0); have q4 := (hb3.frozen (p := ⟨w.heap.size + 1, 1, none⟩) (by simp; omega)).trans (by first | exact e1 | exact (World.frozen?_alloc_past (w := w1) (.cells #[.int .i64 n] 3) _ _ (by omega)).trans e1); have q5 := hb3.size; simp at q5; have z3 : w.heap.size + 1 < w3.heap.size := (by omega); have z4 : w.heap.size < w3.heap.size := (by omega); have Ho3 := Lib.hid ho3; clear ho3)
            | (have hoA : (w3.alloc (.cells #[.int .i64 n] 3)).ownsRow w1.heap.size 3 1 v3 (l).length (ints (l)) := (own_base Ho3.out (by simp)).alloc _;
               rw [if_pos (by rfl : Region.wanted _ _ = true)]; refine wp_append_own _ (.tmp 30) (.tmp 32) 36 (by rfl) w1.heap.size 3 i0 _ 1 8 Try.underlying36 hi0 hz0 hz1 hz2 (by rfl) (by omega) v3 (l).length (ints (l)) (by rfl) (by exact hoA) ⟨w3.heap.size, 0, none⟩ 1 1 [.int .i64 n] (by rfl) (by rfl) ?a1 ?a2 ?a3 ?a4 ?a5 ?_; (case a1 => exact news_at w3 w3.heap.size [.int .i64 n] 3 rfl); (case a2 => simp [Value.oneCell']); (case a3 => (have h9 := Hlen.out; simp only [maxLen]; omega)); (case a4 => (have h9 := Hlen64.out; omega)); (case a5 => (simp; omega));
               intro v4 w4 ho4 hg4 _; obtain ⟨p0, p1⟩ := keep_grown hoA hg4 (b := w.heap.size) (by omega) (by simp; omega); obtain ⟨p2, p3⟩ := keep_grown hoA hg4 (b := w.heap.size + 1) (by omega) (by simp; omega); have u0 : w4.cell? ⟨w.heap.size, 0, none⟩ = some (.int .i64 cap) := (p0 0).trans ((World.cell?_alloc_past _ _ _ z4).trans q0); have u1 : w4.cell? ⟨w.heap.size + 1, 0, none⟩ = some (.int .i64 0) := (p2 0).trans ((World.cell?_alloc_past _ _ _ z3).trans q1); have u2 : w4.cell? ⟨w.heap.size + 1, 1, none⟩ = some (.slice none 0 0) := (p2 1).trans ((World.cell?_alloc_past _ _ _ z3).trans q2); have u3 : w4.frozen? ⟨w.heap.size + 1, 0, none⟩ = false := (p3 0).trans ((World.frozen?_alloc_past _ _ _ z3).trans q3); have u4 : w4.frozen? ⟨w.heap.size + 1, 1, none⟩ = false := (p3 1).trans ((World.frozen?_alloc_past _ _ _ z3).trans q4); clear p0 p1 p2 p3; obtain ⟨A4, c4, rfl, -⟩ := own_form ho4; have Ho4 := Lib.hid ho4;
               have Hb4 := Lib.hid ((((Below.refl _ _).drew.trans hb3).alloc q5 _).grown hg4 (by simp; omega) (fun k hk => (hoA.lt k hk).1)); clear hoA ho4 hg4 hb3)
            | (have hoA : w3.ownsRow w1.heap.size 3 1 v3 (l).length (ints (l)) := own_base Ho3.out (by simp);
               rw [if_pos (by rfl : Region.wanted _ _ = true)]; refine wp_append_own _ (.tmp 30) (.tmp 32) 36 (by rfl) w1.heap.size 3 i0 _ 1 8 Try.underlying36 hi0 hz0 hz1 hz2 (by rfl) (by omega) v3 (l).length (ints (l)) (by rfl) (by exact hoA) ⟨w1.heap.size, 0, none⟩ 1 1 [.int .i64 n] (by rfl) (by rfl) ?a1 ?a2 ?a3 ?a4 ?a5 ?_; (case a1 => exact news_below hb3 (news_at w1 w1.heap.size [.int .i64 n] 3 rfl)); (case a2 => simp [Value.oneCell']); (case a3 => (have h9 := Hlen.out; simp only [maxLen]; omega)); (case a4 => (have h9 := Hlen64.out; omega)); (case a5 => omega);
               intro v4 w4 ho4 hg4 _; obtain ⟨p0, p1⟩ := keep_grown hoA hg4 (b := w.heap.size) (by omega) (by omega); obtain ⟨p2, p3⟩ := keep_grown hoA hg4 (b := w.heap.size + 1) (by omega) (by omega); have u0 : w4.cell? ⟨w.heap.size, 0, none⟩ = some (.int .i64 cap) := (p0 0).trans q0; have u1 : w4.cell? ⟨w.heap.size + 1, 0, none⟩ = some (.int .i64 0) := (p2 0).trans q1; have u2 : w4.cell? ⟨w.heap.size + 1, 1, none⟩ = some (.slice none 0 0) := (p2 1).trans q2; have u3 : w4.frozen? ⟨w.heap.size + 1, 0, none⟩ = false := (p3 0).trans q3; have u4 : w4.frozen? ⟨w.heap.size + 1, 1, none⟩ = false := (p3 1).trans q4; clear p0 p1 p2 p3; obtain ⟨A4, c4, rfl, -⟩ := own_form ho4; have Ho4 := Lib.hid ho4;
               have Hb4 := Lib.hid (((((Below.refl w1.heap.size w1).alloc (Nat.le_refl _) (.cells #[.int .i64 n] 3)).drew).trans (hb3.mono (by simp))).grown hg4 (by omega) (fun k hk => (hoA.lt k hk).1)); clear hoA ho4 hg4 hb3)
            | fail)
        all_goals go_wp2_with fail
        all_goals rw [Hr.out]
        all_goals
          rw [pushed_short Hf.out]
          refine bodyPost_ret (v := .tuple #[.agg #[.int .i64 cap, .slice A4 (l.length + 1) c4], .int .i64 0]) ?_ rfl (push_end H2.out Hb4.out Ho4.out rfl z1)
          simp [results, Try.results67, go_sem, u1, u2]

end Go.Proofs.Ytmclalhjnjghnaa
