/- The contract of (*Node).Tick, given what told does. -/
import Derived.Test.YtmclalhjnjghnaaNode
import Derived.Test.YtmclalhjnjghnaaSlots
import Derived.Test.YtmclalhjnjghnaaEnc
import Derived.Deep.QuietTactic
import Derived.BigQuiet
namespace Go.Proofs.Ytmclalhjnjghnaa
open Go.RowKit Hw

theorem NodeAt.grown {w w' : World} {b : Nat} {vs : Value} {n : Hw.Node} {B : Nat} {t : TypeId} {s : Nat} {v : Value} {k : Nat} {xs : List Value} (h : NodeAt w b vs n) (ho : w.ownsRow B t s v k xs) (hg : w.grownBy w' v.ownBlock)
    (ht : t ≠ 145 ∧ t ≠ 85 ∧ t ≠ 40 ∧ t ≠ 3) : NodeAt w' b vs n := by
  have hne : ∀ (q : Nat) (c : Array Value) (u : TypeId), w.heap[q]? = some (.cells c u (0, 0)) → u ≠ t → w'.heap[q]? = w.heap[q]? := by
    intro q c u hq hu
    refine hg.block q (Array.getElem?_eq_some_iff.1 hq).1 fun he => ?_
    rcases ho.2 with ⟨e1, _⟩ | ⟨g', cap, cur, e1, _, e3, _⟩
    · rw [e1] at he; simp [Value.ownBlock] at he
    · rw [e1] at he
      simp [Value.ownBlock] at he
      subst he
      rw [hq] at e3
      injection e3 with e3
      injection e3 with _ e4 _
      exact hu e4
  obtain ⟨vp, e1, e2, e3⟩ := h
  exact ⟨vp, (hne _ _ _ e1 (Ne.symm ht.1)).trans e1, e2.typed fun k c t' hk hc => hne k c t' hc (by rcases hk with e | e <;> (rw [e]; first | exact Ne.symm ht.2.2.1 | exact Ne.symm ht.2.2.2)), own_typed e3 fun k c _ hc => hne k c 85 hc (Ne.symm ht.2.1)⟩

theorem Touch.grown {S : Nat → Prop} {w0 w w' : World} {r : Option Nat} (h : Touch S w0 w) (hg : w.grownBy w' r) (hr : ∀ k, some k = r → w0.heap.size ≤ k) : Touch S w0 w' :=
  ⟨hg.os.trans h.os, hg.tape.trans h.tape, hg.output.trans h.output, Nat.le_trans h.size hg.size, fun k hk hn => (hg.block k (Nat.lt_of_lt_of_le hk h.size) fun e => by have := hr k e; omega).trans (h.block k hk hn)⟩

def noteCells (x : Note) : List Value := [.string x.id, .int .i64 x.theta, .bool x.suspect]
def notesCells (l : List Note) : List Value := l.flatMap noteCells

def NodeS (b : Nat) (vs : Value) (k : Nat) : Prop := k = b ∨ some k = vs.ownBlock

theorem NodeAt.other {w : World} {b : Nat} {vs : Value} {n : Hw.Node} (h : NodeAt w b vs n) {k : Nat} {c : Array Value} {t : TypeId} (hk : w.heap[k]? = some (.cells c t (0, 0))) (h1 : t ≠ 145) (h2 : t ≠ 85) : ¬ NodeS b vs k := by
  obtain ⟨vp, e1, _, e3⟩ := h
  rintro (e | e)
  · subst e
    rw [hk] at e1
    injection e1 with e1
    injection e1 with _ e1 _
    exact h1 e1
  · rcases e3.2 with ⟨q, _⟩ | ⟨g, cap, cur, q, _, q3, _⟩
    · rw [q] at e
      simp [Value.ownBlock] at e
    · rw [q] at e
      simp [Value.ownBlock] at e
      subst e
      rw [hk] at q3
      injection q3 with q3
      injection q3 with _ q3 _
      exact h2 q3

def ToldPost (b : Nat) (vs : Value) (n : Hw.Node) (w : World) (e : Ending) (w' : World) : Prop :=
  (∃ v, e = .returned v ∧ w'.ownsRow w.heap.size 74 3 v (told n).2.length (notesCells (told n).2)) ∧ NodeAt w' b vs (told n).1 ∧ Touch (NodeS b vs) w w'

/-- The texts of so many beats behind number q. -/
def texts (n : Hw.Node) (k : Nat) : List ByteArray := (List.range k).map fun (i : Nat) => (encode ⟨n.c.id, n.c.inc, n.seq + 1 + (i : Int)⟩).1
def beats (n : Hw.Node) (t : Int) : Nat := ((n.now + t) / n.c.every - n.now / n.c.every).toNat
def ticked (n : Hw.Node) (t : Int) : Hw.Node := { n with seq := n.seq + beats n t, now := n.now + t }

/-- '(*Node).Tick': the node behind it, the texts, the notes, the error. -/
def tick (n : Hw.Node) (t : Int) : Hw.Node × List ByteArray × List Note × Int :=
  if t < 1 ∨ 1073741824 < t then (n, [], [], 1)
  else if 1073741824 < n.now + t ∨ 64 ≤ t / n.c.every then (n, [], [], 2)
  else ((told (ticked n t)).1, texts n (beats n t), (told (ticked n t)).2, 0)

def NodeOk (n : Hw.Node) : Prop := 1 ≤ n.c.every ∧ n.c.every ≤ 16777216 ∧ 0 ≤ n.now ∧ n.now ≤ 1073741824 ∧ 0 ≤ n.seq ∧ n.seq ≤ 1073741824

def V31 (b : Nat) (n : Hw.Node) (q : Int) (j : Nat) (v : Value) (_ : World) : Prop :=
  match j with
  | 0 => v = .pointer (some ⟨b, 0, none⟩)
  | 1 => v = .pointer (some ⟨b, 0, none⟩)
  | 2 => v = .pointer (some ⟨b, 0, none⟩)
  | 3 => v = .pointer (some ⟨b, 0, none⟩)
  | 4 => v = .string n.c.id
  | 5 => v = .pointer (some ⟨b, 0, none⟩)
  | 6 => v = .pointer (some ⟨b, 0, none⟩)
  | 7 => v = .pointer (some ⟨b, 0, none⟩)
  | 8 => v = .pointer (some ⟨b, 1, none⟩)
  | 9 => v = .int .i64 n.c.inc
  | 10 => v = .pointer (some ⟨b, 0, none⟩)
  | 11 => v = .pointer (some ⟨b, 0, none⟩)
  | 12 => v = .pointer (some ⟨b, 6, none⟩)
  | 13 => v = .int .i64 q
  | 14 => v = .agg #[.string n.c.id, .int .i64 n.c.inc, .int .i64 q]
  | 15 => v = .tuple #[.string (encode ⟨n.c.id, n.c.inc, q⟩).1, .int .i64 (encode ⟨n.c.id, n.c.inc, q⟩).2]
  | 16 => v = .tuple #[.string (encode ⟨n.c.id, n.c.inc, q⟩).1, .int .i64 (encode ⟨n.c.id, n.c.inc, q⟩).2]
  | 17 => v = .string (encode ⟨n.c.id, n.c.inc, q⟩).1
  | 18 => v = .int .i64 (encode ⟨n.c.id, n.c.inc, q⟩).2
  | 19 => v = .string (encode ⟨n.c.id, n.c.inc, q⟩).1
  | _ => v = .int .i64 (encode ⟨n.c.id, n.c.inc, q⟩).2
def V31S : List Nat := [74, 75, 76, 77, 78, 79, 80, 81, 82, 83, 84, 85, 86, 87, 88, 89, 73, 90, 91, 9, 10]

theorem texts_succ (n : Hw.Node) (k : Nat) : texts n (k + 1) = texts n k ++ [(encode ⟨n.c.id, n.c.inc, n.seq + 1 + k⟩).1] := by
  unfold texts
  rw [List.range_succ, List.map_append]
  rfl

def TickPost (b : Nat) (vs : Value) (n : Hw.Node) (t : Int) (w : World) (e : Ending) (w' : World) : Prop :=
  (∃ vt vn, e = .returned (.tuple #[vt, vn, .int .i64 (tick n t).2.2.2]) ∧ w'.ownsRow w.heap.size 9 1 vt (tick n t).2.1.length ((tick n t).2.1.map .string) ∧ w'.ownsRow w.heap.size 74 3 vn (tick n t).2.2.1.length (notesCells (tick n t).2.2.1)) ∧
    NodeAt w' b vs (tick n t).1 ∧ Touch (NodeS b vs) w w'

set_option maxRecDepth 100000 in
set_option maxHeartbeats 4000000 in
theorem tick_any (b : Nat) (vs : Value) (n : Hw.Node) (t : Int) (w : World) (h : NodeAt w b vs n) (hok : NodeOk n) (ht : ∀ w', NodeAt w' b vs (ticked n t) → Calls Try.prog 95 #[.pointer (some ⟨b, 0, none⟩)] w' (ToldPost b vs (ticked n t) w')) :
    Calls Try.prog 31 #[.pointer (some ⟨b, 0, none⟩), .int .i64 t] w (TickPost b vs n t w) := by
  have HN := Lib.hid h
  have HT := Lib.hid ht
  obtain ⟨A, c, c0, c1, c2, -, -, c5, c6, -, -, -, -, -, hf⟩ := h.cells
  have HF := Lib.hid hf
  have hbl := h.lt
  clear h ht hf
  obtain ⟨k1, k2, k3, k4, k5, k6⟩ := hok
  by_cases ha : t < 1 ∨ 1073741824 < t
  · have hr : tick n t = (n, [], [], 1) := by unfold tick; rw [if_pos ha]
    have Hr := Lib.hid hr
    clear hr
    go_enter Try.func31, Try.ntmps31
    go_wp2_with fail
    all_goals
      go_ret3
      unfold TickPost
      rw [Hr.out]
      exact ⟨⟨_, _, rfl, World.ownsRow_nil _ _ _ _, World.ownsRow_nil _ _ _ _⟩, HN.out, Touch.refl _ _⟩
  · have ha1 : 1 ≤ t := by omega
    have ha2 : t ≤ 1073741824 := by omega
    by_cases hb : 1073741824 < n.now + t ∨ 64 ≤ t / n.c.every
    · have hr : tick n t = (n, [], [], 2) := by unfold tick; rw [if_neg ha, if_pos hb]
      have Hr := Lib.hid hr
      have hd0 : 0 ≤ t / n.c.every := Int.ediv_nonneg (by omega) (by omega)
      have hd1 : t / n.c.every ≤ t := Int.ediv_le_self _ (by omega)
      have hq : t.tdiv n.c.every = t / n.c.every := Int.tdiv_eq_ediv_of_nonneg (by omega)
      have hz : (n.c.every == 0) = false := by simp; omega
      generalize t / n.c.every = d at hb hd0 hd1 hq
      have hdw : wrap64 d = d := IntWalk.wrap64_in _ (by omega)
      clear hr ha
      go_enter Try.func31, Try.ntmps31
      go_wp2_with fail
      all_goals
        go_ret3
        unfold TickPost
        rw [Hr.out]
        exact ⟨⟨_, _, rfl, World.ownsRow_nil _ _ _ _, World.ownsRow_nil _ _ _ _⟩, HN.out, Touch.refl _ _⟩
    · have hr : tick n t = ((told (ticked n t)).1, texts n (beats n t), (told (ticked n t)).2, 0) := by unfold tick; rw [if_neg ha, if_neg hb]
      have Hr := Lib.hid hr
      have hd0 : 0 ≤ t / n.c.every := Int.ediv_nonneg (by omega) (by omega)
      have hq : t.tdiv n.c.every = t / n.c.every := Int.tdiv_eq_ediv_of_nonneg (by omega)
      have hz : (n.c.every == 0) = false := by simp; omega
      have hq0 : n.now.tdiv n.c.every = n.now / n.c.every := Int.tdiv_eq_ediv_of_nonneg (by omega)
      have hn0 : 0 ≤ n.now / n.c.every := Int.ediv_nonneg (by omega) (by omega)
      have hn1 : n.now / n.c.every * n.c.every ≤ n.now := Int.ediv_mul_le _ (by omega)
      have hnn : n.now / n.c.every ≤ n.now := Int.ediv_le_self _ (by omega)
      have hiff : ∀ k : Nat, (n.now / n.c.every + 1 + (k : Int)) * n.c.every ≤ n.now + t ↔ k < beats n t := by
        intro k
        unfold beats
        rw [← Int.le_ediv_iff_mul_le (by omega)]
        omega
      have Hiff := Lib.hid hiff
      have Hdn : Hid (∀ k : Nat, (n.now / n.c.every + 1 + (k : Int)) * n.c.every + n.c.every = (n.now / n.c.every + 1 + ((k + 1 : Nat) : Int)) * n.c.every) := fun k => by
        rw [Int.natCast_succ, ← Int.add_assoc, Int.add_mul (n.now / n.c.every + 1 + (k : Int)) 1, Int.one_mul]
      have hmul : (n.now / n.c.every + 1) * n.c.every = n.now / n.c.every * n.c.every + n.c.every := by rw [Int.add_mul, Int.one_mul]
      obtain ⟨a0, ha0⟩ : ∃ a0, (n.now / n.c.every + 1) * n.c.every = a0 := ⟨_, rfl⟩
      have Ha0 : Hid ((n.now / n.c.every + 1 + ((0 : Nat) : Int)) * n.c.every = a0) := by
        show _ = _
        rw [← ha0]
        simp
      have hab : 1 ≤ a0 ∧ a0 ≤ 1090519040 := by
        have : 0 ≤ n.now / n.c.every * n.c.every := Int.mul_nonneg hn0 (by omega)
        omega
      have hb2 : ¬ 1073741824 < n.now + t := fun e => hb (.inl e)
      have hbt : beats n t ≤ 1073741824 := by
        have : (n.now + t) / n.c.every ≤ n.now + t := Int.ediv_le_self _ (by omega)
        unfold beats
        omega
      have hb3 : ¬ 64 ≤ t / n.c.every := fun e => hb (.inr e)
      have hdw : wrap64 (t / n.c.every) = t / n.c.every := IntWalk.wrap64_in _ (by omega)
      have hdw2 : wrap64 (n.now / n.c.every) = n.now / n.c.every := IntWalk.wrap64_in _ (by omega)
      generalize t / n.c.every = d at hb3 hd0 hq hdw
      generalize n.now / n.c.every = q0 at hq0 hn0 hn1 hnn Hiff Hdn ha0 Ha0 hdw2 hmul
      have haw : IntKind.i64.wrap ((q0 + 1) * n.c.every) = a0 := by rw [ha0]; exact IntWalk.i64_in _ (by omega)
      clear hr ha hb hiff ha0 hmul hn1
      go_enter Try.func31, Try.ntmps31
      go_wp2_with fail
      go_quiet (fail)
      go_wp2_with fail
      obtain ⟨i0, hi0, hz0, hz1, hz2⟩ := info_parts info9
      have hbd : Below w.heap.size w (w.drewN nq) := below_drewN (Below.refl _ _) nq
      go_loopw [7, 8, 9, 10] (fun v i _ _ wr => ∃ (k : Nat) (z : Int), i = .int .i64 z ∧ 0 ≤ z ∧ z ≤ 1090519040 ∧ Hid (z = (q0 + 1 + (k : Int)) * n.c.every) ∧ k ≤ beats n t ∧ Hid (NodeAt wr b vs { n with seq := n.seq + k }) ∧
        Hid (wr.ownsRow w.heap.size 9 1 v k ((texts n k).map .string)) ∧ Hid (Touch (fun k => k = b) w wr)) (fun _ i _ _ _ => (n.now + t + 1 - intOf i).toNat)
      case atStart =>
        refine ⟨0, a0, rfl, by omega, by omega, Ha0.out.symm, by omega, ?_, World.ownsRow_nil _ _ _ _, Touch.of_below hbd⟩
        have := HN.out.below hbd
        show NodeAt (w.drewN nq) b vs { n with seq := n.seq + ((0 : Nat) : Int) }
        simpa using this
      case round =>
        obtain ⟨k, z, rfl, hz0', hz1', Hz, hkb, HM, HO, HTo⟩ := hrel
        obtain ⟨A1, d1, m0, m1, m2, -, -, m5, m6, -, -, -, -, -, mf⟩ := HM.out.cells
        simp only at m0 m1 m2 m5 m6
        have MF := Lib.hid mf
        have hbw := HM.out.lt
        clear mf
        by_cases hlt : z ≤ n.now + t
        · have hkk : k < beats n t := by
            have := Hz.out
            rw [this] at hlt
            exact (Hiff.out k).1 hlt
          obtain ⟨q, hq'⟩ : ∃ q : Int, n.seq + (k : Int) = q := ⟨_, rfl⟩
          have hqb : 0 ≤ q ∧ q ≤ 2147483648 := by omega
          rw [hq'] at m6 HM
          have hqw : IntKind.i64.wrap (q + 1) = q + 1 := IntWalk.i64_in _ (by omega)
          have mf6 := MF.out 6
          have HM2 := Lib.hid (HM.out.putSeq (q + 1))
          have HTo2 := Lib.hid (HTo.out.setCell (a := ⟨b, 6, none⟩) (by rfl) (.int .i64 (q + 1)))
          have HO2 := Lib.hid (ownsRow_setCell_below (a := ⟨b, 6, none⟩) HO.out hbl (.int .i64 (q + 1)))
          have Hq := Lib.hid hq'
          clear hq' MF HM HO HTo
          go_wp2_with fail
          generalize wr.setCell ⟨b, 6, none⟩ (.int .i64 (q + 1)) = W at HM2 HTo2 HO2 ⊢
          clear m0 m1 m2 m5 m6 mf6 A1 d1 hbw wr
          obtain ⟨A1, d1, m0, m1, m2, -, -, m5, m6, -, -, -, -, -, -⟩ := HM2.out.cells
          simp only at m0 m1 m2 m5 m6
          refine wp_region_lit (V31 b n (q + 1)) (fun wx => Below W.heap.size W wx) V31S (by kernel_rfl) (by rfl) (by kernel_rfl) (fun j v wx wy _ h _ => h) (Below.refl _ _).drew ?hs ?hd
          case hs =>
            repeat (refine AllOps.cons ?_ ?_; focus (
              intro a wx hC hk hv K hK
              have h0 := hk 0 (by decide)
              have HC := Lib.hid hC
              have e0 := bsome hC m0
              have e1 := bsome hC m1
              have e6 := bsome hC m6
              clear hk hC
              simp [Region.binds, V31, V31S] at hv h0
              first
                | (go_simp; exact hK _ _ HC.out (Below.refl _ _) rfl)
                | (go_simp; refine (encode_any ⟨n.c.id, n.c.inc, q + 1⟩ _).mono ?_; rintro e w2 ⟨rfl, hb2⟩; exact hK _ _ (HC.out.trans (hb2.mono HC.out.size)) hb2 rfl)))
            exact AllOps.nil
          case hd =>
            intro us w2 hC hv
            have u19 : us 19 = .string (encode ⟨n.c.id, n.c.inc, q + 1⟩).1 := hv 19 (by decide)
            have u20 : us 20 = .int .i64 (encode ⟨n.c.id, n.c.inc, q + 1⟩).2 := hv 20 (by decide)
            simp only [setAll, V31S, List.setIfInBounds_toArray, List.set_cons_zero, List.set_cons_succ, u19, u20]
            have p2 := bsome hC m2
            have HC := Lib.hid hC
            clear hv hC u19 u20
            have HO3 := Lib.hid (own_below HO2.out HC.out)
            have HM3 := Lib.hid (HM2.out.below HC.out)
            have HTo3 := Lib.hid (HTo2.out.trans (Touch.of_below HC.out))
            have hsz3 := HTo3.out.size
            go_wp2_with (at_builtin; go_must (refine wpList_append_own_at _ rfl (.tmp 92) (.tmp 94) 48 rfl w.heap.size 9 i0 _ 1 16 Try.underlying48 hi0 hz0 hz1 hz2 rfl (by omega) _ k _ rfl (by exact HO3.out.alloc _) ⟨w2.heap.size, 0, none⟩ 1 1 [.string (encode ⟨n.c.id, n.c.inc, q + 1⟩).1] rfl rfl ?b1 ?b2 ?b3 ?b4 ?b5 ?_; (case b1 => exact news_at _ _ _ _ rfl); (case b2 => simp [Value.oneCell']); (case b3 => (simp only [maxLen]; omega)); (case b4 => omega); (case b5 => (simp; omega)); intro v9 w9 ho9 hg9 _ _); go_must (have hoA : (w2.alloc (.cells #[.string (encode ⟨n.c.id, n.c.inc, q + 1⟩).1] 9)).ownsRow w.heap.size 9 1 u7 k ((texts n k).map .string) := HO3.out.alloc _; have hm9 := (HM3.out.below ((Below.refl _ _).alloc (Nat.le_refl _) (.cells #[.string (encode ⟨n.c.id, n.c.inc, q + 1⟩).1] 9))).grown hoA hg9 (by decide); have ht9 := (HTo3.out.alloc (.cells #[.string (encode ⟨n.c.id, n.c.inc, q + 1⟩).1] 9)).grown hg9 (fun k hk => (hoA.lt k hk.symm).1); obtain ⟨_, _, _, _, r2, _⟩ := hm9.cells; simp only at r2); have Ho9 := Lib.hid ho9; have Hm9 := Lib.hid hm9; have Ht9 := Lib.hid ht9; clear ho9 hg9 hoA hm9 ht9)
            have hzw : IntKind.i64.wrap (z + n.c.every) = z + n.c.every := IntWalk.i64_in _ (by omega)
            go_roundw
            case rel =>
              refine ⟨k + 1, z + n.c.every, by go_num, by omega, by omega, ?_, by omega, ?_, ?_, Ht9.out⟩
              · show z + n.c.every = _
                have := Hz.out
                have h2 := Hdn.out k
                omega
              · have e : n.seq + ((k + 1 : Nat) : Int) = q + 1 := by have := Hq.out; omega
                show NodeAt w9 b vs { n with seq := n.seq + ((k + 1 : Nat) : Int) }
                rw [e]
                exact Hm9.out
              · show w9.ownsRow w.heap.size 9 1 v9 (k + 1) _
                rw [texts_succ, List.map_append, show n.seq + 1 + (k : Int) = q + 1 by have := Hq.out; omega]
                exact Ho9.out
            case measure => simp [intOf]; omega
        · have hkk : k = beats n t := by
            have := Hz.out
            rw [this] at hlt
            have hnk : ¬ k < beats n t := fun h => hlt ((Hiff.out k).2 h)
            omega
          subst hkk
          have hnt : IntKind.i64.wrap (n.now + t) = n.now + t := IntWalk.i64_in _ (by omega)
          have mf5 := MF.out 5
          have HM4 := Lib.hid (HM.out.putNow (n.now + t))
          have hs4 : w.heap.size ≤ (wr.setCell ⟨b, 5, none⟩ (.int .i64 (n.now + t))).heap.size := by simpa using HTo.out.size
          go_wp2_with (go_at_call 95; refine (HT.out _ ?b1).mono ?_; (case b1 => exact HM4.out); rintro e w5 ⟨⟨vn, rfl, hvn⟩, hn5, ht5⟩; have Hvn := Lib.hid hvn; have Hn5 := Lib.hid hn5; have Ht5 := Lib.hid ht5; clear hvn hn5 ht5)
          go_ret3
          unfold TickPost
          rw [Hr.out]
          refine ⟨⟨_, _, rfl, ?_, ?_⟩, Hn5.out, ?_⟩
          · show w5.ownsRow w.heap.size 9 1 u7 (texts n (beats n t)).length ((texts n (beats n t)).map .string)
            rw [show (texts n (beats n t)).length = beats n t by simp [texts]]
            exact own_typed (ownsRow_setCell_below (a := ⟨b, 5, none⟩) HO.out hbl _) fun k c _ hc => Ht5.out.block k (Array.getElem?_eq_some_iff.1 hc).1 (HM4.out.other hc (by decide) (by decide))
          · exact own_base Hvn.out hs4
          · exact ((HTo.out.setCell (a := ⟨b, 5, none⟩) (by rfl) (.int .i64 (n.now + t))).mono (fun k _ hk => .inl hk)).trans Ht5.out

end Go.Proofs.Ytmclalhjnjghnaa
