/- Contracts of told (where nobody is subscribed), hwkeep.nodeBegun and hwkeep.one. -/
import Derived.Test.YtmclalhjnjghnaaTick
import Derived.Test.YtmclalhjnjghnaaWatch
import Derived.Test.YtmclalhjnjghnaaStrs
namespace Go.Proofs.Ytmclalhjnjghnaa
open Go.RowKit Hw

theorem told_none {n : Hw.Node} (h : n.subs = []) : told n = (n, []) := by
  obtain ⟨c, now, seq, drops, peers, subs⟩ := n
  simp only at h
  subst h
  rfl

set_option maxRecDepth 100000 in
theorem told0_any (b : Nat) (vs : Value) (n : Hw.Node) (w : World) (h : NodeAt w b vs n) (hs : n.subs = []) : Calls Try.prog 95 #[.pointer (some ⟨b, 0, none⟩)] w (ToldPost b vs n w) := by
  have HN := Lib.hid h
  have hb := h
  obtain ⟨vp, -, -, ho⟩ := hb
  obtain ⟨A, c, -, -, -, -, -, -, -, -, -, c9, -, -, -⟩ := h.cells
  rw [hs] at ho
  obtain ⟨A9, d9, rfl, -⟩ := own_form ho
  have Hs := Lib.hid hs
  clear h ho hs
  go_enter Try.func95, Try.ntmps95
  go_wp2_with fail
  go_loopw [3, 4, 14] (fun v _ i wr => i = .int .i64 0 ∧ v = .slice none 0 0 ∧ Hid (wr = w)) (fun _ _ _ _ => 0)
  case atStart => exact ⟨rfl, rfl, rfl⟩
  case round =>
    obtain ⟨rfl, rfl, hw⟩ := hrel
    obtain rfl := hw.out
    go_wp2_with fail
    go_ret
    unfold ToldPost
    rw [told_none Hs.out]
    exact ⟨⟨_, rfl, World.ownsRow_nil _ _ _ _⟩, HN.out, Touch.refl _ _⟩

theorem watch_subs (n : Hw.Node) (id : ByteArray) (e : Int) : (watch n id e).1.subs = n.subs ∧ (watch n id e).1.c = n.c ∧ (watch n id e).1.now = n.now ∧ (watch n id e).1.seq = n.seq ∧ (watch n id e).1.drops = n.drops := by
  unfold watch
  split
  · exact ⟨rfl, rfl, rfl, rfl, rfl⟩
  · split <;> exact ⟨rfl, rfl, rfl, rfl, rfl⟩

theorem ticked_subs (n : Hw.Node) (t : Int) : (ticked n t).subs = n.subs := rfl

theorem tick0_any (b : Nat) (vs : Value) (n : Hw.Node) (t : Int) (w : World) (h : NodeAt w b vs n) (hok : NodeOk n) (hs : n.subs = []) : Calls Try.prog 31 #[.pointer (some ⟨b, 0, none⟩), .int .i64 t] w (TickPost b vs n t w) :=
  tick_any b vs n t w h hok fun w' h' => told0_any b vs _ w' h' hs

theorem tick_err0 {n : Hw.Node} {t : Int} (h1 : 1 ≤ t) (h2 : t ≤ 1073741824) (h3 : n.now + t ≤ 1073741824) (h4 : t / n.c.every < 64) (hs : n.subs = []) : tick n t = (ticked n t, texts n (beats n t), [], 0) := by
  unfold tick
  rw [if_neg (by omega), if_neg (by omega), told_none (n := ticked n t) hs]

def begunConf : Config := ⟨ByteArray.mk #[97], 0, 5, 3, 1⟩

set_option maxRecDepth 100000 in
set_option maxHeartbeats 1000000 in
theorem nodebegun_any (w : World) : Calls Try.prog 28 #[] w fun e w' => e = .returned (.bool true) ∧ Below w.heap.size w w' := by
  have hc : configCheck begunConf = 0 := by decide +kernel
  have hok : NodeOk (newNode begunConf) := by unfold NodeOk newNode begunConf; decide
  have hb : beats (newNode begunConf) 12 = 2 := by decide +kernel
  have ht : tick (newNode begunConf) 12 = (ticked (newNode begunConf) 12, texts (newNode begunConf) 2, [], 0) := by
    rw [tick_err0 (by decide) (by decide) (by decide) (by decide) rfl, hb]
  have Hok := Lib.hid hok
  have Ht := Lib.hid ht
  clear hok hb ht
  go_enter Try.func28, Try.ntmps28
  go_wp2_with (first
    | (go_at_call 93; refine (new_any begunConf _ hc).mono ?_; rintro e w1 ⟨⟨b, rfl, hb, hn⟩, hb1⟩; have Hn := Lib.hid hn; have Hb := Lib.hid hb; have Hb1 := Lib.hid hb1; clear hn hb hb1)
    | (go_at_call 31; refine (tick0_any b _ _ 12 _ Hn.out Hok.out rfl).mono ?_; rintro e w2 ⟨⟨vt, vn, rfl, ho1, ho2⟩, hn2, ht2⟩; rw [Ht.out] at ho1 hn2 ⊢; have Hn2 := Lib.hid hn2; have Ht2 := Lib.hid ht2; obtain ⟨A1, d1, rfl, -⟩ := own_form ho1; clear ho1 ho2 hn2 ht2)
    | (go_at_call 35; refine (now_any b _ _ _ Hn2.out).mono ?_; rintro e w3 ⟨rfl, rfl⟩)
    | (go_at_call 34; refine (seq_any b _ _ _ Hn2.out).mono ?_; rintro e w3 ⟨rfl, rfl⟩))
  go_ret
  refine ⟨ret_bool (by decide +kernel), Touch.below Hb1.out Ht2.out Hb1.out.size fun k hk => ?_⟩
  rintro (e | e)
  · have := Hb.out
    omega
  · simp [Value.ownBlock] at e

def nm (k : Nat) : ByteArray := match k with | 0 => ByteArray.mk #[98] | 1 => ByteArray.mk #[99] | _ => ByteArray.mk #[100]

/-- The node of 'one', that watches so many. -/
def ones (every least : Int) : Nat → Hw.Node
  | 0 => newNode ⟨ByteArray.mk #[97], 0, 1 + within every 50, 4, 1 + within least 20⟩
  | k + 1 => (watch (ones every least k) (nm k) (1 + within every 50)).1

theorem ones_same (every least : Int) : ∀ k, (ones every least k).subs = [] ∧ (ones every least k).c = ⟨ByteArray.mk #[97], 0, 1 + within every 50, 4, 1 + within least 20⟩ ∧ (ones every least k).now = 0 ∧ (ones every least k).seq = 0 ∧ (ones every least k).drops = 0
  | 0 => ⟨rfl, rfl, rfl, rfl, rfl⟩
  | k + 1 => by
    obtain ⟨h1, h2, h3, h4, h5⟩ := ones_same every least k
    obtain ⟨g1, g2, g3, g4, g5⟩ := watch_subs (ones every least k) (nm k) (1 + within every 50)
    exact ⟨g1.trans h1, g2.trans h2, g3.trans h3, g4.trans h4, g5.trans h5⟩

theorem ones_conf (every least : Int) : configCheck ⟨ByteArray.mk #[97], 0, 1 + within every 50, 4, 1 + within least 20⟩ = 0 := by
  have h1 := within_in (n := every) (k := 50) (by omega)
  have h2 := within_in (n := least) (k := 20) (by omega)
  unfold configCheck
  rw [if_neg (show ¬ idOk (ByteArray.mk #[97]) = false by decide +kernel), if_neg]
  simp only [valOk, Bool.and_eq_false_iff, decide_eq_false_iff_not]
  omega

set_option maxRecDepth 100000 in
set_option maxHeartbeats 1000000 in
theorem one_any (every least : Int) (w : World) : Calls Try.prog 29 #[.int .i64 every, .int .i64 least] w fun e w' => (∃ b, e = .returned (.pointer (some ⟨b, 0, none⟩)) ∧ w.heap.size ≤ b ∧ NodeAt w' b (.slice none 0 0) (ones every least 3)) ∧ Below w.heap.size w w' := by
  have h1 := within_in (n := every) (k := 50) (by omega)
  have h2 := within_in (n := least) (k := 20) (by omega)
  have hc := ones_conf every least
  have hw1 : IntKind.i64.wrap (1 + within every 50) = 1 + within every 50 := IntWalk.i64_in _ (by omega)
  have hw2 : IntKind.i64.wrap (1 + within least 20) = 1 + within least 20 := IntWalk.i64_in _ (by omega)
  have HC := Lib.hid hc
  clear hc
  go_enter Try.func29, Try.ntmps29
  go_wp2_with (first
    | (go_at_call 30; refine (within_any _ _ _ (by decide) (by decide)).mono ?_; rintro e w0 ⟨rfl, rfl⟩)
    | (go_at_call 93; refine (new_any ⟨ByteArray.mk #[97], 0, 1 + within every 50, 4, 1 + within least 20⟩ _ HC.out).mono ?_; rintro e w1 ⟨⟨b, rfl, hb, hn⟩, hb1⟩; have Hn := Lib.hid hn; have Hb := Lib.hid hb; have Hb1 := Lib.hid hb1; clear hn hb hb1)
    | fail)
  have hblt := Hn.out.lt
  go_loopw [8, 22] (fun _ i wr => ∃ k : Nat, k ≤ 3 ∧ i = .int .i64 k ∧ Hid (NodeAt wr b (.slice none 0 0) (ones every least k)) ∧ Hid (wr.heap[w1.heap.size]? = some (.cells #[.string (ByteArray.mk #[98]), .string (ByteArray.mk #[99]), .string (ByteArray.mk #[100])] 9 (0, 0))) ∧ Hid (Below w.heap.size w wr))
    (fun _ i _ => 3 - (intOf i).toNat)
  case atStart => exact ⟨0, by omega, rfl, Hn.out.below ((Below.refl _ _).alloc (Nat.le_refl _) _), heap_alloc_new w1 _, Hb1.out.alloc Hb1.out.size _⟩
  case round =>
    obtain ⟨k, hk, rfl, HN, HS, HB⟩ := hrel
    by_cases hlt : k < 3
    · have q : wr.cell? ⟨w1.heap.size, k, none⟩ = some (.string (nm k)) := by
        rw [cell_of_row _ _ _ _ _ _ HS.out]
        obtain rfl | rfl | rfl : k = 0 ∨ k = 1 ∨ k = 2 := by omega
        all_goals rfl
      have hk3 : (k : Int) < 3 := by omega
      have hk0 : (0 : Int) ≤ k := by omega
      have hkw : IntKind.i64.wrap ((k : Int) + 1) = (k : Int) + 1 := IntWalk.i64_in _ (by omega)
      go_wp2_with (first
        | (go_at_call 30; refine (within_any _ _ _ (by decide) (by decide)).mono ?_; rintro e w0 ⟨rfl, rfl⟩)
        | (go_at_call 61; refine (watch_any b _ (ones every least k) (nm k) (1 + within every 50) _ HN.out).mono ?_; rintro e w2 ⟨rfl, hn2, ht2⟩; have Hn2 := Lib.hid hn2; have Ht2 := Lib.hid ht2; clear hn2 ht2)
        | fail)
      go_roundw
      case rel =>
        refine ⟨k + 1, by omega, by go_num, Hn2.out, (Ht2.out.block _ (Array.getElem?_eq_some_iff.1 HS.out).1 ?_).trans HS.out, Touch.below HB.out Ht2.out HB.out.size fun q hq e => ?_⟩
        · intro e
          omega
        · have := Hb.out
          omega
      case measure => simp [intOf]; omega
    · have hk3 : k = 3 := by omega
      subst hk3
      go_wp2_with fail
      go_ret
      exact ⟨⟨b, rfl, Hb.out, HN.out⟩, HB.out⟩

end Go.Proofs.Ytmclalhjnjghnaa
