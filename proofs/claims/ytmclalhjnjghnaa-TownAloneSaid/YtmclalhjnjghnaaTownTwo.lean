/- Contracts of hwkeep's two and townBegun. -/
import Derived.Test.YtmclalhjnjghnaaTownLaw
namespace Go.Proofs.Ytmclalhjnjghnaa
open Go.RowKit Hw

def cfA (every least : Int) : Config := ⟨ByteArray.mk #[97], 0, 1 + within every 20, 4, 1 + within least 20⟩
def cfB (every least : Int) : Config := ⟨ByteArray.mk #[98], 0, 1 + within every 20, 4, 1 + within least 20⟩

theorem cf_ok {id : ByteArray} {e cap l : Int} (hid : idOk id = true) (h1 : 1 ≤ e) (h2 : e ≤ 16777216) (h3 : 1 ≤ cap) (h4 : cap ≤ 64) (h5 : 1 ≤ l) (h6 : l ≤ 16777216) : configCheck ⟨id, 0, e, cap, l⟩ = 0 := by
  unfold configCheck
  rw [if_neg (by rw [hid]; simp), if_neg]
  simp only [valOk, Bool.and_eq_false_iff, decide_eq_false_iff_not]
  omega

theorem conf_row (l : List Config) (w : World) (hl : l.length ≤ 5) (cur : Array Value) (hcur : cur = (confsCells l).toArray) : (w.alloc (.cells cur 62)).ownsRow 0 62 5 (.slice (some ⟨w.heap.size, 0, none⟩) l.length l.length) l.length (confsCells l) := by
  subst hcur
  refine ⟨confsCells_len l, .inr ⟨w.heap.size, l.length, _, rfl, Nat.zero_le _, heap_alloc_new w _, Nat.le_refl _, by simp only [maxLen]; omega, by simpa using confsCells_len l, ?_⟩⟩
  rw [← confsCells_len l]
  simp

theorem TownAt.base {B B' : Nat} {w : World} {t : Nat} {T : Hw.Town} (h : TownAt B' w t T) (hB : B ≤ B') : TownAt B w t T := by
  obtain ⟨va, vn, vd, vw, bs, h⟩ := h
  exact ⟨va, vn, vd, vw, bs, ⟨⟨Nat.le_trans hB h.base, h.blk, own_base h.all hB, own_base h.ptrs hB, own_base h.dead hB, own_base h.way hB, ⟨h.nodes.len, fun k p n hp hn => ⟨Nat.le_trans hB (h.nodes.here k p n hp hn).1, (h.nodes.here k p n hp hn).2⟩, h.nodes.ne⟩⟩, h.dlen, h.alen⟩⟩

theorem TStep.base {B B' : Nat} {w w' : World} (h : TStep B' w w') (hB : B ≤ B') : TStep B w w' := ⟨h.below.mono hB, h.maps⟩

/-- A tick that goes well. -/
theorem ttick_ok (B t : Nat) (T : Hw.Town) (tt : Int) (w : World) (h : TownAt B w t T) (hB : B ≤ w.heap.size) (hk : TownTk T tt) (hm : moreTo T tt T.nodes.length ≤ 1000) :
    Calls Try.prog 39 #[.pointer (some ⟨t, 0, none⟩), .int .i64 tt] w fun e w' => (∃ v, e = .returned (.tuple #[v, .int .i64 0]) ∧ w'.ownsRow w.heap.size 74 3 v (ttick T tt).2.length (notesCells (ttick T tt).2)) ∧ TownAt B w' t (ttick T tt).1 ∧ TStep B w w' := by
  refine (ttick_any B t T tt w h hB hk).mono ?_
  rintro e w' (⟨-, h1, h2, h3⟩ | ⟨h1, -⟩)
  · exact ⟨h1, h2, h3⟩
  · omega

theorem tc_two (every least : Int) : TC (cfA every least) (cfB every least) := by
  have h1 := within_in (n := every) (k := 20) (by omega)
  have h2 := within_in (n := least) (k := 20) (by omega)
  exact ⟨cf_ok (by decide +kernel) (by omega) (by omega) (by omega) (by omega) (by omega) (by omega), cf_ok (by decide +kernel) (by omega) (by omega) (by omega) (by omega) (by omega) (by omega), by show idOk (ByteArray.mk #[97]) = true; decide +kernel, by show idOk (ByteArray.mk #[98]) = true; decide +kernel, rfl, rfl, by show ByteArray.mk #[97] ≠ ByteArray.mk #[98]; decide +kernel⟩

def nodeA (every least : Int) : Hw.Node := ⟨cfA every least, 0, 0, 0, [addPeer (ByteArray.mk #[98]) 4 (1 + within every 20) 0], []⟩
def nodeB (every least : Int) : Hw.Node := ⟨cfB every least, 0, 0, 0, [addPeer (ByteArray.mk #[97]) 4 (1 + within every 20) 0], []⟩

theorem two_good (every least M : Int) (hM : 1 + within every 20 ≤ M) : TG (cfA every least) (cfB every least) 0 M (nodeA every least) (nodeB every least) [] ∧ newTown [cfA every least, cfB every least] = tw (cfA every least) (cfB every least) (nodeA every least) (nodeB every least) false [] := by
  have hc := tc_two every least
  have h1 := within_in (n := every) (k := 20) (by omega)
  obtain ⟨a1, a2⟩ := ng_watch hc.k0 hc.i1 hc.ne (E := 1 + within every 20) (M := M) (by omega) (by omega) hM
  obtain ⟨b1, b2⟩ := ng_watch hc.k1 hc.i0 (Ne.symm hc.ne) (E := 1 + within every 20) (M := M) (by omega) (by omega) hM
  refine ⟨⟨by rw [a2] at a1; exact a1, by rw [b2] at b1; exact b1, fun s hs => by simp at hs, ?_, ?_⟩, ?_⟩
  · show gateSeq (nodeA every least) (ByteArray.mk #[98]) ≤ 0
    unfold gateSeq nodeA addPeer
    simp [sq]
  · show gateSeq (nodeB every least) (ByteArray.mk #[97]) ≤ 0
    unfold gateSeq nodeB addPeer
    simp [sq]
  · show (⟨[cfA every least, cfB every least], [(watch (newNode (cfA every least)) (ByteArray.mk #[98]) (1 + within every 20)).1, (watch (newNode (cfB every least)) (ByteArray.mk #[97]) (1 + within every 20)).1], [false, false], []⟩ : Hw.Town) = _
    have a3 : (watch (newNode (cfA every least)) (ByteArray.mk #[98]) (1 + within every 20)).1 = nodeA every least := a2
    have b3 : (watch (newNode (cfB every least)) (ByteArray.mk #[97]) (1 + within every 20)).1 = nodeB every least := b2
    rw [a3, b3]
    rfl

set_option maxRecDepth 100000 in
set_option maxHeartbeats 1000000 in
theorem two_any (every least : Int) (w : World) : Calls Try.prog 55 #[.int .i64 every, .int .i64 least] w fun e w' => (∃ t, e = .returned (.pointer (some ⟨t, 0, none⟩)) ∧ TownAt w.heap.size w' t (tw (cfA every least) (cfB every least) (nodeA every least) (nodeB every least) false [])) ∧ Below w.heap.size w w' := by
  have h1 := within_in (n := every) (k := 20) (by omega)
  have h2 := within_in (n := least) (k := 20) (by omega)
  have hw1 : IntKind.i64.wrap (1 + within every 20) = 1 + within every 20 := IntWalk.i64_in _ (by omega)
  have hw2 : IntKind.i64.wrap (1 + within least 20) = 1 + within least 20 := IntWalk.i64_in _ (by omega)
  have HC := Lib.hid (tc_two every least)
  have hN := (two_good every least (1 + within every 20) (Int.le_refl _)).2
  have HN := Lib.hid hN
  clear hN
  go_enter Try.func55, Try.ntmps55
  go_wp2_with (first
    | (go_at_call 30; refine (within_any _ _ _ (by decide) (by decide)).mono ?_; rintro e w0 ⟨rfl, rfl⟩)
    | (go_at_call 38; refine (townnew_any _ _ [cfA every least, cfB every least] _ (conf_row [cfA every least, cfB every least] _ (by show 2 ≤ 5; omega) _ rfl) (by show 2 ≤ 5; omega) (by show 1 ≤ 2; omega) (by intro x hx; simp only [List.mem_cons, List.not_mem_nil, or_false] at hx; rcases hx with rfl | rfl; exact HC.out.k0; exact HC.out.k1) (by intro x hx; simp only [List.mem_cons, List.not_mem_nil, or_false] at hx; rcases hx with rfl | rfl; exact (show (ByteArray.mk #[97]).size ≤ 100 by decide); exact (show (ByteArray.mk #[98]).size ≤ 100 by decide)) (by simp only [List.pairwise_cons, List.mem_singleton, forall_eq, List.not_mem_nil, false_implies, implies_true, List.Pairwise.nil, and_self, and_true]; exact HC.out.ne)).mono ?_; rintro e w1 ⟨⟨t, rfl, ht⟩, hb⟩; rw [HN.out] at ht; have HT := Lib.hid ht; have HB := Lib.hid hb; clear ht hb)
    | fail)
  go_ret
  exact ⟨⟨_, rfl, HT.out.base (by simp)⟩, ((Below.refl w.heap.size w).alloc (Nat.le_refl _) _).trans (HB.out.mono (by simp))⟩

def bA : Config := ⟨ByteArray.mk #[97], 0, 5, 3, 1⟩
def bB : Config := ⟨ByteArray.mk #[98], 0, 7, 3, 1⟩

theorem tc_begun : TC bA bB := ⟨by decide +kernel, by decide +kernel, by decide +kernel, by decide +kernel, rfl, rfl, by decide +kernel⟩

def nbA : Hw.Node := ⟨bA, 0, 0, 0, [addPeer (ByteArray.mk #[98]) 3 7 0], []⟩
def nbB : Hw.Node := ⟨bB, 0, 0, 0, [addPeer (ByteArray.mk #[97]) 3 5 0], []⟩

theorem begun_good : TG bA bB 0 10 nbA nbB [] ∧ newTown [bA, bB] = tw bA bB nbA nbB false [] := by
  have hc := tc_begun
  obtain ⟨a1, a2⟩ := ng_watch hc.k0 hc.i1 hc.ne (E := 7) (M := 10) (by omega) (by omega) (by omega)
  obtain ⟨b1, b2⟩ := ng_watch hc.k1 hc.i0 (Ne.symm hc.ne) (E := 5) (M := 10) (by omega) (by omega) (by omega)
  refine ⟨⟨by rw [a2] at a1; exact a1, by rw [b2] at b1; exact b1, fun s hs => by simp at hs, by decide +kernel, by decide +kernel⟩, ?_⟩
  show (⟨[bA, bB], [(watch (newNode bA) (ByteArray.mk #[98]) 7).1, (watch (newNode bB) (ByteArray.mk #[97]) 5).1], [false, false], []⟩ : Hw.Town) = _
  have a3 : (watch (newNode bA) (ByteArray.mk #[98]) 7).1 = nbA := a2
  have b3 : (watch (newNode bB) (ByteArray.mk #[97]) 5).1 = nbB := b2
  rw [a3, b3]
  rfl

theorem begun_tk : TownTk (tw bA bB nbA nbB false []) 10 ∧ moreTo (tw bA bB nbA nbB false []) 10 2 = 3 ∧ (ttick (tw bA bB nbA nbB false []) 10).1.way.length = 3 := by
  have h := begun_good.1.tk false (t := 10) (by decide) (by omega) (by omega) (by omega) (by decide) (by decide)
  have h2 : moreTo (tw bA bB nbA nbB false []) 10 2 = 3 := by decide +kernel
  have h3 := (tickTo_in h 2 (Nat.le_refl _)).1
  refine ⟨h, h2, ?_⟩
  rw [h2] at h3
  show (tickTo _ 10 2).1.way.length = 3
  omega

set_option maxRecDepth 100000 in
set_option maxHeartbeats 1000000 in
theorem begun_any (w : World) : Calls Try.prog 37 #[] w fun e w' => e = .returned (.bool true) ∧ Below w.heap.size w w' := by
  have HC := Lib.hid tc_begun
  have HN := Lib.hid begun_good.2
  have HK := Lib.hid begun_tk
  go_enter Try.func37, Try.ntmps37
  go_wp2_with (first
    | (go_at_call 38; refine (townnew_any _ _ [bA, bB] _ (conf_row [bA, bB] _ (by decide) _ rfl) (by decide) (by decide) (by intro x hx; simp only [List.mem_cons, List.not_mem_nil, or_false] at hx; rcases hx with rfl | rfl; exact HC.out.k0; exact HC.out.k1) (by intro x hx; simp only [List.mem_cons, List.not_mem_nil, or_false] at hx; rcases hx with rfl | rfl; exact (by decide : (ByteArray.mk #[97]).size ≤ 100); exact (by decide : (ByteArray.mk #[98]).size ≤ 100)) (by simp only [List.pairwise_cons, List.mem_singleton, forall_eq, List.not_mem_nil, false_implies, implies_true, List.Pairwise.nil, and_self, and_true]; exact HC.out.ne)).mono ?_; rintro e w1 ⟨⟨t, rfl, ht⟩, hb⟩; rw [HN.out] at ht; have HT := Lib.hid (ht.base (B := w.heap.size) (by simp)); have HB := Lib.hid (((Below.refl w.heap.size w).alloc (Nat.le_refl _) (.cells (confsCells [bA, bB]).toArray 62)).trans (hb.mono (by simp))); clear ht hb)
    | (go_at_call 39; refine (ttick_ok w.heap.size t (tw bA bB nbA nbB false []) 10 _ HT.out HB.out.size HK.out.1 (by show moreTo _ 10 2 ≤ 1000; rw [HK.out.2.1]; omega)).mono ?_; rintro e w2 ⟨⟨v, rfl, -⟩, ht, hs⟩; have HT2 := Lib.hid ht; have HB2 := Lib.hid (HB.out.trans hs.below); clear ht hs)
    | (go_at_call 42; refine (way_any w.heap.size t _ _ HT2.out (by rw [HK.out.2.2]; omega)).mono ?_; rintro e w3 ⟨⟨v3, rfl, ho⟩, hb3⟩; rw [HK.out.2.2] at ho; obtain ⟨A3, c3, rfl, -⟩ := own_form ho; have HB3 := Lib.hid (HB2.out.trans (hb3.mono HB2.out.size)); clear ho hb3)
    | fail)
  go_ret
  exact ⟨rfl, HB3.out⟩

end Go.Proofs.Ytmclalhjnjghnaa
