/- The walk of hwkeep.TownAlone. -/
import Derived.Test.YtmclalhjnjghnaaTownOps
import Derived.Test.YtmclalhjnjghnaaLater
import Derived.Deep.RegionHeld3
namespace Go.Proofs.Ytmclalhjnjghnaa
open Go.RowKit Hw

/-- A town of one. -/
def tone (c : Config) (n : Hw.Node) (W : List ByteArray) : Hw.Town := ⟨[c], [n], [false], W⟩

theorem one_good {c : Config} (hc : configCheck c = 0) (M : Int) : NG c [] 0 M (newNode c) := by
  unfold configCheck at hc
  split at hc
  · cases hc
  · split at hc
    · cases hc
    · rename_i h1 h2
      have hv : valOk c.every = true ∧ valOk c.least = true ∧ ¬ (c.every < 1 ∨ c.cap < 1 ∨ 64 < c.cap ∨ c.least < 1) := by
        refine ⟨?_, ?_, ?_⟩
        · cases h : valOk c.every with
          | true => rfl
          | false => exact absurd h (by intro h; exact h2 (by simp [h]))
        · cases h : valOk c.least with
          | true => rfl
          | false => exact absurd h (by intro h; exact h2 (by simp [h]))
        · intro h
          rcases h with h | h | h | h <;> exact h2 (by simp [h])
      obtain ⟨v1, v2, v3⟩ := hv
      have u1 : c.every ≤ 16777216 := by unfold valOk at v1; simp at v1; omega
      have u2 : c.least ≤ 16777216 := by unfold valOk at v2; simp at v2; omega
      exact ⟨⟨⟨by show 1 ≤ c.every; omega, u1, Int.le_refl _, by show (0 : Int) ≤ 1073741824; omega, by show (0 : Int) = 0 / c.every; simp, Int.le_refl _, by show (0 : Int) ≤ 1073741824; omega, by show peersCheck [] = 0; decide +kernel, (fun p hp => by cases hp), (fun p hp => by cases hp), by show 1 ≤ c.least; omega, u2, rfl⟩, ⟨by show 0 ≤ 8; omega, (fun s hs => by cases hs), (fun s hs => by cases hs), List.Pairwise.nil⟩, (fun s hs => by cases hs)⟩, (fun p hp => by cases hp), rfl, rfl, Int.le_refl _, (fun p hp => by cases hp)⟩

structure OneG (c : Config) (N : Int) (n : Hw.Node) (W : List ByteArray) : Prop where
  ng : NG c [] N N n
  now : n.now = N
  len : (W.length : Int) = N / c.every

theorem one_tick {c : Config} {N : Int} {n : Hw.Node} {W : List ByteArray} (h : OneG c N n W) {t : Int} (t1 : 1 ≤ t) (t2 : t ≤ 30) (hN : N + t ≤ 900) :
    TownTk (tone c n W) t ∧ moreTo (tone c n W) t 1 ≤ 1000 ∧ ttick (tone c n W) t = (tone c (ticked n t) (W ++ texts n (beats n t)), []) ∧ OneG c (N + t) (ticked n t) (W ++ texts n (beats n t)) ∧ W.length ≤ 900 := by
  have he := h.ng.good.inv.e1
  have hc := h.ng.c
  have n1 := h.ng.good.inv.n1
  have hnow := h.now
  rw [hc] at he
  have hf : t / c.every < 64 := few_in (by omega) he (by omega)
  obtain ⟨hk, e, hg, -⟩ := h.ng.ticks (t := t) t1 (by omega) (by omega) hf
  obtain ⟨m1, m2, m3, m4⟩ := more_in hk t1
  have hl := h.len
  have hle := Int.ediv_le_self c.every (show 0 ≤ N by omega)
  have hle2 := Int.ediv_le_self c.every (show 0 ≤ N + t by omega)
  have hmo : moreOf n t = (N + t) / c.every - N / c.every := by unfold moreOf; rw [hnow, hc]
  have htk : TownTk (tone c n W) t := by
    refine ⟨t1, by omega, by show 1 ≤ 5; omega, by show W.length ≤ 1000; omega, fun k c' n' hc' hn' => ?_, fun k n' hn' _ => ?_⟩
    · rcases k with _ | k
      · injection hc' with hc'
        injection hn' with hn'
        rw [← hc', ← hn', hc]
      · cases hn'
    · rcases k with _ | k
      · injection hn' with hn'
        rw [← hn']
        exact hk
      · cases hn'
  refine ⟨htk, ?_, ?_, ⟨⟨hg.good, hg.inc0, hg.c, hg.subs, hg.now, fun p hp x hx => ?_⟩, by show n.now + t = _; omega, ?_⟩, by omega⟩
  · show (W.length : Int) + moreOf n t ≤ 1000
    omega
  · show ({ (tone c n W) with nodes := [(tick n t).1], way := W ++ (tick n t).2.1 }, [] ++ (tick n t).2.2.1) = _
    rw [e]
    rfl
  · have := h.ng.vals p hp x hx
    omega
  · rw [List.length_append, m4, Int.natCast_add, m3]
    omega

theorem to_level {B t : Nat} {c : Config} {n : Hw.Node} {W : List ByteArray} {w : World} (h : TownAt B w t (tone c n W)) (hlv : NodeLv n) (id : ByteArray) : Calls Try.prog 40 #[.pointer (some ⟨t, 0, none⟩), .int .i64 0, .string id] w fun e w' => e = .returned (.tuple #[.int .i64 (level n id).1, .int .i64 (level n id).2]) ∧ Below w.heap.size w w' :=
  tlevel_any B t _ 0 0 id w h rfl (by show 0 < 1; omega) rfl hlv

theorem to_join {B t : Nat} {c : Config} {n : Hw.Node} {W : List ByteArray} {w : World} (h : TownAt B w t (tone c n W)) (hlv : NodeLv n) (h8 : n.subs.length ≤ 8) (id : ByteArray) (theta : Int) (hj : njoin n id theta = (n, [], 4)) :
    Calls Try.prog 41 #[.pointer (some ⟨t, 0, none⟩), .int .i64 0, .string id, .int .i64 theta] w fun e w' => (∃ A c', e = .returned (.tuple #[.slice A 0 c', .int .i64 4])) ∧ TownAt B w' t (tone c n W) ∧ TStep B w w' := by
  refine (tjoin_any B t _ 0 0 id theta w h rfl (by show 0 < 1; omega) rfl hlv h8).mono ?_
  rintro e w' ⟨⟨v, rfl, ho⟩, ht, hs⟩
  have hj' : njoin ((tone c n W).nodes[0]'(by show 0 < 1; omega)) id theta = (n, [], 4) := hj
  rw [hj'] at ho ht ⊢
  obtain ⟨A, c', rfl⟩ := notes_none ho rfl
  exact ⟨⟨A, c', rfl⟩, ht, hs⟩

set_option maxRecDepth 100000 in
set_option maxHeartbeats 2000000 in
theorem alone_any (every : Int) (A3 : Option Addr) (cc3 : Nat) (T0 : List Int) (w : World) (hT : Ints w A3 T0) (hcc3 : T0.length ≤ cc3) (hl3 : T0.length ≤ 17592186044416) :
    Calls Try.prog 5 #[.int .i64 every, .slice A3 T0.length cc3] w fun e w' => e = .returned (.bool true) ∧ Below w.heap.size w w' := by
  have HT0 := Lib.hid hT
  have hE := within_in (n := every) (k := 50) (by omega)
  have hEw : IntKind.i64.wrap (1 + within every 50) = 1 + within every 50 := IntWalk.i64_in _ (by omega)
  obtain ⟨E, hEe⟩ : ∃ E, 1 + within every 50 = E := ⟨_, rfl⟩
  have hc : configCheck ⟨ByteArray.mk #[97], 0, E, 2, 1⟩ = 0 := cf_ok (by decide +kernel) (by omega) (by omega) (by omega) (by omega) (by omega) (by omega)
  have HC := Lib.hid hc
  have HG0 := Lib.hid (one_good hc 0)
  have e1 : 1 ≤ E := by omega
  have hE0 : ¬ E = 0 := by omega
  clear hT hc
  go_enter Try.func5, Try.ntmps5
  go_wp2_with (first
    | (go_at_call 37; refine (begun_any _).mono ?_; rintro e w1 ⟨rfl, hb1⟩; have HB1 := Lib.hid hb1; clear hb1)
    | (go_at_call 30; refine (within_any _ _ _ (by decide) (by decide)).mono ?_; rintro e w4 ⟨rfl, rfl⟩)
    | (go_at_call 38; refine (townnew_any _ _ [⟨ByteArray.mk #[97], 0, E, 2, 1⟩] _ (conf_row [⟨ByteArray.mk #[97], 0, E, 2, 1⟩] _ (by show 1 ≤ 5; omega) _ rfl) (by show 1 ≤ 5; omega) (by show 1 ≤ 1; omega) (by intro x hx; rw [List.mem_singleton] at hx; subst hx; exact HC.out) (by intro x hx; rw [List.mem_singleton] at hx; subst hx; exact (show (ByteArray.mk #[97]).size ≤ 100 by decide)) (List.pairwise_singleton _ _)).mono ?_; rintro e w2 ⟨⟨t, rfl, ht⟩, hb⟩; have HT := Lib.hid (ht.base (B := w.heap.size) (Nat.le_trans HB1.out.size (by simp))); have HB := Lib.hid (HB1.out.trans ((((Below.refl _ _).alloc (Nat.le_refl _) _).trans (hb.mono (by simp))).mono HB1.out.size)); clear ht hb)
    | fail)
  rw [show min (T0.length : Int) 30 = ((T0.take 30).length : Int) from take_min T0 30, Int.toNat_natCast, Int.max_eq_left (by omega)]
  have hM : (T0.take 30).length ≤ 30 := by rw [List.length_take]; omega
  have hMc : (T0.take 30).length ≤ cc3 := by rw [List.length_take]; omega
  have HM := Lib.hid (HT0.out.take 30)
  generalize T0.take 30 = M at HM hM hMc ⊢
  obtain ⟨cf, hcf⟩ : ∃ cf : Config, (⟨ByteArray.mk #[97], 0, E, 2, 1⟩ : Config) = cf := ⟨_, rfl⟩
  have hce : cf.every = E := by rw [← hcf]
  have HS0 := Lib.hid (show ∃ n W, TownAt w.heap.size w2 t (tone cf n W) ∧ OneG cf 0 n W from ⟨newNode cf, [], by rw [← hcf]; exact HT.out, by rw [← hcf]; exact HG0.out, rfl, by simp⟩)
  have HCe := Lib.hid hce
  clear hcf hce HT HG0 HC
  go_loopw [7, 38] (fun s i wr => ∃ k : Nat, k ≤ M.length ∧ i = .int .i64 k ∧ ∃ N : Int, s = .int .i64 N ∧ 0 ≤ N ∧ N ≤ 30 * k ∧ Hid (Below w.heap.size w wr) ∧ Hid (∃ n W, TownAt w.heap.size wr t (tone cf n W) ∧ OneG cf N n W)) (fun _ i _ => M.length - (intOf i).toNat)
  case atStart => exact ⟨0, by omega, rfl, 0, rfl, by omega, by omega, HB.out, HS0.out⟩
  case round =>
    obtain ⟨k, hk, rfl, N, rfl, hN0, hN, HBk, HSk⟩ := hrel
    obtain ⟨n, W, ht, ho⟩ := HSk.out
    have HTk := Lib.hid ht
    have HOk := Lib.hid ho
    clear ht ho
    by_cases hlt : k < M.length
    · obtain ⟨bA, oA, rfl, hcells⟩ := (HM.out.below HBk.out) (by omega)
      have u0 := hcells k hlt
      have hkM : (k : Int) < (M.length : Int) := by omega
      have hk0 : (0 : Int) ≤ (k : Int) := by omega
      have hkw : IntKind.i64.wrap ((k : Int) + 1) = (k : Int) + 1 := IntWalk.i64_in _ (by omega)
      generalize M.getD k 0 = x at u0
      have hx := within_in (n := x) (k := 30) (by omega)
      have hxw : IntKind.i64.wrap (1 + within x 30) = 1 + within x 30 := IntWalk.i64_in _ (by omega)
      have hbl := blt u0
      obtain ⟨tt, hte⟩ : ∃ tt, 1 + within x 30 = tt := ⟨_, rfl⟩
      have hNw : IntKind.i64.wrap (N + tt) = N + tt := IntWalk.i64_in _ (by omega)
      obtain ⟨k1, k2, k3, k4, -⟩ := one_tick HOk.out (t := tt) (by omega) (by omega) (by omega)
      have K1 := Lib.hid k1
      have K2 := Lib.hid k2
      have K3 := Lib.hid k3
      have K4 := Lib.hid k4
      clear hcells k1 k2 k3 k4
      go_wp2_with (first
        | (go_at_call 30; refine (within_any _ _ _ (by decide) (by decide)).mono ?_; rintro e w4 ⟨rfl, rfl⟩)
        | (go_at_call 39; refine (ttick_ok w.heap.size t (tone cf n W) tt _ HTk.out HBk.out.size K1.out K2.out).mono ?_; rintro e w5 ⟨⟨v, rfl, ho⟩, ht, hs⟩; rw [K3.out] at ht ho; obtain ⟨A5, c5, rfl⟩ := notes_none ho rfl; have HT5 := Lib.hid ht; have HB5 := Lib.hid (HBk.out.trans hs.below); clear ht hs ho)
        | fail)
      go_roundw
      case rel => exact ⟨k + 1, by omega, by go_num, N + tt, rfl, by omega, by omega, HB5.out, _, _, HT5.out, K4.out⟩
      case measure => simp [intOf]; omega
    · have hkM : ¬ (k : Int) < (M.length : Int) := by omega
      have hlv := (HOk.out.ng.good.inv.find_none (id := ByteArray.mk #[98]) (by simp)).2
      have hlva := (HOk.out.ng.good.inv.find_none (id := ByteArray.mk #[97]) (by simp)).2
      have hj : njoin n (ByteArray.mk #[97]) 1 = (n, [], 4) := by
        unfold njoin
        rw [if_neg (by omega), hlva, if_pos (by decide)]
      have hwn : withNode (tone cf n W) 0 n = tone cf n W := rfl
      have hlen := HOk.out.len
      rw [HCe.out] at hlen
      have hle := Int.ediv_le_self E hN0
      have htd : N.tdiv E = N / E := Int.tdiv_eq_ediv_of_nonneg hN0
      have hW : W.length ≤ 1000 := by omega
      have HLv := Lib.hid hlv
      have HJ := Lib.hid hj
      have hs8 : n.subs.length ≤ 8 := by rw [HOk.out.ng.subs]; simp
      have HLen := Lib.hid hlen
      clear hlv hlva hj hlen
      go_wp2_with (first
        | (go_at_call 40; refine (to_level HTk.out HOk.out.ng.good.inv.lv _).mono ?_; rintro e w5 ⟨rfl, hb5⟩; rw [HLv.out]; have HT5 := Lib.hid (HTk.out.below hb5); have HB5 := Lib.hid (HBk.out.trans (hb5.mono HBk.out.size)); clear hb5)
        | (go_at_call 41; refine (to_join HT5.out HOk.out.ng.good.inv.lv hs8 _ _ HJ.out).mono ?_; rintro e w6 ⟨⟨A6, c6, rfl⟩, ht6, hs6⟩; have HT6 := Lib.hid ht6; have HB6 := Lib.hid (HB5.out.trans hs6.below); clear ht6 hs6)
        | fail)
      have hge := Int.ediv_nonneg hN0 (show 0 ≤ E by omega)
      have hwE : IntKind.i64.wrap (N / E) = N / E := IntWalk.i64_in _ (by omega)
      have hlw : (W.length : Int) = N / E := HLen.out
      go_region_held3 (fun _ => True) (first | go_keep | trivial)
        (first | (go_at_call 42; refine (way_any w.heap.size t (tone cf n W) _ (HT6.out.below (below_drewN (Below.refl _ _) 1)) (by show W.length ≤ 100000; omega)).mono ?_; rintro e w7 ⟨⟨v7, rfl, ho7⟩, hb7⟩; obtain ⟨A7, c7, rfl, -⟩ := own_form (show World.ownsRow _ _ _ _ _ W.length _ from ho7); have HB7 := Lib.hid ((below_drewN HB6.out 1).trans (hb7.mono HB6.out.size)); clear hb7 ho7))
      go_wp2_with fail
      go_ret
      exact ⟨rfl, HB7.out⟩

end Go.Proofs.Ytmclalhjnjghnaa
