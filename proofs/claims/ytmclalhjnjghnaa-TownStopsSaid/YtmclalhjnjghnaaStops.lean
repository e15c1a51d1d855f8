/- The walk of hwkeep.TownStops. -/
import Derived.Test.YtmclalhjnjghnaaTownOps
namespace Go.Proofs.Ytmclalhjnjghnaa
open Go.RowKit Hw

/-- How many texts are under way, by the town's cells. -/
def wayLen (w : World) (t : Nat) : Nat := match w.cell? ⟨t, 3, none⟩ with
  | some (.slice _ n _) => n
  | _ => 0

theorem wayLen_of {B t : Nat} {T : Hw.Town} {w : World} (h : TownAt B w t T) : wayLen w t = T.way.length := by
  obtain ⟨va, vn, vd, vw, bs, h⟩ := h
  obtain ⟨A, c, rfl, -⟩ := own_form h.way
  unfold wayLen
  rw [h.cells.2.2.2.1]

/-- A town of two whose second one is stopped, and whose first one waited so long. -/
def StAt (c0 c1 : Config) (B t : Nat) (b : Hw.Node) (r : Nat) (w : World) : Prop := ∃ a W, TownAt B w t (tw c0 c1 a b true W) ∧ TG c0 c1 (570 + 1000 * r) 590 a b W ∧ W.length ≤ 1000 ∧ ∀ p ∈ a.peers, p.last + 60 * r ≤ a.now

theorem StAt.below {c0 c1 : Config} {B t : Nat} {b : Hw.Node} {r : Nat} {w w' : World} (h : StAt c0 c1 B t b r w) (hb : Below w.heap.size w w') : StAt c0 c1 B t b r w' := by
  obtain ⟨a, W, h1, h2⟩ := h
  exact ⟨a, W, h1.below hb, h2⟩

theorem st_high {c0 c1 : Config} {N : Int} {a b : Hw.Node} {W : List ByteArray} (hg : TG c0 c1 N 590 a b W) (hl : c0.least ≤ 20) (hp : ∀ p ∈ a.peers, p.last + 60 * 399 ≤ a.now) {theta : Int} (h1 : 1 ≤ theta) (h2 : theta ≤ 10) : theta ≤ (level a c1.id).1 := by
  obtain ⟨p, hm, -, -, hlv⟩ := hg.na.good.inv.find (id := c1.id) (by simp)
  have hla := hp p hm
  have hp0 := (hg.na.good.inv.peer hm).lo
  have hn2 := hg.na.good.inv.n2
  have hc := hg.na.c
  have hi := hg.na.good.inv
  have e : theta = ((theta.toNat : Nat) : Int) := by omega
  rw [hlv, e]
  refine level_high (M := 590) (K := 32) (hi.peer hm).win hi.l1 hi.l2 (hi.win p hm).2 (by rw [hc]; omega) (hg.na.vals p hm) (by omega) (by omega) (by omega) ?_
  have : theta.toNat ≤ 10 := by omega
  have h3 : 2 ^ theta.toNat ≤ 2 ^ 10 := Nat.pow_le_pow_right (by omega) this
  have : ((2 ^ 10 : Nat) : Int) = 1024 := by decide
  omega

theorem wait_in {e : Int} (h1 : 1 ≤ e) : 60 ≤ min 1000 (60 * e) ∧ min 1000 (60 * e) ≤ 1000 ∧ min 1000 (60 * e) / e < 64 := by
  refine ⟨by omega, by omega, Int.ediv_lt_of_lt_mul (by omega) (by omega)⟩

set_option maxRecDepth 100000 in
set_option maxHeartbeats 4000000 in
theorem stops_any (every least theta : Int) (A : Option Addr) (cc : Nat) (L : List (List Int)) (w : World) (hL : ListsR w A L) (hcc : L.length ≤ cc) (hl : L.length ≤ 17592186044416) :
    Calls Try.prog 17 #[.int .i64 every, .int .i64 least, .int .i64 theta, .slice A L.length cc] w fun e w' => e = .returned (.bool true) ∧ Below w.heap.size w w' := by
  have HL := Lib.hid hL
  have HC := Lib.hid (tc_two every least)
  have hE := within_in (n := every) (k := 20) (by omega)
  have hLe := within_in (n := least) (k := 20) (by omega)
  have hTh := within_in (n := theta) (k := 10) (by omega)
  have hev0 : (cfA every least).every = 1 + within every 20 := rfl
  have hev1 : (cfB every least).every = 1 + within every 20 := rfl
  have hle0 : (cfA every least).least = 1 + within least 20 := rfl
  have hid0 : (cfA every least).id = ByteArray.mk #[97] := rfl
  have hid1 : (cfB every least).id = ByteArray.mk #[98] := rfl
  have hthw : IntKind.i64.wrap (1 + within theta 10) = 1 + within theta 10 := IntWalk.i64_in _ (by omega)
  have hG0 := (two_good every least 590 (by omega)).1
  have HG0 := Lib.hid hG0
  clear hL hG0
  go_enter Try.func17, Try.ntmps17
  go_wp2_with (first
    | (go_at_call 37; refine (begun_any _).mono ?_; rintro e w1 ⟨rfl, hb1⟩; have HB1 := Lib.hid hb1; clear hb1)
    | (go_at_call 55; refine (two_any every least _).mono ?_; rintro e w2 ⟨⟨t, rfl, ht⟩, hb2⟩; have HB2 := Lib.hid (HB1.out.trans (hb2.mono HB1.out.size)); have HT2 := Lib.hid (ht.base HB1.out.size); clear ht hb2)
    | fail)
  rw [show min (L.length : Int) 30 = ((L.take 30).length : Int) from take_min L 30, Int.toNat_natCast, Int.max_eq_left (by omega)]
  have hM : (L.take 30).length ≤ 30 := by rw [List.length_take]; omega
  have hMc : (L.take 30).length ≤ cc := by rw [List.length_take]; omega
  have HM := Lib.hid (HL.out.take 30)
  generalize L.take 30 = M at HM hM hMc ⊢
  have HS0 := Lib.hid (show TwAt (cfA every least) (cfB every least) w.heap.size t 0 590 false w2 from ⟨_, _, _, HT2.out, HG0.out, by simp⟩)
  obtain ⟨c0, hc0⟩ : ∃ c0, cfA every least = c0 := ⟨_, rfl⟩
  obtain ⟨c1, hc1⟩ : ∃ c1, cfB every least = c1 := ⟨_, rfl⟩
  rw [hc0] at HC HS0 hev0 hid0 hle0
  rw [hc1] at HC HS0 hev1 hid1
  have hle : c0.least ≤ 20 := by omega
  clear hc0 hc1 HT2 HG0 hle0
  have Hev0 := Lib.hid hev0
  have Hev1 := Lib.hid hev1
  have Hid0 := Lib.hid hid0
  have Hid1 := Lib.hid hid1
  clear hev0 hev1 hid0 hid1
  go_loopw [33] (fun i wr => ∃ k : Nat, k ≤ M.length ∧ i = .int .i64 k ∧ Hid (Below w.heap.size w wr) ∧ Hid (TwAt c0 c1 w.heap.size t (19 * k) 590 false wr)) (fun i _ => M.length - (intOf i).toNat)
  case atStart => exact ⟨0, by omega, rfl, HB2.out, HS0.out⟩
  case round =>
    obtain ⟨k, hk, rfl, HB, HS⟩ := hrel
    obtain ⟨a, b, W, ht, hg, hW⟩ := HS.out
    have HT := Lib.hid ht
    have HG := Lib.hid hg
    have hN : (19 * (k : Int)) ≤ 590 := by omega
    clear ht hg
    by_cases hlt : k < M.length
    · obtain ⟨A0, off, rfl, hc⟩ := (HM.out.below HB.out) (by omega)
      obtain ⟨A', c', h1, h2, h3⟩ := hc k hlt
      have hkM : (k : Int) < (M.length : Int) := by omega
      have hk0 : (0 : Int) ≤ (k : Int) := by omega
      have hkw : IntKind.i64.wrap ((k : Int) + 1) = (k : Int) + 1 := IntWalk.i64_in _ (by omega)
      generalize M[k] = c at h1 h2 h3
      have hA0 := blt h1
      clear hc
      by_cases hshort : c.length < 2
      · have hsh : (c.length : Int) < 2 := by omega
        have hnx := HG.out.mono (show 19 * (k : Int) ≤ 19 * ((k + 1 : Nat) : Int) by omega)
        have HNx := Lib.hid hnx
        clear h2 hnx
        go_wp2_with fail
        go_roundw
        case rel => exact ⟨k + 1, by omega, by go_num, HB.out, a, b, W, HT.out, HNx.out, hW⟩
        case measure => simp [intOf]; omega
      · have hsh : ¬ (c.length : Int) < 2 := by omega
        obtain ⟨bA, oA, rfl, hcells⟩ := h2 (by omega)
        have u0 := hcells 0 (by omega)
        have u1 := hcells 1 (by omega)
        rw [Nat.add_zero] at u0
        have hbA := blt u0
        have hb2' := fun (w' : World) (hb : Below wr.heap.size wr w') => bsome hb u1
        have HU1 := Lib.hid hb2'
        have hc0l : (0 : Int) < (c.length : Int) := by omega
        have hc1l : (1 : Int) < (c.length : Int) := by omega
        generalize c.getD 0 0 = x0 at u0
        generalize c.getD 1 0 = x1 at u1 HU1
        have hr1 := within_in (n := x1) (k := 19) (by omega)
        have hrw : IntKind.i64.wrap (1 + within x1 19) = 1 + within x1 19 := IntWalk.i64_in _ (by omega)
        clear hcells hb2'
        have hm := within_in (n := x0) (k := 2) (by omega)
        obtain ⟨m, hme⟩ : ∃ m, within x0 2 = m := ⟨_, rfl⟩
        rw [hme] at hm
        have HMe := Lib.hid hme
        clear hme
        have hcases : m = 0 ∨ (m = 1 ∧ W.length = 0) ∨ (m = 1 ∧ 1 ≤ W.length) := by omega
        clear hm
        rcases hcases with rfl | ⟨rfl, hW0⟩ | ⟨rfl, hW1⟩
        · go_wp2_with (first
            | (go_at_call 30; (with_reducible refine (within_any _ 2 _ (by decide) (by decide)).mono ?_); rintro e w4 ⟨rfl, rfl⟩; rw [HMe.out])
            | (go_at_call 30; refine (within_any _ _ _ (by decide) (by decide)).mono ?_; rintro e w4 ⟨rfl, rfl⟩)
            | (go_at_call 39; refine (tw_tick HC.out HT.out HB.out.size HG.out hW (by omega) (by omega) (by omega) (few_in (by omega) (by rw [Hev0.out]; omega) (by omega)) (few_in (by omega) (by rw [Hev1.out]; omega) (by omega))).mono ?_; rintro e w5 ⟨A5, c5, ee, rfl, hs5, hcase⟩; have HCase := Lib.hid hcase; have HB5 := Lib.hid (HB.out.trans hs5.below); clear hcase hs5)
            | fail)
          have hnx : TwAt c0 c1 w.heap.size t (19 * ((k + 1 : Nat) : Int)) 590 false w5 := by
            rcases HCase.out with ⟨-, ht, hg, hw⟩ | ⟨-, ht, -⟩
            · exact ⟨_, _, _, ht, hg.mono (by omega), hw⟩
            · exact ⟨a, b, W, ht, HG.out.mono (by omega), hW⟩
          have HNx := Lib.hid hnx
          clear hnx
          go_roundw
          case rel => exact ⟨k + 1, by omega, by go_num, HB5.out, HNx.out⟩
          case measure => simp [intOf]; omega
        · go_wp2_with (first
            | (go_at_call 30; refine (within_any _ _ _ (by decide) (by decide)).mono ?_; rintro e w4 ⟨rfl, rfl⟩; rw [HMe.out])
            | (go_at_call 42; refine (tw_way HT.out hW).mono ?_; rintro e w3 ⟨⟨A3, c3, rfl, -⟩, hb3⟩; rw [hW0]; have HT3 := Lib.hid (HT.out.below hb3); have HB3 := Lib.hid (HB.out.trans (hb3.mono HB.out.size)); clear hb3)
            | fail)
          go_roundw
          case rel => exact ⟨k + 1, by omega, by go_num, HB3.out, a, b, W, HT3.out, HG.out.mono (by omega), hW⟩
          case measure => simp [intOf]; omega
        · obtain ⟨hq0, hq1⟩ := within_in (n := x1) (k := (W.length : Int)) (by omega)
          obtain ⟨q, hqe⟩ := Int.eq_ofNat_of_zero_le hq0
          rw [hqe] at hq1
          have HQe := Lib.hid hqe
          have hql : q < W.length := by omega
          have hwz : (0 : Int) < (W.length : Int) := by omega
          have hg1 := HG.out.hear0 HC.out hN (List.getElem_mem hql)
          have HG1 := Lib.hid hg1
          clear hqe hq0 hg1
          go_wp2_with (first
            | (go_at_call 30; refine (within_any _ _ _ (by decide) (by decide)).mono ?_; rintro e w4 ⟨rfl, rfl⟩; rw [HMe.out])
            | (go_at_call 42; refine (tw_way HT.out hW).mono ?_; rintro e w3 ⟨⟨A3, c3, rfl, -⟩, hb3⟩; have HT3 := Lib.hid (HT.out.below hb3); have y1 := HU1.out _ hb3; have HB3 := Lib.hid (HB.out.trans (hb3.mono HB.out.size)); clear hb3)
            | (go_at_call 30; refine (within_any _ _ _ (by omega) (by omega)).mono ?_; rintro e w4 ⟨rfl, rfl⟩; rw [HQe.out])
            | (go_at_call 56; refine (tw_bring0 HC.out HT3.out HG.out hN rfl hql).mono ?_; rintro e w5 ⟨⟨A5, c5, rfl⟩, ht5, hs5⟩; have HT5 := Lib.hid ht5; have HB5 := Lib.hid (HB3.out.trans hs5.below); clear ht5 hs5)
            | fail)
          go_roundw
          case rel => exact ⟨k + 1, by omega, by go_num, HB5.out, _, b, W, HT5.out, HG1.out.mono (by omega), hW⟩
          case measure => simp [intOf]; omega
    · have hkM : ¬ (k : Int) < (M.length : Int) := by omega
      have hg2 := HG.out.mono (show 19 * (k : Int) ≤ 570 by omega)
      have HG2 := Lib.hid hg2
      clear hg2
      go_wp2_with (first
        | (go_at_call 64; refine (tw_stop HT.out).mono ?_; rintro e w3 ⟨rfl, ht3, hs3⟩; have HT3 := Lib.hid ht3; have HB3 := Lib.hid (HB.out.trans hs3.below); clear ht3 hs3)
        | (go_at_call 42; refine (tw_way HT3.out hW).mono ?_; rintro e w4 ⟨⟨A4, c4, rfl, -⟩, hb4⟩; have HT4 := Lib.hid (HT3.out.below hb4); have HB4 := Lib.hid (HB3.out.trans (hb4.mono HB3.out.size)); clear hb4)
        | fail)
      go_loopw [71] (fun i wr => ∃ j : Nat, j ≤ W.length ∧ i = .int .i64 j ∧ Hid (Below w.heap.size w wr) ∧ Hid (∃ a, TownAt w.heap.size wr t (tw c0 c1 a b true W) ∧ TG c0 c1 570 590 a b W)) (fun i _ => W.length - (intOf i).toNat)
      case atStart => exact ⟨0, by omega, rfl, HB4.out, _, HT4.out, HG2.out⟩
      case round =>
        obtain ⟨j, hj, rfl, HBj, HSj⟩ := hrel
        obtain ⟨a, ht, hg⟩ := HSj.out
        have HTj := Lib.hid ht
        have HGj := Lib.hid hg
        clear ht hg
        by_cases hjl : j < W.length
        · have hji : (j : Int) < (W.length : Int) := by omega
          have hjw : IntKind.i64.wrap ((j : Int) + 1) = (j : Int) + 1 := IntWalk.i64_in _ (by omega)
          have hg1 := HGj.out.hear0 HC.out (by omega) (List.getElem_mem hjl)
          have HG1 := Lib.hid hg1
          clear hg1
          go_wp2_with (first
            | (go_at_call 56; refine (tw_bring0 HC.out HTj.out HGj.out (by omega) rfl hjl).mono ?_; rintro e w5 ⟨⟨A5, c5, rfl⟩, ht5, hs5⟩; have HT5 := Lib.hid ht5; have HB5 := Lib.hid (HBj.out.trans hs5.below); clear ht5 hs5)
            | fail)
          go_roundw
          case rel => exact ⟨j + 1, by omega, by go_num, HB5.out, _, HT5.out, HG1.out⟩
          case measure => simp [intOf]; omega
        · have hji : ¬ (j : Int) < (W.length : Int) := by omega
          have HS1 := Lib.hid (show StAt c0 c1 w.heap.size t b 0 wr from ⟨a, W, HTj.out, by simpa using HGj.out, hW, fun p hp => by have := HGj.out.na.good.inv.last p hp; omega⟩)
          clear HTj HGj HSj
          go_wp2_with (first
            | (go_at_call 30; refine (within_any _ _ _ (by decide) (by decide)).mono ?_; rintro e w4 ⟨rfl, rfl⟩)
            | fail)
          go_loopw [81] (fun i wr => ∃ r : Nat, r ≤ 399 ∧ i = .int .i64 r ∧ Hid (Below w.heap.size w wr) ∧ Hid (StAt c0 c1 w.heap.size t b r wr)) (fun i _ => 400 - (intOf i).toNat)
          case atStart => exact ⟨0, by omega, rfl, HBj.out, HS1.out⟩
          case round =>
            obtain ⟨r, hr, rfl, HBr, HSr⟩ := hrel
            obtain ⟨a, W, ht, hg, hW, hla⟩ := HSr.out
            have HTr := Lib.hid ht
            have HGr := Lib.hid hg
            have HLa := Lib.hid hla
            have hr4 : (r : Int) < 400 := by omega
            have hrw : IntKind.i64.wrap ((r : Int) + 1) = (r : Int) + 1 := IntWalk.i64_in _ (by omega)
            have hl2 := (hg.na.good.inv.level_ok (id := c1.id) (by simp)).1
            have hhigh : r = 399 → 1 + within theta 10 ≤ (level a c1.id).1 := fun e => st_high hg hle (fun p hp => by have := hla p hp; rw [e] at this; omega) (by omega) (by omega)
            rw [Hid1.out] at hl2 hhigh
            obtain ⟨v, hv⟩ : ∃ v, (level a (ByteArray.mk #[98])).1 = v := ⟨_, rfl⟩
            rw [hv] at hhigh
            have HLv := Lib.hid (show level a (ByteArray.mk #[98]) = (v, 0) from Prod.ext hv hl2)
            clear ht hg hla hl2 hv
            by_cases hge : 1 + within theta 10 ≤ v
            · clear hhigh
              go_wp2_with (first
                | (go_at_call 40; refine (tw_level HTr.out HGr.out _).mono ?_; rintro e w6 ⟨rfl, hb6⟩; rw [HLv.out]; have HB6 := Lib.hid (HBr.out.trans (hb6.mono HBr.out.size)); clear hb6)
                | fail)
              go_ret
              exact ⟨rfl, HB6.out⟩
            · have hr398 : r ≤ 398 := by
                by_cases e : r = 399
                · exact absurd (hhigh e) hge
                · omega
              clear hhigh
              go_wp2_with (first
                | (go_at_call 40; refine (tw_level HTr.out HGr.out _).mono ?_; rintro e w6 ⟨rfl, hb6⟩; rw [HLv.out]; have HT6 := Lib.hid (HTr.out.below hb6); have HB6 := Lib.hid (HBr.out.trans (hb6.mono HBr.out.size)); clear hb6)
                | fail)
              go_loopw [] (fun wq => Hid (Below w.heap.size w wq) ∧ Hid (∃ W, TownAt w.heap.size wq t (tw c0 c1 a b true W) ∧ TG c0 c1 (570 + 1000 * r) 590 a b W ∧ W.length ≤ 1000)) (fun wq => wayLen wq t)
              case atStart => exact ⟨HB6.out, _, HT6.out, HGr.out, hW⟩
              case round =>
                obtain ⟨HBq, HSq⟩ := hrel
                obtain ⟨W, ht, hg, hW⟩ := HSq.out
                have HTq := Lib.hid ht
                have HGq := Lib.hid hg
                clear ht hg
                by_cases hw0 : 0 < W.length
                · have hwi : (0 : Int) < (W.length : Int) := by omega
                  have hm1 : wayLen wr t = W.length := wayLen_of HTq.out
                  have HM1 := Lib.hid hm1
                  clear hm1
                  go_wp2_with (first
                    | (go_at_call 42; refine (tw_way HTq.out hW).mono ?_; rintro e w7 ⟨⟨A7, c7, rfl, -⟩, hb7⟩; have HT7 := Lib.hid (HTq.out.below hb7); have HB7 := Lib.hid (HBq.out.trans (hb7.mono HBq.out.size)); clear hb7)
                    | (go_at_call 57; refine (tw_lose HT7.out HB7.out.size hW (Int.le_refl 0)).mono ?_; rintro e w8 ⟨ee, rfl, ht8, hs8, hee⟩; obtain rfl := hee hw0; have HT8 := Lib.hid ht8; have HB8 := Lib.hid (HB7.out.trans hs8.below); clear hs8 ht8 hee)
                    | fail)
                  go_roundw
                  case rel => exact ⟨HB8.out, _, HT8.out, HGq.out.lose fun s hs => List.mem_of_mem_eraseIdx hs, Nat.le_trans (List.length_eraseIdx_le _ _) hW⟩
                  case measure =>
                    rw [HM1.out, wayLen_of HT8.out]
                    show (W.eraseIdx 0).length < _
                    rw [List.length_eraseIdx, if_pos hw0]
                    omega
                · have hwi : ¬ (0 : Int) < (W.length : Int) := by omega
                  obtain rfl := List.length_eq_zero_iff.1 (show W.length = 0 by omega)
                  have hEv : IntKind.i64.wrap (60 * within every 20) = 60 * within every 20 := IntWalk.i64_in _ (by omega)
                  have hEv2 : IntKind.i64.wrap (60 + 60 * within every 20) = 60 + 60 * within every 20 := IntWalk.i64_in _ (by omega)
                  obtain ⟨t1, t2, t3⟩ := wait_in (e := 1 + within every 20) (by omega)
                  rw [show 60 * (1 + within every 20) = 60 + 60 * within every 20 by omega] at t1 t2 t3
                  obtain ⟨tt, htt⟩ : ∃ tt, min 1000 (60 + 60 * within every 20) = tt := ⟨_, rfl⟩
                  rw [htt] at t1 t2 t3
                  have f0 : tt / c0.every < 64 := by rw [Hev0.out]; exact t3
                  have f1 : tt / c1.every < 64 := by rw [Hev1.out]; exact t3
                  obtain ⟨hka, -, -, -⟩ := HGq.out.na.ticks (t := tt) (by omega) t2 (by omega) f0
                  obtain ⟨-, x1, x3, x2⟩ := more_in hka (by omega)
                  have hwl : (wayT a b true [] tt).length ≤ 1000 := by
                    simp only [wayT, if_true, List.length_append, x2, List.length_nil]
                    omega
                  have hsent := texts_sent HGq.out.na (t := tt) (by omega) (by have := hka.big; omega) HC.out.i0 HC.out.z0
                  have hw2 : wayT a b true [] tt = texts a (beats a tt) := by simp [wayT]
                  rw [← hw2, Hid0.out] at hsent
                  have HSent := Lib.hid hsent
                  have F0 := Lib.hid f0
                  have F1 := Lib.hid f1
                  clear hka x1 x2 x3 f0 f1 hsent hw2 t3
                  go_wp2_with (first
                    | (go_at_call 42; refine (tw_way HTq.out hW).mono ?_; rintro e w7 ⟨⟨A7, c7, rfl, -⟩, hb7⟩; have HT7 := Lib.hid (HTq.out.below hb7); have HB7 := Lib.hid (HBq.out.trans (hb7.mono HBq.out.size)); clear hb7)
                    | (go_at_call 30; refine (within_any _ _ _ (by decide) (by decide)).mono ?_; rintro e w4 ⟨rfl, rfl⟩)
                    | (go_at_call 39; refine (tw_tick HC.out HT7.out HB7.out.size HGq.out hW (by omega) t2 (by omega) F0.out F1.out).mono ?_; rintro e w8 ⟨A8, c8, ee, rfl, hs8, hcase⟩; obtain ⟨rfl, ht8, hg8, -⟩ := hcase.resolve_right (fun h => absurd h.2.2 (by omega)); simp only [if_true] at ht8 hg8; have HT8 := Lib.hid ht8; have HG8 := Lib.hid hg8; have HB8 := Lib.hid (HB7.out.trans hs8.below); clear hcase hs8 ht8 hg8)
                    | (go_at_call 42; refine (tw_way HT8.out hwl).mono ?_; rintro e w9 ⟨⟨A9, c9, rfl, ho9⟩, hb9⟩; have HO9 := Lib.hid (own_base ho9 HB8.out.size); have HT9 := Lib.hid (HT8.out.below hb9); have HB9 := Lib.hid (HB8.out.trans (hb9.mono HB8.out.size)); clear hb9 ho9)
                    | fail)
                  have hst : StAt c0 c1 w.heap.size t b (r + 1) w9 := ⟨_, _, HT9.out, HG8.out.mono (by omega), hwl, fun p hp => by
                    have h1 := HLa.out p hp
                    show p.last + 60 * ((r + 1 : Nat) : Int) ≤ a.now + tt
                    omega⟩
                  have HSt := Lib.hid hst
                  generalize wayT a b true [] tt = W2 at hwl HSent HO9
                  clear hst HT9 HG8 HT8
                  go_loopw [115] (fun i wq => ∃ j : Nat, j ≤ W2.length ∧ i = .int .i64 j ∧ Hid (Below w.heap.size w wq) ∧ Hid (wq.ownsRow w.heap.size 9 1 (.slice A9 W2.length c9) W2.length (W2.map .string)) ∧ Hid (StAt c0 c1 w.heap.size t b (r + 1) wq)) (fun i _ => W2.length - (intOf i).toNat)
                  case atStart => exact ⟨0, by omega, rfl, HB9.out, HO9.out, HSt.out⟩
                  case round =>
                    obtain ⟨j, hj, rfl, HBj, HOj, HStj⟩ := hrel
                    by_cases hjl : j < W2.length
                    · have hji : (j : Int) < (W2.length : Int) := by omega
                      have hj0 : (0 : Int) ≤ (j : Int) := by omega
                      have hjw : IntKind.i64.wrap ((j : Int) + 1) = (j : Int) + 1 := IntWalk.i64_in _ (by omega)
                      obtain ⟨g, rfl⟩ : ∃ g, A9 = some ⟨g, 0, none⟩ := by
                        rcases HOj.out.2 with ⟨e, e2⟩ | ⟨g, cap, cur, e, _⟩
                        · omega
                        · injection e with e _ _
                          exact ⟨g, e⟩
                      have y := HOj.out.cells (g := g) rfl j (.string W2[j]) (by simp [hjl])
                      rw [add_lit, Nat.zero_add] at y
                      have hyl := blt y
                      obtain ⟨⟨id, inc, seq⟩, hs, hb, -, hid, -⟩ := HSent.out _ (List.getElem_mem hjl)
                      have hid : id = ByteArray.mk #[97] := hid
                      subst hid
                      have hdec : decode W2[j] = (⟨ByteArray.mk #[97], inc, seq⟩, 0) := by rw [hs]; exact decode_encode hb
                      have HDec := Lib.hid hdec
                      clear hs hb hdec
                      generalize W2[j] = s at y HDec
                      go_wp2_with (first
                        | (go_at_call 36; refine (decode_any s _).mono ?_; rintro e w10 ⟨rfl, hb10⟩; rw [HDec.out]; unfold decV; have HB10 := Lib.hid (HBj.out.trans (hb10.mono HBj.out.size)); have HO10 := Lib.hid (own_below HOj.out hb10); have HSt10 := Lib.hid (HStj.out.below hb10); clear hb10)
                        | fail)
                      go_roundw
                      case rel => exact ⟨j + 1, by omega, by go_num, HB10.out.alloc HB10.out.size _, own_below HO10.out ((Below.refl _ _).alloc (Nat.le_refl _) _), HSt10.out.below ((Below.refl _ _).alloc (Nat.le_refl _) _)⟩
                      case measure => simp [intOf]; omega
                    · have hji : ¬ (j : Int) < (W2.length : Int) := by omega
                      go_wp2_with fail
                      go_roundw
                      case rel => exact ⟨r + 1, by omega, by go_num, HBj.out, HStj.out⟩
                      case measure => simp [intOf]; omega

end Go.Proofs.Ytmclalhjnjghnaa
