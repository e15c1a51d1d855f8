/- The walk of hwkeep.TownHeard. -/
import Derived.Test.YtmclalhjnjghnaaTownOps
namespace Go.Proofs.Ytmclalhjnjghnaa
open Go.RowKit Hw

/-- A town of two of which so much was sent and let through. -/
def HdAt (c0 c1 : Config) (B t : Nat) (N M S H : Int) (w : World) : Prop := ∃ a b W, TownAt B w t (tw c0 c1 a b false W) ∧ TG c0 c1 N M a b W ∧ W.length ≤ 1000 ∧ S = a.seq + b.seq ∧ H ≤ gateSeq a c1.id + gateSeq b c0.id ∧ 0 ≤ H

theorem hd_le {c0 c1 : Config} {B t : Nat} {N M S H : Int} {w : World} (h : HdAt c0 c1 B t N M S H w) : H ≤ S := by
  obtain ⟨a, b, W, -, hg, -, hs, hh, -⟩ := h
  have := hg.ga
  have := hg.gb
  omega

theorem within_quiet (n k : Int) (w : World) (m : Nat) (h1 : 1 ≤ k) (h2 : k ≤ 1073741824) : Calls Try.prog 30 #[.int .i64 n, .int .i64 k] (w.drewN m) fun e w' => e = .returned (.int .i64 (within n k)) ∧ ∃ m', w' = w.drewN m' :=
  (within_any n k _ h1 h2).mono fun _ _ h => ⟨h.1, m, h.2.symm⟩

theorem wayT_len (a b : Hw.Node) (W : List ByteArray) (tt : Int) : (wayT a b false W tt).length = W.length + beats a tt + beats b tt := by
  simp [wayT, texts]
  omega

set_option maxRecDepth 100000 in
set_option maxHeartbeats 4000000 in
theorem heardw_any (every : Int) (A : Option Addr) (cc : Nat) (L : List (List Int)) (w : World) (hL : ListsR w A L) (hcc : L.length ≤ cc) (hl : L.length ≤ 17592186044416) :
    Calls Try.prog 15 #[.int .i64 every, .slice A L.length cc] w fun e w' => e = .returned (.bool true) ∧ Below w.heap.size w w' := by
  have HL := Lib.hid hL
  have HC := Lib.hid (tc_two every 1)
  have hE := within_in (n := every) (k := 20) (by omega)
  have hev0 : (cfA every 1).every = 1 + within every 20 := rfl
  have hev1 : (cfB every 1).every = 1 + within every 20 := rfl
  have hG0 := (two_good every 1 4000 (by omega)).1
  have hA0 : (nodeA every 1).seq = 0 := rfl
  have hB0 : (nodeB every 1).seq = 0 := rfl
  have hz : 0 ≤ gateSeq (nodeA every 1) (cfB every 1).id + gateSeq (nodeB every 1) (cfA every 1).id := by
    show 0 ≤ gateSeq (nodeA every 1) (ByteArray.mk #[98]) + gateSeq (nodeB every 1) (ByteArray.mk #[97])
    unfold gateSeq nodeA nodeB addPeer
    simp [sq]
  have HG0 := Lib.hid hG0
  have HZ := Lib.hid hz
  have HAB := Lib.hid (And.intro hA0 hB0)
  clear hL hG0 hz hA0 hB0
  go_enter Try.func15, Try.ntmps15
  go_wp2_with (first
    | (go_at_call 37; refine (begun_any _).mono ?_; rintro e w1 ⟨rfl, hb1⟩; have HB1 := Lib.hid hb1; clear hb1)
    | (go_at_call 55; refine (two_any every 1 _).mono ?_; rintro e w2 ⟨⟨t, rfl, ht⟩, hb2⟩; have HB2 := Lib.hid (HB1.out.trans (hb2.mono HB1.out.size)); have HT2 := Lib.hid (ht.base HB1.out.size); clear ht hb2)
    | fail)
  rw [show min (L.length : Int) 100 = ((L.take 100).length : Int) from take_min L 100, Int.toNat_natCast, Int.max_eq_left (by omega)]
  have hM : (L.take 100).length ≤ 100 := by rw [List.length_take]; omega
  have hMc : (L.take 100).length ≤ cc := by rw [List.length_take]; omega
  have HM := Lib.hid (HL.out.take 100)
  generalize L.take 100 = M at HM hM hMc ⊢
  have HS0 := Lib.hid (show HdAt (cfA every 1) (cfB every 1) w.heap.size t 0 4000 0 0 w2 from ⟨_, _, _, HT2.out, HG0.out, by simp, by rw [HAB.out.1, HAB.out.2]; rfl, HZ.out, Int.le_refl _⟩)
  obtain ⟨c0, hc0⟩ : ∃ c0, cfA every 1 = c0 := ⟨_, rfl⟩
  obtain ⟨c1, hc1⟩ : ∃ c1, cfB every 1 = c1 := ⟨_, rfl⟩
  rw [hc0] at HC HS0 hev0
  rw [hc1] at HC HS0 hev1
  clear hc0 hc1 HG0 HT2 HZ HAB
  have Hev0 := Lib.hid hev0
  have Hev1 := Lib.hid hev1
  clear hev0 hev1
  go_loopw [6, 7, 29] (fun s h i wr => ∃ k : Nat, k ≤ M.length ∧ i = .int .i64 k ∧ ∃ S H : Int, s = .int .i64 S ∧ h = .int .i64 H ∧ H ≤ k ∧ Hid (Below w.heap.size w wr) ∧ Hid (HdAt c0 c1 w.heap.size t (19 * k) 4000 S H wr)) (fun _ _ i _ => M.length - (intOf i).toNat)
  case atStart => exact ⟨0, by omega, rfl, 0, 0, rfl, rfl, by omega, HB2.out, HS0.out⟩
  case round =>
    obtain ⟨k, hk, rfl, S, H, rfl, rfl, hHk, HB, HS⟩ := hrel
    by_cases hlt : k < M.length
    · obtain ⟨A0, off, rfl, hc⟩ := (HM.out.below HB.out) (by omega)
      obtain ⟨A', c', h1, h2, h3⟩ := hc k hlt
      have hkM : (k : Int) < (M.length : Int) := by omega
      have hk0 : (0 : Int) ≤ (k : Int) := by omega
      have hkw : IntKind.i64.wrap ((k : Int) + 1) = (k : Int) + 1 := IntWalk.i64_in _ (by omega)
      generalize M[k] = c at h1 h2 h3
      have hA0 := blt h1
      obtain ⟨a, b, W, ht, hg, hW, hS, hH, hH0⟩ := HS.out
      have HT := Lib.hid ht
      have HG := Lib.hid hg
      have HH := Lib.hid hH
      have HSs := Lib.hid hS
      have hN : (19 * (k : Int)) ≤ 4000 := by omega
      clear hc ht hg hH hS
      by_cases hshort : c.length < 2
      · have hsh : (c.length : Int) < 2 := by omega
        have hnx := HG.out.mono (show 19 * (k : Int) ≤ 19 * ((k + 1 : Nat) : Int) by omega)
        have HNx := Lib.hid hnx
        clear h2 hnx
        go_wp2_with fail
        go_roundw
        case rel => exact ⟨k + 1, by omega, by go_num, S, H, rfl, rfl, by omega, HB.out, a, b, W, HT.out, HNx.out, hW, HSs.out, HH.out, hH0⟩
        case measure => simp [intOf]; omega
      · have hsh : ¬ (c.length : Int) < 2 := by omega
        obtain ⟨bA, oA, rfl, hcells⟩ := h2 (by omega)
        have u0 := hcells 0 (by omega)
        have u1 := hcells 1 (by omega)
        rw [Nat.add_zero] at u0
        have hbA := blt u0
        have hb1' := fun (w' : World) (hb : Below wr.heap.size wr w') => bsome hb u0
        have hb2' := fun (w' : World) (hb : Below wr.heap.size wr w') => bsome hb u1
        have HU0 := Lib.hid hb1'
        have HU1 := Lib.hid hb2'
        have hc0l : (0 : Int) < (c.length : Int) := by omega
        have hc1l : (1 : Int) < (c.length : Int) := by omega
        generalize c.getD 0 0 = x0 at u0 HU0
        generalize c.getD 1 0 = x1 at u1 HU1
        have hr1 := within_in (n := x1) (k := 19) (by omega)
        have hr2 := within_in (n := x1) (k := 10) (by omega)
        have hrw : IntKind.i64.wrap (1 + within x1 19) = 1 + within x1 19 := IntWalk.i64_in _ (by omega)
        clear hcells hb1' hb2'
        have hm := within_in (n := x0) (k := 4) (by omega)
        obtain ⟨m, hme⟩ : ∃ m, within x0 4 = m := ⟨_, rfl⟩
        rw [hme] at hm
        have HMe := Lib.hid hme
        clear hme
        have oka := HG.out.na.good.inv.ok
        have okb := HG.out.nb.good.inv.ok
        obtain ⟨-, -, -, -, sa0, sa1⟩ := oka
        obtain ⟨-, -, -, -, sb0, sb1⟩ := okb
        have hcases : m = 0 ∨ m = 1 ∨ ((m = 2 ∨ m = 3) ∧ W.length = 0) ∨ ((m = 2 ∨ m = 3) ∧ 1 ≤ W.length) := by omega
        clear hm
        rcases hcases with rfl | rfl | ⟨hm, hW0⟩ | ⟨hm, hW1⟩
        · by_cases hfull : (wayT a b false W (1 + within x1 19)).length ≤ 1000
          · have hlen := wayT_len a b W (1 + within x1 19)
            have hlw : IntKind.i64.wrap (((wayT a b false W (1 + within x1 19)).length : Int) - (W.length : Int)) = (beats a (1 + within x1 19) : Int) + beats b (1 + within x1 19) := by
              rw [IntWalk.i64_in _ (by omega)]
              omega
            have hSw : IntKind.i64.wrap (S + ((beats a (1 + within x1 19) : Int) + beats b (1 + within x1 19))) = S + ((beats a (1 + within x1 19) : Int) + beats b (1 + within x1 19)) := IntWalk.i64_in _ (by have := HSs.out; omega)
            have HLen := Lib.hid hlen
            clear hlen
            go_wp2_with (first
              | (go_at_call 42; refine (tw_way HT.out hW).mono ?_; rintro e w3 ⟨⟨A3, c3, rfl, -⟩, hb3⟩; have HT3 := Lib.hid (HT.out.below hb3); have y0 := HU0.out _ hb3; have y1 := HU1.out _ hb3; have HB3 := Lib.hid (HB.out.trans (hb3.mono HB.out.size)); clear hb3)
              | (go_at_call 30; (with_reducible refine (within_any _ 4 _ (by decide) (by decide)).mono ?_); rintro e w4 ⟨rfl, rfl⟩; rw [HMe.out])
              | (go_at_call 30; refine (within_any _ _ _ (by decide) (by decide)).mono ?_; rintro e w4 ⟨rfl, rfl⟩)
              | (go_at_call 39; refine (tw_tick HC.out HT3.out HB3.out.size HG.out hW (by omega) (by omega) (by omega) (few_in (by omega) (by rw [Hev0.out]; omega) (by omega)) (few_in (by omega) (by rw [Hev1.out]; omega) (by omega))).mono ?_; rintro e w5 ⟨A5, c5, ee, rfl, hs5, hcase⟩; obtain ⟨rfl, ht5, hg5, -⟩ := hcase.resolve_right (fun h => absurd h.2.2 (by omega)); have HT5 := Lib.hid ht5; have HG5 := Lib.hid hg5; have HB5 := Lib.hid (HB3.out.trans hs5.below); clear hcase hs5 ht5 hg5)
              | (go_at_call 42; refine (tw_way HT5.out hfull).mono ?_; rintro e w6 ⟨⟨A6, c6, rfl, -⟩, hb6⟩; have HT6 := Lib.hid (HT5.out.below hb6); have HB6 := Lib.hid (HB5.out.trans (hb6.mono HB5.out.size)); clear hb6)
              | fail)
            go_roundw
            case rel =>
              refine ⟨k + 1, by omega, by go_num, _, H, rfl, rfl, by omega, HB6.out, _, _, _, HT6.out, HG5.out.mono (by omega), hfull, ?_, HH.out, hH0⟩
              rw [HSs.out]
              show _ = (a.seq + (beats a _ : Int)) + (b.seq + (beats b _ : Int))
              omega
            case measure => simp [intOf]; omega
          · go_wp2_with (first
              | (go_at_call 42; refine (tw_way HT.out hW).mono ?_; rintro e w3 ⟨⟨A3, c3, rfl, -⟩, hb3⟩; have HT3 := Lib.hid (HT.out.below hb3); have y0 := HU0.out _ hb3; have y1 := HU1.out _ hb3; have HB3 := Lib.hid (HB.out.trans (hb3.mono HB.out.size)); clear hb3)
              | (go_at_call 30; (with_reducible refine (within_any _ 4 _ (by decide) (by decide)).mono ?_); rintro e w4 ⟨rfl, rfl⟩; rw [HMe.out])
              | (go_at_call 30; refine (within_any _ _ _ (by decide) (by decide)).mono ?_; rintro e w4 ⟨rfl, rfl⟩)
              | (go_at_call 39; refine (tw_tick HC.out HT3.out HB3.out.size HG.out hW (by omega) (by omega) (by omega) (few_in (by omega) (by rw [Hev0.out]; omega) (by omega)) (few_in (by omega) (by rw [Hev1.out]; omega) (by omega))).mono ?_; rintro e w5 ⟨A5, c5, ee, rfl, hs5, hcase⟩; obtain ⟨rfl, ht5, -⟩ := hcase.resolve_left (fun h => absurd h.2.2.2 hfull); have HB5 := Lib.hid (HB3.out.trans hs5.below); clear hcase hs5 ht5)
              | fail)
            go_ret
            exact ⟨rfl, HB5.out⟩
        · go_wp2_with (first
            | (go_at_call 42; refine (tw_way HT.out hW).mono ?_; rintro e w3 ⟨⟨A3, c3, rfl, -⟩, hb3⟩; have HT3 := Lib.hid (HT.out.below hb3); have y0 := HU0.out _ hb3; have y1 := HU1.out _ hb3; have HB3 := Lib.hid (HB.out.trans (hb3.mono HB.out.size)); clear hb3)
            | (go_at_call 30; (with_reducible refine (within_any _ 4 _ (by decide) (by decide)).mono ?_); rintro e w4 ⟨rfl, rfl⟩; rw [HMe.out])
            | (go_at_call 30; refine (within_any _ _ _ (by decide) (by decide)).mono ?_; rintro e w4 ⟨rfl, rfl⟩)
            | (go_at_call 57; refine (tw_lose HT3.out HB3.out.size hW hr2.1).mono ?_; rintro e w5 ⟨ee, rfl, ht5, hs5, -⟩; have HT5 := Lib.hid ht5; have HB5 := Lib.hid (HB3.out.trans hs5.below); clear hs5 ht5)
            | fail)
          go_roundw
          case rel => exact ⟨k + 1, by omega, by go_num, S, H, rfl, rfl, by omega, HB5.out, a, b, _, HT5.out, (HG.out.lose fun s hs => List.mem_of_mem_eraseIdx hs).mono (by omega), Nat.le_trans (List.length_eraseIdx_le _ _) hW, HSs.out, HH.out, hH0⟩
          case measure => simp [intOf]; omega
        · have hm0 : ¬ m = 0 := by omega
          have hm1 : ¬ m = 1 := by omega
          go_wp2_with (first
            | (go_at_call 42; refine (tw_way HT.out hW).mono ?_; rintro e w3 ⟨⟨A3, c3, rfl, -⟩, hb3⟩; have HT3 := Lib.hid (HT.out.below hb3); have y0 := HU0.out _ hb3; have y1 := HU1.out _ hb3; have HB3 := Lib.hid (HB.out.trans (hb3.mono HB.out.size)); clear hb3)
            | (go_at_call 30; refine (within_any _ _ _ (by decide) (by decide)).mono ?_; rintro e w4 ⟨rfl, rfl⟩; rw [HMe.out])
            | fail)
          go_roundw
          case rel => exact ⟨k + 1, by omega, by go_num, S, H, rfl, rfl, by omega, HB3.out, a, b, _, HT3.out, HG.out.mono (by omega), hW, HSs.out, HH.out, hH0⟩
          case measure => simp [intOf]; omega
        · have hm0 : ¬ m = 0 := by omega
          have hm1 : ¬ m = 1 := by omega
          have hwz : ¬ (W.length : Int) = 0 := by omega
          obtain ⟨hq0, hq1⟩ := within_in (n := x1) (k := (W.length : Int)) (by omega)
          go_wp2_with (first
            | (go_at_call 42; refine (tw_way HT.out hW).mono ?_; rintro e w3 ⟨⟨A3, c3, rfl, -⟩, hb3⟩; have HT3 := Lib.hid (HT.out.below hb3); have y0 := HU0.out _ hb3; have y1 := HU1.out _ hb3; have HB3 := Lib.hid (HB.out.trans (hb3.mono HB.out.size)); clear hb3)
            | (go_at_call 30; refine (within_any _ _ _ (by decide) (by decide)).mono ?_; rintro e w4 ⟨rfl, rfl⟩; rw [HMe.out])
            | fail)
          have hgb := blt y0
          go_quiet ((go_at_call 30; exact within_quiet _ _ _ _ (by omega) (by omega)))
          have hd := within_in (n := wrap64 (x0.tdiv 4)) (k := 2) (by omega)
          generalize within (wrap64 (x0.tdiv 4)) 2 = dst at hd ⊢
          obtain ⟨q, hqe⟩ := Int.eq_ofNat_of_zero_le hq0
          rw [hqe] at hq1 ⊢
          have hql : q < W.length := by omega
          have HT4 := Lib.hid (HT3.out.below (below_drewN (Below.refl _ _) nq))
          have HB4 := Lib.hid (below_drewN HB3.out nq)
          generalize w3.drewN nq = w4 at HT4 HB4 ⊢
          have hHw : IntKind.i64.wrap (H + 1) = H + 1 := IntWalk.i64_in _ (by omega)
          clear hqe hq0 u0 u1 y0 y1 HU0 HU1 hgb
          have hdc : dst = 0 ∨ dst = 1 := by omega
          clear hd
          rcases hdc with rfl | rfl
          · have hg1 := HG.out.hear0 HC.out hN (List.getElem_mem hql)
            have hh1 := hears_any HG.out.na hN (HG.out.way _ (List.getElem_mem hql)) HC.out.ne
            obtain ⟨a1, ha1⟩ : ∃ a1, (nhear a W[q]).1 = a1 := ⟨_, rfl⟩
            have hgt := hh1.gate
            have hsq := hh1.seq
            rw [ha1] at hg1 hgt hsq
            have H1 := Lib.hid ha1
            have HG1 := Lib.hid hg1
            obtain ⟨E, hEe⟩ : ∃ E, (nhear a W[q]).2.2 = E := ⟨_, rfl⟩
            rw [hEe] at hgt
            by_cases hE0 : E = 0
            · subst hE0
              obtain ⟨-, h2, h3⟩ := hears_twice HG.out.na hN (HG.out.way _ (List.getElem_mem hql)) HC.out.ne
              have h3 := h2 hEe
              rw [ha1] at h3
              have hg2 := hg1.hear0 HC.out hN (List.getElem_mem hql)
              have hh2 := hears_any hg1.na hN (hg1.way _ (List.getElem_mem hql)) HC.out.ne
              have hgt2 := hh2.gate
              have hsq2 := hh2.seq
              obtain ⟨a2, ha2⟩ : ∃ a2, (nhear a1 W[q]).1 = a2 := ⟨_, rfl⟩
              rw [ha2] at hg2 hgt2 hsq2
              rw [h3] at hgt2
              have hu := hgt2.resolve_left (fun h => absurd h.1 (by decide))
              have hv := hgt.resolve_right (fun h => absurd rfl h.1)
              have H2 := Lib.hid ha2
              have HG2 := Lib.hid hg2
              have HE := Lib.hid hEe
              have HF := Lib.hid h3
              have HU := Lib.hid (And.intro hu.2 (And.intro hv.2.1 (And.intro hsq hsq2)))
              clear h2 h3 hg1 hg2 hh1 hh2 hgt hgt2 hsq hsq2 ha1 ha2 hEe hu hv
              go_wp2_with (first
                | (go_at_call 56; (with_reducible refine (tw_bring0 HC.out HT4.out HG.out hN rfl hql).mono ?_); rintro e w5 ⟨⟨A5, c5, rfl⟩, ht5, hs5⟩; rw [H1.out] at ht5; rw [HE.out]; have HT5 := Lib.hid ht5; have HB5 := Lib.hid (HB4.out.trans hs5.below); clear ht5 hs5)
                | (go_at_call 56; refine (tw_bring0 HC.out HT5.out HG1.out hN rfl hql).mono ?_; rintro e w7 ⟨⟨A7, c7, rfl⟩, ht7, hs7⟩; rw [H2.out] at ht7; rw [HF.out]; have HT7 := Lib.hid ht7; have HB7 := Lib.hid (HB5.out.trans hs7.below); clear ht7 hs7)
                | fail)
              go_roundw
              case rel =>
                obtain ⟨v1, v2, v3, v4⟩ := HU.out
                refine ⟨k + 1, by omega, by go_num, S, H + 1, rfl, rfl, by omega, HB7.out, _, _, W, HT7.out, HG2.out.mono (by omega), hW, ?_, ?_, by omega⟩
                · rw [HSs.out, v4, v3]
                · have := HH.out
                  rw [v1]
                  omega
              case measure => simp [intOf]; omega
            · have heb : (E == 0) = false := beq_eq_false_iff_ne.2 hE0
              have hu := hgt.resolve_left (fun h => hE0 h.1)
              have HE := Lib.hid hEe
              have HU := Lib.hid (And.intro hu.2 hsq)
              clear hg1 hh1 hgt hsq ha1 hEe hu
              go_wp2_with (first
                | (go_at_call 56; refine (tw_bring0 HC.out HT4.out HG.out hN rfl hql).mono ?_; rintro e w5 ⟨⟨A5, c5, rfl⟩, ht5, hs5⟩; rw [H1.out] at ht5; rw [HE.out]; have HT5 := Lib.hid ht5; have HB5 := Lib.hid (HB4.out.trans hs5.below); clear ht5 hs5)
                | fail)
              go_roundw
              case rel =>
                obtain ⟨v1, v2⟩ := HU.out
                exact ⟨k + 1, by omega, by go_num, S, H, rfl, rfl, by omega, HB5.out, _, _, W, HT5.out, HG1.out.mono (by omega), hW, by rw [v2]; exact HSs.out, by rw [v1]; exact HH.out, hH0⟩
              case measure => simp [intOf]; omega
          · have hg1 := HG.out.hear1 HC.out hN (List.getElem_mem hql)
            have hh1 := hears_any HG.out.nb hN (HG.out.way _ (List.getElem_mem hql)).symm (Ne.symm HC.out.ne)
            obtain ⟨b1, hb1⟩ : ∃ b1, (nhear b W[q]).1 = b1 := ⟨_, rfl⟩
            have hgt := hh1.gate
            have hsq := hh1.seq
            rw [hb1] at hg1 hgt hsq
            have H1 := Lib.hid hb1
            have HG1 := Lib.hid hg1
            obtain ⟨E, hEe⟩ : ∃ E, (nhear b W[q]).2.2 = E := ⟨_, rfl⟩
            rw [hEe] at hgt
            by_cases hE0 : E = 0
            · subst hE0
              obtain ⟨-, h2, h3⟩ := hears_twice HG.out.nb hN (HG.out.way _ (List.getElem_mem hql)).symm (Ne.symm HC.out.ne)
              have h3 := h2 hEe
              rw [hb1] at h3
              have hg2 := hg1.hear1 HC.out hN (List.getElem_mem hql)
              have hh2 := hears_any hg1.nb hN (hg1.way _ (List.getElem_mem hql)).symm (Ne.symm HC.out.ne)
              have hgt2 := hh2.gate
              have hsq2 := hh2.seq
              obtain ⟨b2, hb2⟩ : ∃ b2, (nhear b1 W[q]).1 = b2 := ⟨_, rfl⟩
              rw [hb2] at hg2 hgt2 hsq2
              rw [h3] at hgt2
              have hu := hgt2.resolve_left (fun h => absurd h.1 (by decide))
              have hv := hgt.resolve_right (fun h => absurd rfl h.1)
              have H2 := Lib.hid hb2
              have HG2 := Lib.hid hg2
              have HE := Lib.hid hEe
              have HF := Lib.hid h3
              have HU := Lib.hid (And.intro hu.2 (And.intro hv.2.1 (And.intro hsq hsq2)))
              clear h2 h3 hg1 hg2 hh1 hh2 hgt hgt2 hsq hsq2 hb1 hb2 hEe hu hv
              go_wp2_with (first
                | (go_at_call 56; (with_reducible refine (tw_bring1 HC.out HT4.out HG.out hN rfl hql).mono ?_); rintro e w5 ⟨⟨A5, c5, rfl⟩, ht5, hs5⟩; rw [H1.out] at ht5; rw [HE.out]; have HT5 := Lib.hid ht5; have HB5 := Lib.hid (HB4.out.trans hs5.below); clear ht5 hs5)
                | (go_at_call 56; refine (tw_bring1 HC.out HT5.out HG1.out hN rfl hql).mono ?_; rintro e w7 ⟨⟨A7, c7, rfl⟩, ht7, hs7⟩; rw [H2.out] at ht7; rw [HF.out]; have HT7 := Lib.hid ht7; have HB7 := Lib.hid (HB5.out.trans hs7.below); clear ht7 hs7)
                | fail)
              go_roundw
              case rel =>
                obtain ⟨v1, v2, v3, v4⟩ := HU.out
                refine ⟨k + 1, by omega, by go_num, S, H + 1, rfl, rfl, by omega, HB7.out, _, _, W, HT7.out, HG2.out.mono (by omega), hW, ?_, ?_, by omega⟩
                · rw [HSs.out, v4, v3]
                · have := HH.out
                  rw [v1]
                  omega
              case measure => simp [intOf]; omega
            · have heb : (E == 0) = false := beq_eq_false_iff_ne.2 hE0
              have hu := hgt.resolve_left (fun h => hE0 h.1)
              have HE := Lib.hid hEe
              have HU := Lib.hid (And.intro hu.2 hsq)
              clear hg1 hh1 hgt hsq hb1 hEe hu
              go_wp2_with (first
                | (go_at_call 56; refine (tw_bring1 HC.out HT4.out HG.out hN rfl hql).mono ?_; rintro e w5 ⟨⟨A5, c5, rfl⟩, ht5, hs5⟩; rw [H1.out] at ht5; rw [HE.out]; have HT5 := Lib.hid ht5; have HB5 := Lib.hid (HB4.out.trans hs5.below); clear ht5 hs5)
                | fail)
              go_roundw
              case rel =>
                obtain ⟨v1, v2⟩ := HU.out
                exact ⟨k + 1, by omega, by go_num, S, H, rfl, rfl, by omega, HB5.out, _, _, W, HT5.out, HG1.out.mono (by omega), hW, by rw [v2]; exact HSs.out, by rw [v1]; exact HH.out, hH0⟩
              case measure => simp [intOf]; omega
    · have hkM : ¬ (k : Int) < (M.length : Int) := by omega
      have hle := hd_le HS.out
      go_wp2_with fail
      go_ret
      exact ⟨rfl, HB.out⟩

end Go.Proofs.Ytmclalhjnjghnaa
