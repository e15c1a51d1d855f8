/- The contract of (*Town).Tick. -/
import Derived.Test.YtmclalhjnjghnaaTown
namespace Go.Proofs.Ytmclalhjnjghnaa
open Go.RowKit Hw

/-- A node that may tick so long. -/
structure NodeTk (n : Hw.Node) (t : Int) : Prop where
  ok : NodeOk n
  lv : NodeLv (ticked n t)
  s8 : n.subs.length ≤ 8
  big : n.now + t ≤ 1073741824
  few : t / n.c.every < 64

structure TownTk (T : Hw.Town) (t : Int) : Prop where
  t1 : 1 ≤ t
  t2 : t ≤ 1000
  five : T.nodes.length ≤ 5
  way : T.way.length ≤ 1000
  every : ∀ (k : Nat) (c : Config) (n : Hw.Node), T.all[k]? = some c → T.nodes[k]? = some n → c.every = n.c.every
  live : ∀ (k : Nat) (n : Hw.Node), T.nodes[k]? = some n → T.dead[k]? = some false → NodeTk n t

def moreOf (n : Hw.Node) (t : Int) : Int := (n.now + t) / n.c.every - n.now / n.c.every

/-- How many texts are under way behind so many nodes' ticks. -/
def moreTo (T : Hw.Town) (t : Int) : Nat → Int
  | 0 => T.way.length
  | k + 1 => match T.nodes[k]?, T.dead[k]? with
    | some n, some false => moreTo T t k + moreOf n t
    | _, _ => moreTo T t k

/-- The town behind so many nodes' ticks, and what they told. -/
def tickTo (T : Hw.Town) (t : Int) : Nat → Hw.Town × List Note
  | 0 => (T, [])
  | k + 1 => match T.nodes[k]?, T.dead[k]? with
    | some n, some false => ({ (tickTo T t k).1 with nodes := (tickTo T t k).1.nodes.set k (tick n t).1, way := (tickTo T t k).1.way ++ (tick n t).2.1 }, (tickTo T t k).2 ++ (tick n t).2.2.1)
    | _, _ => tickTo T t k

/-- '(*Town).Tick', where it goes well. -/
def ttick (T : Hw.Town) (t : Int) : Hw.Town × List Note := tickTo T t T.nodes.length

theorem tickTo_live {T : Hw.Town} {t : Int} {k : Nat} {n : Hw.Node} (h1 : T.nodes[k]? = some n) (h2 : T.dead[k]? = some false) :
    tickTo T t (k + 1) = ({ (tickTo T t k).1 with nodes := (tickTo T t k).1.nodes.set k (tick n t).1, way := (tickTo T t k).1.way ++ (tick n t).2.1 }, (tickTo T t k).2 ++ (tick n t).2.2.1) := by
  show (match T.nodes[k]?, T.dead[k]? with
    | some n, some false => _
    | _, _ => _) = _
  rw [h1, h2]

theorem tickTo_dead {T : Hw.Town} {t : Int} {k : Nat} (h2 : T.dead[k]? ≠ some false) : tickTo T t (k + 1) = tickTo T t k := by
  show (match T.nodes[k]?, T.dead[k]? with
    | some n, some false => _
    | _, _ => _) = _
  split
  · rename_i h
    exact absurd h h2
  · rfl

theorem moreTo_live {T : Hw.Town} {t : Int} {k : Nat} {n : Hw.Node} (h1 : T.nodes[k]? = some n) (h2 : T.dead[k]? = some false) : moreTo T t (k + 1) = moreTo T t k + moreOf n t := by
  show (match T.nodes[k]?, T.dead[k]? with
    | some n, some false => _
    | _, _ => _) = _
  rw [h1, h2]

theorem moreTo_dead {T : Hw.Town} {t : Int} {k : Nat} (h2 : T.dead[k]? ≠ some false) : moreTo T t (k + 1) = moreTo T t k := by
  show (match T.nodes[k]?, T.dead[k]? with
    | some n, some false => _
    | _, _ => _) = _
  split
  · rename_i h
    exact absurd h h2
  · rfl

theorem tickTo_same (T : Hw.Town) (t : Int) : ∀ k, (tickTo T t k).1.all = T.all ∧ (tickTo T t k).1.dead = T.dead ∧ (tickTo T t k).1.nodes.length = T.nodes.length ∧ ∀ j, k ≤ j → (tickTo T t k).1.nodes[j]? = T.nodes[j]?
  | 0 => ⟨rfl, rfl, rfl, fun _ _ => rfl⟩
  | k + 1 => by
    obtain ⟨h1, h2, h3, h4⟩ := tickTo_same T t k
    by_cases hd : T.dead[k]? = some false
    · cases hn : T.nodes[k]? with
      | none =>
        have e : tickTo T t (k + 1) = tickTo T t k := by
          show (match T.nodes[k]?, T.dead[k]? with
            | some n, some false => _
            | _, _ => _) = _
          rw [hn]
        rw [e]
        exact ⟨h1, h2, h3, fun j hj => h4 j (by omega)⟩
      | some n =>
        rw [tickTo_live hn hd]
        refine ⟨h1, h2, by show (List.set _ _ _).length = _; rw [List.length_set, h3], fun j hj => ?_⟩
        show (List.set _ _ _)[j]? = _
        rw [List.getElem?_set_ne (by omega)]
        exact h4 j (by omega)
    · rw [tickTo_dead hd]
      exact ⟨h1, h2, h3, fun j hj => h4 j (by omega)⟩

theorem tick_ok {n : Hw.Node} {t : Int} (h : NodeTk n t) (t1 : 1 ≤ t) (t2 : t ≤ 1000) : tick n t = ((told (ticked n t)).1, texts n (beats n t), (told (ticked n t)).2, 0) := by
  have := h.big
  have := h.few
  unfold tick
  rw [if_neg (by omega), if_neg (by omega)]

theorem more_in {n : Hw.Node} {t : Int} (h : NodeTk n t) (t1 : 1 ≤ t) : 0 ≤ moreOf n t ∧ moreOf n t ≤ 64 ∧ ((beats n t : Nat) : Int) = moreOf n t ∧ (texts n (beats n t)).length = beats n t := by
  obtain ⟨e1, e2, n1, n2, -, -⟩ := h.ok
  have hf := h.few
  have h0 : n.now / n.c.every ≤ (n.now + t) / n.c.every := Int.ediv_le_ediv (by omega) (by omega)
  have h1 : (n.now + t) / n.c.every ≤ n.now / n.c.every + t / n.c.every + 1 := by
    have a := Int.mul_ediv_add_emod n.now n.c.every
    have b := Int.mul_ediv_add_emod t n.c.every
    have c := Int.emod_lt_of_pos n.now (show 0 < n.c.every by omega)
    have d := Int.emod_lt_of_pos t (show 0 < n.c.every by omega)
    have e : n.now + t < (n.now / n.c.every + t / n.c.every + 2) * n.c.every := by
      rw [Int.add_mul, Int.add_mul, Int.mul_comm (n.now / n.c.every), Int.mul_comm (t / n.c.every)]
      omega
    have := Int.ediv_lt_of_lt_mul (show 0 < n.c.every by omega) e
    omega
  refine ⟨by unfold moreOf; omega, by unfold moreOf; omega, by unfold beats moreOf; omega, by simp [texts]⟩

theorem told_len (n : Hw.Node) : (told n).2.length ≤ n.subs.length := List.length_filterMap_le _ _

/-- What is so of the town behind so many nodes' ticks. -/
theorem tickTo_in {T : Hw.Town} {t : Int} (h : TownTk T t) : ∀ k, k ≤ T.nodes.length → ((tickTo T t k).1.way.length : Int) = moreTo T t k ∧ (T.way.length : Int) ≤ moreTo T t k ∧ moreTo T t k ≤ T.way.length + 64 * k ∧ (tickTo T t k).2.length ≤ 8 * k
  | 0, _ => ⟨rfl, Int.le_refl _, by show (T.way.length : Int) ≤ _; omega, by show 0 ≤ _; omega⟩
  | k + 1, hk => by
    obtain ⟨h1, h2, h3, h4⟩ := tickTo_in h k (by omega)
    have hn : T.nodes[k]? = some (T.nodes[k]'(by omega)) := List.getElem?_eq_getElem (by omega)
    by_cases hd : T.dead[k]? = some false
    · have hk := h.live k _ hn hd
      obtain ⟨m1, m2, m3, m4⟩ := more_in hk h.t1
      rw [tickTo_live hn hd, moreTo_live hn hd, tick_ok hk h.t1 h.t2]
      refine ⟨?_, by omega, by omega, ?_⟩
      · show ((List.length (_ ++ texts _ _) : Nat) : Int) = _
        rw [List.length_append, m4]
        omega
      · show List.length (_ ++ (told (ticked (T.nodes[k]'(by omega)) t)).2) ≤ _
        rw [List.length_append]
        have a := told_len (ticked (T.nodes[k]'(by omega)) t)
        have b : (ticked (T.nodes[k]'(by omega)) t).subs.length ≤ 8 := hk.s8
        omega
    · rw [tickTo_dead hd, moreTo_dead hd]
      exact ⟨h1, h2, by omega, by omega⟩

theorem moreTo_mono {T : Hw.Town} {t : Int} (h : TownTk T t) : ∀ k d, k + d ≤ T.nodes.length → moreTo T t k ≤ moreTo T t (k + d)
  | k, 0, _ => Int.le_refl _
  | k, d + 1, hk => by
    refine Int.le_trans (moreTo_mono h k d (by omega)) ?_
    have hn : T.nodes[k + d]? = some (T.nodes[k + d]'(by omega)) := List.getElem?_eq_getElem (by omega)
    show moreTo T t (k + d) ≤ moreTo T t (k + d + 1)
    by_cases hd : T.dead[k + d]? = some false
    · obtain ⟨m1, -⟩ := more_in (h.live _ _ hn hd) h.t1
      rw [moreTo_live hn hd]
      omega
    · rw [moreTo_dead hd]
      exact Int.le_refl _

theorem confsCells_len : ∀ (l : List Config), (confsCells l).length = l.length * 5
  | [] => rfl
  | c :: t => by
    show (confCells c ++ confsCells t).length = _
    rw [List.length_append, confsCells_len t]
    show 5 + _ = _
    simp
    omega

theorem confsCells_get : ∀ (l : List Config) (k j : Nat) (hk : k < l.length) (_ : j < 5), (confsCells l)[k * 5 + j]? = (confCells l[k])[j]?
  | [], k, j, hk, _ => by simp at hk
  | c :: t, 0, j, _, hj => by
    show (confCells c ++ confsCells t)[0 * 5 + j]? = _
    rw [List.getElem?_append_left (by show 0 * 5 + j < 5; omega)]
    simp
  | c :: t, k + 1, j, hk, hj => by
    show (confCells c ++ confsCells t)[(k + 1) * 5 + j]? = _
    rw [List.getElem?_append_right (by show 5 ≤ _; omega)]
    have e : (k + 1) * 5 + j - (confCells c).length = k * 5 + j := by show (k + 1) * 5 + j - 5 = _; omega
    rw [e, confsCells_get t k j (by simpa using hk) hj]
    simp

theorem notesCells_len : ∀ (l : List Note), (notesCells l).length = l.length * 3
  | [] => rfl
  | x :: t => by
    show (noteCells x ++ notesCells t).length = _
    rw [List.length_append, notesCells_len t]
    show 3 + _ = _
    simp
    omega

theorem notesCells_one (l : List Note) : ∀ u ∈ notesCells l, u.oneCell' = true := by
  intro u hu
  obtain ⟨s, -, hs⟩ := List.mem_flatMap.1 hu
  simp only [noteCells, List.mem_cons, List.not_mem_nil, or_false] at hs
  rcases hs with rfl | rfl | rfl <;> rfl

theorem own_news {w : World} {B : Nat} {e : TypeId} {s : Nat} {A : Option Addr} {n c : Nat} {xs : List Value} (h : w.ownsRow B e s (.slice A n c) n xs) : ∀ ad, A = some ad → ∀ (j : Nat) (u : Value), xs[j]? = some u → w.cell? (ad.add j) = some u := by
  intro ad ha j u hu
  rcases h.2 with ⟨e1, e2⟩ | ⟨g, cap, cur, e1, _⟩
  · injection e1 with e1 _ _
    rw [ha] at e1
    cases e1
  · injection e1 with e1 _ _
    rw [ha] at e1
    injection e1 with e1
    rw [e1]
    exact h.cells (g := g) (by rw [ha, e1]; rfl) j u hu

theorem TownV.everyAt {B : Nat} {w : World} {t : Nat} {va vn vd vw : Value} {bs : List (Nat × Value)} {T : Hw.Town} (h : TownV B w t va vn vd vw bs T) {k : Nat} (hk : k < T.nodes.length) :
    ∃ A c, va = .slice (some ⟨A, 0, none⟩) T.nodes.length c ∧ w.cell? ⟨A, k * 5 + 2, none⟩ = some (.int .i64 (T.all[k]'(by rw [h.alen]; exact hk)).every) := by
  have hk' : k < T.all.length := by rw [h.alen]; exact hk
  rcases h.all.2 with ⟨e, e2⟩ | ⟨g, cap, cur, e, hB, e3, _⟩
  · omega
  · have hc := h.all.cells (g := g) (by rw [e]; rfl) (k * 5 + 2) (.int .i64 T.all[k].every) (by rw [confsCells_get T.all k 2 hk' (by omega)]; rfl)
    rw [add_lit, Nat.zero_add] at hc
    exact ⟨g, cap, by rw [e, h.alen], hc⟩

def TTickPost (B t : Nat) (T : Hw.Town) (tt : Int) (w : World) (e : Ending) (w' : World) : Prop :=
  (moreTo T tt T.nodes.length ≤ 1000 ∧ (∃ v, e = .returned (.tuple #[v, .int .i64 0]) ∧ w'.ownsRow w.heap.size 74 3 v (ttick T tt).2.length (notesCells (ttick T tt).2)) ∧ TownAt B w' t (ttick T tt).1 ∧ TStep B w w') ∨
  (1000 < moreTo T tt T.nodes.length ∧ e = .returned (.tuple #[.slice none 0 0, .int .i64 10]) ∧ TownAt B w' t T ∧ TStep B w w')

set_option maxRecDepth 100000 in
set_option maxHeartbeats 4000000 in
theorem ttick_any (B t : Nat) (T : Hw.Town) (tt : Int) (w : World) (h : TownAt B w t T) (hB : B ≤ w.heap.size) (hk : TownTk T tt) :
    Calls Try.prog 39 #[.pointer (some ⟨t, 0, none⟩), .int .i64 tt] w (TTickPost B t T tt w) := by
  obtain ⟨va, vn, vd, vw, bs, hT⟩ := h
  obtain ⟨c0, c1, c2, c3, cf⟩ := hT.cells
  have ht1 := hk.t1
  have ht2 := hk.t2
  have h5 := hk.five
  have hwl := hk.way
  have hwy := hT.way
  obtain ⟨Aw, cw, evw, -⟩ := own_form hwy
  obtain ⟨Aa, ca, eva, -⟩ := own_form hT.all
  obtain ⟨An, cn, evn, -⟩ := own_form hT.ptrs
  obtain ⟨Ad, cd, evd, -⟩ := own_form hT.dead
  rw [hT.dlen] at evd
  rw [hT.alen] at eva
  subst evw eva evn evd
  have HT := Lib.hid hT
  have HK := Lib.hid hk
  have htl := hT.lt
  clear hT hk hwy
  go_enter Try.func39, Try.ntmps39
  go_wp2_with fail
  go_loopw [6, 32] (fun m i wr => ∃ k : Nat, k ≤ T.nodes.length ∧ i = .int .i64 k ∧ m = .int .i64 (moreTo T tt k) ∧ Hid (Below w.heap.size w wr)) (fun _ i _ => T.nodes.length - (intOf i).toNat)
  case atStart => exact ⟨0, by omega, rfl, rfl, Below.refl _ _⟩
  case round =>
    obtain ⟨k, hk, rfl, rfl, HB⟩ := hrel
    by_cases hlt : k < T.nodes.length
    · have hTr := HT.out.below HB.out
      obtain ⟨p, A, c, e1, hp, -, -, hn⟩ := hTr.node hlt
      obtain ⟨A2, c2', e2, hd, -⟩ := hTr.deadAt hlt
      obtain ⟨A3, c3', e3, he⟩ := hTr.everyAt hlt
      obtain ⟨q0, q1, q2, q3, -⟩ := hTr.cells
      injection e1 with e1 _ e1'
      injection e2 with e2 _ e2'
      injection e3 with e3 _ e3'
      subst e1 e1' e2 e2' e3 e3'
      have hk5 : (k : Int) < 5 := by omega
      have hki : (k : Int) < (T.nodes.length : Int) := by omega
      have hk0 : (0 : Int) ≤ (k : Int) := by omega
      have hkw : IntKind.i64.wrap ((k : Int) + 1) = (k : Int) + 1 := IntWalk.i64_in _ (by omega)
      have hdl : k < T.dead.length := by rw [hTr.dlen]; exact hlt
      have hal : k < T.all.length := by rw [hTr.alen]; exact hlt
      have hdd : T.dead[k]? = some T.dead[k] := List.getElem?_eq_getElem hdl
      have hnn : T.nodes[k]? = some T.nodes[k] := List.getElem?_eq_getElem hlt
      have hev := HK.out.every k T.all[k] T.nodes[k] (List.getElem?_eq_getElem hal) hnn
      rw [hev] at he
      have hmr := tickTo_in HK.out k hk
      obtain ⟨-, hm1, hm2, -⟩ := hmr
      have HN := Lib.hid hn
      have hgl1 := blt hp
      have hd3 : wr.cell? ⟨A2, k, none⟩ = some (.bool T.dead[k]) := hd
      clear hd
      have hd := hd3
      clear hd3
      have hgl2 := blt hd
      have hgl3 := blt he
      have hgl0 := blt q0
      clear hn hTr hev hal
      cases hdv : T.dead[k] with
      | true =>
        rw [hdv] at hd hdd
        have hms : moreTo T tt (k + 1) = moreTo T tt k := moreTo_dead (by rw [hdd]; simp)
        have HMS := Lib.hid hms
        clear hms hdv hdd hnn
        go_wp2_with fail
        go_roundw
        case rel => exact ⟨k + 1, by omega, by go_num, by rw [HMS.out], HB.out⟩
        case measure => simp [intOf]; omega
      | false =>
        rw [hdv] at hd hdd
        have hnt := HK.out.live k _ hnn hdd
        have hms := moreTo_live hnn hdd (t := tt)
        obtain ⟨m1, m2, -, -⟩ := more_in hnt ht1
        have HMS := Lib.hid hms
        have hbig := hnt.big
        have hfew := hnt.few
        obtain ⟨e1, e2, n1, n2, -, -⟩ := hnt.ok
        have hd1 : decide ((1073741824 : Int) < (T.nodes[k]).now + tt) = false := by simp; omega
        have hd2 : decide ((64 : Int) ≤ tt / (T.nodes[k]).c.every) = false := by simp; omega
        clear hms hdv hdd hnn hnt
        generalize T.nodes[k] = n at HN he HMS m1 m2 hbig hfew e1 e2 n1 n2 hd1 hd2
        generalize moreTo T tt k = mm at hm1 hm2 HMS ⊢
        go_wp2_with (first
          | (go_at_call 35; refine (now_any p.1 p.2 n _ HN.out).mono ?_; rintro e w9 ⟨rfl, hw⟩; cases hw)
          | fail)
        go_quiet ((first
          | (go_at_call 35; exact Calls.quiet_of_same (now_any p.1 p.2 n _ (HN.out.below (below_drewN (Below.refl _ _) _))))))
        go_wp2_with fail
        go_roundw
        case rel =>
          have hw1 : wrap64 ((n.now + tt) / n.c.every - n.now / n.c.every) = moreOf n tt := IntWalk.wrap64_in _ (by unfold moreOf at m1 m2; omega)
          have hw2 : wrap64 (mm + moreOf n tt) = mm + moreOf n tt := IntWalk.wrap64_in _ (by omega)
          exact ⟨k + 1, by omega, by go_num, by rw [hw1, hw2, HMS.out], below_drewN HB.out _⟩
        case measure => simp [intOf]; omega
    · have hki : ¬ (k : Int) < (T.nodes.length : Int) := by omega
      have hkn : k = T.nodes.length := by omega
      subst hkn
      have hTr := HT.out.below HB.out
      obtain ⟨q0, q1, q2, q3, qf⟩ := hTr.cells
      have hmr := tickTo_in HK.out T.nodes.length (Nat.le_refl _)
      obtain ⟨-, hm1, hm2, -⟩ := hmr
      by_cases hfull : 1000 < moreTo T tt T.nodes.length
      · have HF := Lib.hid hfull
        have HTr := Lib.hid hTr
        clear hTr qf
        go_wp2_with fail
        go_ret2
        exact .inr ⟨HF.out, rfl, ⟨_, _, _, _, _, HTr.out⟩, TStep.of_below HB.out hB⟩
      · obtain ⟨i9, hi9, hz9, hy9, hb9⟩ := info_parts info9
        obtain ⟨i74, hi74, hz74, hy74, hb74⟩ := info_parts (show (Try.prog.info? 74).map (fun i => (i.zero, i.size, i.bytes)) = some (some (.agg #[.string ByteArray.empty, .int .i64 0, .bool false]), 3, 32) by kernel_rfl)
        have hle : moreTo T tt T.nodes.length ≤ 1000 := by omega
        have HLe := Lib.hid hle
        have hgl0 := blt q0
        have hBr : B ≤ wr.heap.size := Nat.le_trans hB HB.out.size
        have hSr := TStep.of_below HB.out hB
        have HTr := Lib.hid (show ∃ vw' bs', TownV B wr t _ _ _ vw' bs' (tickTo T tt 0).1 from ⟨_, _, hTr⟩)
        have HSr := Lib.hid hSr
        clear hTr hle hSr qf q0 q2 q3
        go_wp2_with fail
        go_loopw [10, 84] (fun ov i wq => ∃ k : Nat, k ≤ T.nodes.length ∧ i = .int .i64 k ∧ Hid (wq.ownsRow w.heap.size 74 3 ov (tickTo T tt k).2.length (notesCells (tickTo T tt k).2)) ∧
          Hid (∃ vw' bs', TownV B wq t (.slice Aa T.nodes.length ca) (.slice An T.nodes.length cn) (.slice Ad T.nodes.length cd) vw' bs' (tickTo T tt k).1) ∧ Hid (TStep B w wq)) (fun _ i _ => T.nodes.length - (intOf i).toNat)
        case atStart => exact ⟨0, by omega, rfl, World.ownsRow_nil _ _ _ _, HTr.out, HSr.out⟩
        case round =>
          obtain ⟨k, hk, rfl, HO, HTk, HS⟩ := hrel
          by_cases hlt : k < T.nodes.length
          · obtain ⟨vw', bs', hTk⟩ := HTk.out
            obtain ⟨s1, s2, s3, s4⟩ := tickTo_same T tt k
            have hlt' : k < (tickTo T tt k).1.nodes.length := by rw [s3]; exact hlt
            obtain ⟨p, A, c, e1, hp, hbp, -, hn⟩ := hTk.node hlt'
            obtain ⟨A2, c2', e2, hd, -⟩ := hTk.deadAt hlt'
            obtain ⟨q0, q1, q2, q3, -⟩ := hTk.cells
            injection e1 with e1 e1x e1'
            injection e2 with e2 e2x e2'
            subst e1 e1' e2 e2'
            clear e1x e2x
            have hnk : (tickTo T tt k).1.nodes[k] = T.nodes[k] := by
              have := s4 k (Nat.le_refl _)
              rw [List.getElem?_eq_getElem hlt', List.getElem?_eq_getElem hlt] at this
              injection this
            rw [hnk] at hn
            have hdl : k < (tickTo T tt k).1.dead.length := by rw [hTk.dlen]; exact hlt'
            have hd3 : wr.cell? ⟨A2, k, none⟩ = some (.bool ((tickTo T tt k).1.dead[k])) := hd
            clear hd
            have hdd : T.dead[k]? = some ((tickTo T tt k).1.dead[k]) := by rw [← s2]; exact List.getElem?_eq_getElem hdl
            have hnn : T.nodes[k]? = some T.nodes[k] := List.getElem?_eq_getElem hlt
            have hk5 : (k : Int) < 5 := by omega
            have hki : (k : Int) < (T.nodes.length : Int) := by omega
            have hk0 : (0 : Int) ≤ (k : Int) := by omega
            have hkw : IntKind.i64.wrap ((k : Int) + 1) = (k : Int) + 1 := IntWalk.i64_in _ (by omega)
            have hmr := tickTo_in HK.out k hk
            have hmr1 := tickTo_in HK.out (k + 1) hlt
            have hmn := moreTo_mono HK.out (k + 1) (T.nodes.length - (k + 1)) (by omega)
            rw [show k + 1 + (T.nodes.length - (k + 1)) = T.nodes.length by omega] at hmn
            have hle := HLe.out
            have hBr0 : B ≤ wr.heap.size := Nat.le_trans hTk.base (Nat.le_of_lt hTk.lt)
            have hgl1 := blt hp
            have hgl2 := blt hd3
            have hgl0' := blt q1
            have HN := Lib.hid hn
            have HTk' := Lib.hid hTk
            have HP := Lib.hid hbp
            clear hn hTk s1 s2 s4 hnk hbp
            cases hdv : (tickTo T tt k).1.dead[k] with
            | true =>
              rw [hdv] at hd3 hdd
              have hms : tickTo T tt (k + 1) = tickTo T tt k := tickTo_dead (by rw [hdd]; simp)
              have HMS := Lib.hid hms
              clear hms hdv hdd hnn hmr hmr1 hmn hle
              go_wp2_with fail
              go_roundw
              case rel => exact ⟨k + 1, by omega, by go_num, by rw [HMS.out]; exact HO.out, by rw [HMS.out]; exact ⟨_, _, HTk'.out⟩, HS.out⟩
              case measure => simp [intOf]; omega
            | false =>
              rw [hdv] at hd3 hdd
              have hnt := HK.out.live k _ hnn hdd
              have hlive := tickTo_live hnn hdd (t := tt)
              obtain ⟨m1, m2, m3, m4⟩ := more_in hnt ht1
              obtain ⟨n2, tx, nt, htk, hxl⟩ : ∃ n2 tx nt, tick T.nodes[k] tt = (n2, tx, nt, 0) ∧ tx.length ≤ 64 := ⟨_, _, _, tick_ok hnt ht1 ht2, by rw [m4]; omega⟩
              rw [htk] at hlive
              rw [hlive] at hmr1
              have hw1 : (((tickTo T tt k).1.way ++ tx).length : Int) ≤ 1000 := by
                have := hmr1.1
                have e : (((tickTo T tt k).1.way ++ tx).length : Int) = moreTo T tt (k + 1) := this
                omega
              have hw2 : ((tickTo T tt k).2 ++ nt).length ≤ 8 * (k + 1) := hmr1.2.2.2
              rw [List.length_append] at hw1 hw2
              have HLive := Lib.hid hlive
              have HTick := Lib.hid htk
              have HNt := Lib.hid hnt
              clear hlive htk hdv hdd hnn hnt hmr hmr1 hmn hle m1 m2 m3 m4
              go_wp2_with (first
                | (go_at_call 31; refine (tick_any p.1 p.2 T.nodes[k] tt _ HN.out HNt.out.ok (fun w' h' => told_any p.1 p.2 _ w' h' HNt.out.lv HNt.out.s8)).mono ?_; rintro e w3 ⟨⟨vt, vn3, rfl, ho1, ho2⟩, hn3, ht3⟩; rw [HTick.out] at ho1 ho2 hn3 ⊢; obtain ⟨A1, c1, rfl, -, hA1⟩ := own_form ho1; obtain ⟨A3, c3, rfl, -, hA3⟩ := own_form ho2; have hst := HTk'.out.step hlt' HP.out hn3 (VsTo.refl _ _) ht3; obtain ⟨k0, k1, k2, k3, kf⟩ := hst.1.cells; have kl := blt k3; have HO1 := Lib.hid ho1; have HO2 := Lib.hid ho2; have HWy : Hid (w3.ownsRow B 9 1 vw' (tickTo T tt k).1.way.length ((tickTo T tt k).1.way.map .string)) := hst.1.way; have HSt := Lib.hid hst; have HOo := Lib.hid (own_other HN.out ht3 HO.out (by decide) (by decide)); have HKf := Lib.hid kf; clear ho1 ho2 hn3 ht3 hst kf)
                | (at_builtin; ((refine wpList_append_src (o := ⟨some 110, _, _, _, _, _⟩) (by rfl) (.tmp 108) (.tmp 109) 48 (by rfl) B 9 i9 _ 1 16 Try.underlying48 hi9 hz9 hy9 hb9 (by rfl) (by omega) _ _ _ (by rfl) HWy.out A1 tx.length c1 (tx.map .string) (by rfl) (by simp) hA1 (own_news HO1.out) (strs_one _) ?b1 ?b2 (Nat.le_trans hBr0 HSt.out.2.below.size) ?_; (case b1 => (simp only [maxLen]; omega)); (case b2 => omega); intro v9 w9 ho9 hg9 _; obtain ⟨A9, c9, rfl, -⟩ := own_form ho9; have hgc9 := grown_cells HWy.out hg9; have HO9 := Lib.hid ho9; have HG9 := Lib.hid hg9; have HGc9 := Lib.hid hgc9; have HOo9 := Lib.hid (HOo.out.kept hg9 (own_ne HOo.out HWy.out (by decide))); have HO29 := Lib.hid (HO2.out.kept hg9 (own_ne HO2.out HWy.out (by decide))); clear ho9 hg9 hgc9)))
                | (at_builtin; refine wpList_append_src (o := ⟨some 113, _, _, _, _, _⟩) (by rfl) (.tmp 111) (.tmp 112) 49 (by rfl) w.heap.size 74 i74 _ 3 32 Try.underlying49 hi74 hz74 hy74 hb74 (by rfl) (by omega) _ _ _ (by rfl) HOo9.out A3 nt.length c3 (notesCells nt) (by rfl) (notesCells_len nt) hA3 (own_news HO29.out) (notesCells_one _) ?b1 ?b2 ?b3 ?_; (case b1 => (simp only [maxLen]; omega)); (case b2 => omega); (case b3 => exact Nat.le_trans HS.out.below.size (Nat.le_trans HSt.out.2.below.size HG9.out.size)); intro v10 w10 ho10 hg10 _; have hgc10 := grown_cells HOo9.out hg10; have hblk10 := (hgc10 t _ 156 (by decide) ((HGc9.out t _ 156 (by decide) HSt.out.1.blk).trans HSt.out.1.blk)).trans ((HGc9.out t _ 156 (by decide) HSt.out.1.blk).trans HSt.out.1.blk); have d3 := cell_of_row _ _ 3 _ 156 (0, 0) hblk10; have g3 := frozen_of_row _ _ 3 _ 156 hblk10; simp at d3; have ht10 := blt d3; have HO10 := Lib.hid ho10; have HG10 := Lib.hid hg10; have HGc10 := Lib.hid hgc10; have HBlk := Lib.hid hblk10; have HO99 := Lib.hid (HO9.out.kept hg10 (own_ne HO9.out HOo9.out (by decide))); clear ho10 hg10 hgc10 hblk10)
                | fail)
              have hpw := HSt.out.1.putWay (w' := w10) (fun q c u h1 h2 hc => ((HGc10.out q c u h2 ((HGc9.out q c u h1 hc).trans hc)).trans (HGc9.out q c u h1 hc))) (l := (tickTo T tt k).1.way ++ tx) (by rw [List.length_append, List.map_append]; exact HO99.out)
              have ho10 : (w10.setCell ⟨t, 3, none⟩ (.slice A9 ((tickTo T tt k).1.way.length + tx.length) c9)).ownsRow w.heap.size 74 3 v10 ((tickTo T tt k).2 ++ nt).length (notesCells ((tickTo T tt k).2 ++ nt)) := by
                rw [List.length_append, show notesCells ((tickTo T tt k).2 ++ nt) = notesCells (tickTo T tt k).2 ++ notesCells nt by simp [notesCells]]
                exact own_typed HO10.out fun q c _ hc => heap_setCell_other _ _ _ _ (cells_ne hc HBlk.out (by decide))
              have hst10 : TStep B w (w10.setCell ⟨t, 3, none⟩ (.slice A9 ((tickTo T tt k).1.way.length + tx.length) c9)) :=
                (((HS.out.trans HSt.out.2).grown HWy.out HG9.out (Nat.le_trans hBr0 HSt.out.2.below.size)).grown (own_base HOo9.out hB) HG10.out (Nat.le_trans hBr0 (Nat.le_trans HSt.out.2.below.size HG9.out.size))).set HBlk.out HSt.out.1.base _
              have HPw := Lib.hid hpw
              have HOx := Lib.hid ho10
              have HSx := Lib.hid hst10
              clear hpw ho10 hst10
              go_roundw
              case rel => exact ⟨k + 1, by omega, by go_num, by rw [HLive.out]; exact HOx.out, by rw [HLive.out]; exact ⟨_, _, HPw.out⟩, HSx.out⟩
              case measure => simp [intOf]; omega
          · have hki : ¬ (k : Int) < (T.nodes.length : Int) := by omega
            have hkn : k = T.nodes.length := by omega
            subst hkn
            have ho := HO.out
            obtain ⟨Ao, co, rfl, -⟩ := own_form ho
            have HOz := Lib.hid ho
            clear ho
            go_wp2_with fail
            go_ret2
            refine .inl ⟨HLe.out, ⟨_, rfl, HOz.out⟩, ?_, HS.out⟩
            obtain ⟨vw', bs', hTk⟩ := HTk.out
            exact ⟨_, _, _, _, _, hTk⟩

end Go.Proofs.Ytmclalhjnjghnaa
