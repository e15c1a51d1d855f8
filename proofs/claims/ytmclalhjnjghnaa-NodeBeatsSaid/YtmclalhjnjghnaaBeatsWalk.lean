/- The walk of NodeBeats: it says true. -/
import Derived.Test.YtmclalhjnjghnaaOnes
import Derived.Test.YtmclalhjnjghnaaDecLaw
namespace Go.Proofs.Ytmclalhjnjghnaa
open Go.RowKit Hw

theorem nodeS_nil {b k : Nat} : NodeS b (.slice none 0 0) k ↔ k = b := by
  unfold NodeS
  simp [Value.ownBlock]

/-- Another node, and a row of texts, while a node steps. -/
theorem NodeAt.aside {w w' : World} {b b' : Nat} {vs : Value} {n m : Hw.Node} (h : NodeAt w b' (.slice none 0 0) m) (hn : NodeAt w b vs n) (ht : Touch (NodeS b vs) w w') (hb : ¬ NodeS b vs b') : NodeAt w' b' (.slice none 0 0) m :=
  h.touch ht hb (fun k hk => by simp [Value.ownBlock] at hk) fun k c t hk hc => hn.other hc (by rcases hk with e | e <;> rw [e] <;> decide) (by rcases hk with e | e <;> rw [e] <;> decide)

theorem own_aside {w w' : World} {b B : Nat} {vs v : Value} {n : Hw.Node} {e : TypeId} {s k : Nat} {xs : List Value} (h : w.ownsRow B e s v k xs) (hn : NodeAt w b vs n) (ht : Touch (NodeS b vs) w w') (h1 : e ≠ 145) (h2 : e ≠ 85) : w'.ownsRow B e s v k xs :=
  own_typed h fun q c _ hc => ht.block q (Array.getElem?_eq_some_iff.1 hc).1 (hn.other hc h1 h2)

theorem texts_add (n m : Hw.Node) (j k : Nat) (h1 : m.c = n.c) (h2 : m.seq = n.seq + j) : texts n (j + k) = texts n j ++ texts m k := by
  unfold texts
  rw [List.range_add, List.map_append, List.map_map, h1, h2]
  congr 1
  refine List.map_congr_left fun i _ => ?_
  simp only [Function.comp]
  congr 3
  omega

theorem beats_add {n : Hw.Node} {a b : Int} (h1 : 1 ≤ n.c.every) (h2 : 0 ≤ a) (h3 : 0 ≤ b) : beats n a + beats (ticked n a) b = beats n (a + b) := by
  unfold beats ticked
  have e1 : n.now / n.c.every ≤ (n.now + a) / n.c.every := Int.ediv_le_ediv (by omega) (by omega)
  have e2 : (n.now + a) / n.c.every ≤ (n.now + a + b) / n.c.every := Int.ediv_le_ediv (by omega) (by omega)
  have e3 : n.now + (a + b) = n.now + a + b := by omega
  rw [e3]
  show _ + ((n.now + a + b) / n.c.every - (n.now + a) / n.c.every).toNat = _
  omega

theorem concat2_any (g : Nat) (A1 A2 : Option Addr) (d1 d2 : Nat) (L1 L2 : List ByteArray) (w : World) (hg : w.heap[g]? = some (.cells #[.slice A1 L1.length d1, .slice A2 L2.length d2] 48 (0, 0))) (h1 : Strs w A1 L1) (h2 : Strs w A2 L2)
    (n1 : A1 = none → L1.length = 0 ∧ d1 = 0) (n2 : A2 = none → L2.length = 0 ∧ d2 = 0) (hs : L1.length + L2.length ≤ 1000) :
    Calls Try.prog 33 #[.slice (some ⟨g, 0, none⟩) 2 2] w fun e w' => (∃ A c, e = .returned (.slice A (L1 ++ L2).length c) ∧ Strs w' A (L1 ++ L2)) ∧ Below w.heap.size w w' := by
  have e0 : cat (fun j => match j with | 0 => L1 | _ => L2) 0 = [] := rfl
  have e1 : cat (fun j => match j with | 0 => L1 | _ => L2) 1 = L1 := by simp [cat]
  have e2 : cat (fun j => match j with | 0 => L1 | _ => L2) 2 = L1 ++ L2 := by simp [cat, List.range_succ]
  have hj : ∀ j, j < 2 → j = 0 ∨ j = 1 := fun j h => by omega
  refine (concat_any g 2 2 (fun j => match j with | 0 => A1 | _ => A2) (fun j => match j with | 0 => d1 | _ => d2) (fun j => match j with | 0 => L1 | _ => L2) w (by decide) (fun j h => ?_) (fun j h => ?_) (fun j h => ?_) (fun k h => ?_)).mono ?_
  · rw [cell_of_row w g j _ 48 (0, 0) hg]
    rcases hj j h with rfl | rfl <;> rfl
  · rcases hj j h with rfl | rfl
    · exact h1
    · exact h2
  · rcases hj j h with rfl | rfl
    · exact n1
    · exact n2
  · obtain rfl | rfl | rfl : k = 0 ∨ k = 1 ∨ k = 2 := by omega
    · rw [e0]; simp
    · rw [e1]; omega
    · rw [e2, List.length_append]; omega
  · rintro e w' ⟨⟨v, rfl, ho⟩, hb⟩
    rw [e2] at ho
    obtain ⟨A, c, rfl, -⟩ := own_form ho
    exact ⟨⟨A, c, rfl, own_strs ho⟩, hb⟩

set_option maxRecDepth 100000 in
set_option maxHeartbeats 4000000 in
theorem beats_walk (every a b : Int) (w : World) : Calls Try.prog 4 #[.int .i64 every, .int .i64 a, .int .i64 b] w fun e w' => e = .returned (.bool true) ∧ Below w.heap.size w w' := by
  have hE := within_in (n := every) (k := 50) (by omega)
  have hA := within_in (n := a) (k := 30) (by omega)
  have hB := within_in (n := b) (k := 30) (by omega)
  obtain ⟨o1, o2, o3, o4, o5⟩ := ones_same every 1 3
  obtain ⟨n, hn⟩ : ∃ n, ones every 1 3 = n := ⟨_, rfl⟩
  rw [hn] at o1 o2 o3 o4
  have Hn := Lib.hid hn
  obtain ⟨x, hx⟩ : ∃ x, 1 + within a 30 = x := ⟨_, rfl⟩
  obtain ⟨y, hy⟩ : ∃ y, 1 + within b 30 = y := ⟨_, rfl⟩
  have hwx : IntKind.i64.wrap (1 + within a 30) = x := by rw [hx]; exact IntWalk.i64_in _ (by omega)
  have hwy : IntKind.i64.wrap (1 + within b 30) = y := by rw [hy]; exact IntWalk.i64_in _ (by omega)
  have hxy : 1 ≤ x ∧ x ≤ 30 ∧ 1 ≤ y ∧ y ≤ 30 := by omega
  have hwxy : IntKind.i64.wrap (x + y) = x + y := IntWalk.i64_in _ (by omega)
  have hev : n.c.every = 1 + within every 50 := by rw [o2]
  have hok : NodeOk n := by unfold NodeOk; rw [hev, o3, o4]; omega
  have hsm : ∀ t : Int, 0 ≤ t → t ≤ 60 → t / n.c.every < 64 := fun t h1 h2 => by
    have := Int.ediv_le_self (a := t) n.c.every h1
    omega
  have hok1 : NodeOk (ticked n x) := by
    have hb : (beats n x : Int) ≤ 60 := by
      unfold beats
      rw [o3]
      have := Int.ediv_le_self (a := x) n.c.every (by omega)
      rw [Int.zero_add, Int.zero_ediv]
      omega
    unfold NodeOk
    show 1 ≤ n.c.every ∧ n.c.every ≤ 16777216 ∧ 0 ≤ n.now + x ∧ n.now + x ≤ 1073741824 ∧ 0 ≤ n.seq + (beats n x : Int) ∧ n.seq + (beats n x : Int) ≤ 1073741824
    rw [hev, o3, o4]
    omega
  have t1 : tick n x = (ticked n x, texts n (beats n x), [], 0) := tick_err0 (by omega) (by omega) (by rw [o3]; omega) (hsm _ (by omega) (by omega)) o1
  have t2 : tick (ticked n x) y = (ticked (ticked n x) y, texts (ticked n x) (beats (ticked n x) y), [], 0) := tick_err0 (by omega) (by omega) (by show n.now + x + y ≤ _; rw [o3]; omega) (hsm _ (by omega) (by omega)) o1
  have t3 : tick n (x + y) = (ticked n (x + y), texts n (beats n (x + y)), [], 0) := tick_err0 (by omega) (by omega) (by rw [o3]; omega) (hsm _ (by omega) (by omega)) o1
  have hcat : texts n (beats n (x + y)) = texts n (beats n x) ++ texts (ticked n x) (beats (ticked n x) y) := by
    rw [← texts_add n (ticked n x) (beats n x) (beats (ticked n x) y) rfl rfl, beats_add (by omega) (by omega) (by omega)]
  have hL : (beats n x : Int) + (beats (ticked n x) y : Int) = (x + y) / n.c.every ∧ (x + y) / n.c.every ≤ 60 ∧ 0 ≤ (x + y) / n.c.every := by
    have h1 := beats_add (n := n) (a := x) (b := y) (by omega) (by omega) (by omega)
    have h2 := Int.ediv_le_self (a := x + y) n.c.every (by omega)
    have h3 : 0 ≤ (x + y) / n.c.every := Int.ediv_nonneg (by omega) (by omega)
    have h4 : (beats n (x + y) : Int) = (x + y) / n.c.every := by
      unfold beats
      rw [o3, Int.zero_add, Int.zero_ediv]
      omega
    omega
  have hM : (beats n (x + y) : Int) = (x + y) / n.c.every := by
    have h1 := beats_add (n := n) (a := x) (b := y) (by omega) (by omega) (by omega)
    omega
  obtain ⟨D, hD⟩ : ∃ D, (x + y) / n.c.every = D := ⟨_, rfl⟩
  rw [hD] at hL hM
  have hq : (x + y).tdiv (1 + within every 50) = D := by rw [← hev, Int.tdiv_eq_ediv_of_nonneg (by omega), hD]
  have hqw : wrap64 D = D := IntWalk.wrap64_in _ (by omega)
  have hez : (1 + within every 50 == 0) = false := by simp; omega
  have hwe : IntKind.i64.wrap (1 + within every 50) = 1 + within every 50 := IntWalk.i64_in _ (by omega)
  obtain ⟨L1, hL1⟩ : ∃ L1, texts n (beats n x) = L1 := ⟨_, rfl⟩
  obtain ⟨L2, hL2⟩ : ∃ L2, texts (ticked n x) (beats (ticked n x) y) = L2 := ⟨_, rfl⟩
  obtain ⟨U, hU⟩ : ∃ U, texts n (beats n (x + y)) = U := ⟨_, rfl⟩
  have hl1 : L1.length ≤ 60 := by rw [← hL1]; simp [texts]; omega
  have hl2 : L2.length ≤ 60 := by rw [← hL2]; simp [texts]; omega
  have hlu : U.length ≤ 60 := by rw [← hU]; simp [texts]; omega
  have hdec : ∀ k, (h : k < U.length) → decode U[k] = (⟨ByteArray.mk #[97], 0, (k : Int) + 1⟩, 0) := by
    intro k h
    have hk : k < beats n (x + y) := by rw [← hU] at h; simpa [texts] using h
    have e : U[k] = (encode ⟨ByteArray.mk #[97], 0, (k : Int) + 1⟩).1 := by
      have e1 : U[k]? = some (encode ⟨n.c.id, n.c.inc, n.seq + 1 + (k : Int)⟩).1 := by
        rw [← hU]
        simp [texts, hk]
      rw [List.getElem?_eq_getElem h] at e1
      rw [Option.some.inj e1, o2, o4, show (0 : Int) + 1 + (k : Int) = (k : Int) + 1 by omega]
    rw [e]
    refine decode_encode ?_
    unfold beatCheck
    rw [if_neg (show ¬ idOk (ByteArray.mk #[97]) = false by decide +kernel), if_neg]
    show ¬ ((0 : Int) < 0 ∨ (2147483648 : Int) ≤ 0 ∨ (k : Int) + 1 < 1 ∨ 2147483648 ≤ (k : Int) + 1)
    omega
  rw [hL1] at t1 hcat
  rw [hL2] at t2 hcat
  rw [hU] at t3 hcat
  obtain ⟨n1, hn1'⟩ : ∃ n1, ticked n x = n1 := ⟨_, rfl⟩
  have c1 : n1.subs = [] := by rw [← hn1']; exact o1
  rw [hn1'] at t1 t2 hok1
  obtain ⟨n2, hn2'⟩ : ∃ n2, ticked n1 y = n2 := ⟨_, rfl⟩
  have hs2 : n2.seq = D := by
    rw [← hn2', ← hn1']
    show n.seq + (beats n x : Int) + (beats (ticked n x) y : Int) = D
    rw [o4]
    omega
  have hs2n : n2.now = x + y := by
    rw [← hn2', ← hn1']
    show n.now + x + y = x + y
    omega
  rw [hn2'] at t2
  obtain ⟨m1, hm1'⟩ : ∃ m1, ticked n (x + y) = m1 := ⟨_, rfl⟩
  have hs3 : m1.seq = D := by
    rw [← hm1']
    show n.seq + (beats n (x + y) : Int) = D
    omega
  rw [hm1'] at t3
  have T1 := Lib.hid t1
  have T2 := Lib.hid t2
  have T3 := Lib.hid t3
  have Hcat := Lib.hid hcat
  have Hok := Lib.hid hok
  have Hok1 := Lib.hid hok1
  have Hdec := Lib.hid hdec
  have O1 := Lib.hid o1
  have C1 := Lib.hid c1
  clear hn o1 o2 o3 o4 o5 hx hy hev hok hok1 t1 t2 t3 hcat hsm hA hB hL hM hD hL1 hL2 hU hn1' hn2' hm1' c1 hdec
  go_enter Try.func4, Try.ntmps4
  go_wp2_with fail
  refine (nodebegun_any _).mono ?_
  rintro e w1 ⟨rfl, hb1⟩
  go_wp2_with fail
  refine (one_any _ _ _).mono ?_
  rintro e w2 ⟨⟨b1, rfl, hb1l, hn1⟩, hb2⟩
  go_wp2_with fail
  refine (one_any _ _ _).mono ?_
  rintro e w3 ⟨⟨b2, rfl, hb2l, hn2⟩, hb3⟩
  have Hn1 := Lib.hid (hn1.below hb3)
  rw [Hn.out] at Hn1 hn2
  have Hn2 := Lib.hid hn2
  have Hw3 := Lib.hid (hb1.trans ((hb2.mono hb1.size).trans (hb3.mono (Nat.le_trans hb1.size hb2.size))))
  have hlt1 := hn1.lt
  have hne : b1 < b2 := by omega
  have hbw : w.heap.size ≤ b1 := by have := hb1.size; omega
  clear hn1 hn2 hb1 hb2 hb3 hb1l hb2l hlt1 w1 w2
  go_wp2_with (go_at_call 30; refine (within_any _ _ _ (by decide) (by decide)).mono ?_; rintro e w0 ⟨rfl, rfl⟩)
  refine (tick0_any b1 _ n x _ Hn1.out Hok.out O1.out).mono ?_
  rintro e w4 ⟨⟨v1, vn1, rfl, ho1, -⟩, hn4, ht4⟩
  rw [T1.out] at ho1 hn4 ⊢
  obtain ⟨A1, d1, rfl, -, hA1⟩ := own_form ho1
  have Hm4 := Lib.hid (Hn2.out.aside Hn1.out ht4 (by rw [nodeS_nil]; omega))
  have Hn4 := Lib.hid hn4
  have Ho1 := Lib.hid ho1
  have Hw4 := Lib.hid (Touch.below Hw3.out ht4 Hw3.out.size (fun k hk => by rw [nodeS_nil]; omega))
  have hz34 := ht4.size
  clear ho1 hn4 ht4 Hn1 Hn2
  go_wp2_with fail
  refine (tick0_any b1 _ n1 y _ Hn4.out Hok1.out C1.out).mono ?_
  rintro e w5 ⟨⟨v2, vn2, rfl, ho2, -⟩, hn5, ht5⟩
  rw [T2.out] at ho2 hn5 ⊢
  obtain ⟨A2, d2, rfl, -, hA2⟩ := own_form ho2
  have Hm5 := Lib.hid (Hm4.out.aside Hn4.out ht5 (by rw [nodeS_nil]; omega))
  have Ho15 := Lib.hid (own_aside Ho1.out Hn4.out ht5 (by decide) (by decide))
  have Hn5 := Lib.hid hn5
  have Ho2 := Lib.hid ho2
  have Hw5 := Lib.hid (Touch.below Hw4.out ht5 Hw4.out.size (fun k hk => by rw [nodeS_nil]; omega))
  clear ho2 hn5 ht5 Hm4 Ho1 Hn4
  go_wp2_with fail
  refine (tick0_any b2 _ n (x + y) _ Hm5.out Hok.out O1.out).mono ?_
  rintro e w6 ⟨⟨v3, vn3, rfl, ho3, -⟩, hm6, ht6⟩
  rw [T3.out] at ho3 hm6 ⊢
  obtain ⟨A3, d3, rfl, -, hA3⟩ := own_form ho3
  have Hm6 := Lib.hid hm6
  have Hn6 := Lib.hid (Hn5.out.aside Hm5.out ht6 (by rw [nodeS_nil]; omega))
  have Ho16 := Lib.hid (own_aside Ho15.out Hm5.out ht6 (by decide) (by decide))
  have Ho26 := Lib.hid (own_aside Ho2.out Hm5.out ht6 (by decide) (by decide))
  have Ho3 := Lib.hid ho3
  have Hw6 := Lib.hid (Touch.below Hw5.out ht6 Hw5.out.size (fun k hk => by rw [nodeS_nil]; omega))
  have HA1 := Lib.hid hA1
  have HA2 := Lib.hid hA2
  clear ho3 hm6 ht6 Hm5 Ho15 Ho2 Hn5 hA1 hA2 hA3
  have hS1 := own_strs Ho16.out
  have hS2 := own_strs Ho26.out
  have hS3 := own_strs Ho3.out
  have HS1 := Lib.hid hS1
  have HS2 := Lib.hid hS2
  have HS3 := Lib.hid hS3
  clear hS1 hS2 hS3 Ho16 Ho26 Ho3
  have hbx : Below w6.heap.size w6 (w6.alloc (.cells #[.slice A1 L1.length d1, .slice A2 L2.length d2] 48)) := (Below.refl _ _).alloc (Nat.le_refl _) _
  have Hbx := Lib.hid hbx
  clear hbx
  go_wp2_with (first
    | (go_at_call 33; refine (concat2_any w6.heap.size A1 A2 d1 d2 L1 L2 _ (heap_alloc_new w6 _) (HS1.out.below Hbx.out) (HS2.out.below Hbx.out) HA1.out HA2.out (by omega)).mono ?_; rintro e w7 ⟨⟨A7, d7, rfl, hs7⟩, hb7⟩; rw [← Hcat.out] at hs7 ⊢; have HS7 := Lib.hid hs7; have Hb7 := Lib.hid (Hbx.out.trans (hb7.mono Hbx.out.size)); clear hs7 hb7)
    | (go_at_call 32; refine (equal_strs A3 A7 d3 d7 U _ (HS3.out.below Hb7.out) HS7.out (by omega)).mono ?_; rintro e w8 ⟨rfl, hb8⟩; have Hb8 := Lib.hid (Hb7.out.trans (hb8.mono Hb7.out.size)); have Hn8 := Lib.hid (Hn6.out.below Hb8.out); have Hm8 := Lib.hid (Hm6.out.below Hb8.out); clear hb8)
    | fail)
  refine (seq_any b1 _ n2 _ Hn8.out).mono ?_
  rintro e w9 ⟨rfl, rfl⟩
  go_wp2_with (go_at_call 30; refine (within_any _ _ _ (by decide) (by decide)).mono ?_; rintro e w9 ⟨rfl, rfl⟩)
  refine (seq_any b2 _ m1 _ Hm8.out).mono ?_
  rintro e w9 ⟨rfl, rfl⟩
  go_wp2_with fail
  refine (seq_any b1 _ n2 _ Hn8.out).mono ?_
  rintro e w9 ⟨rfl, rfl⟩
  go_wp2_with fail
  refine (now_any b1 _ n2 _ Hn8.out).mono ?_
  rintro e w9 ⟨rfl, rfl⟩
  have HS9 := Lib.hid (HS3.out.below Hb8.out)
  have Hw9 := Lib.hid (Hw6.out.trans (Hb8.out.mono Hw6.out.size))
  go_wp2_with fail
  go_loopw [18, 19, 20, 21, 115] (fun _ _ _ _ i wr => ∃ k : Nat, k ≤ U.length ∧ i = .int .i64 k ∧ Hid (Below w9.heap.size w9 wr)) (fun _ _ _ _ i _ => U.length - (intOf i).toNat)
  case atStart => exact ⟨0, by omega, rfl, Below.refl _ _⟩
  case round =>
    obtain ⟨k, hk, rfl, HB⟩ := hrel
    by_cases hlt : k < U.length
    · obtain ⟨gb, off, rfl, hcell⟩ := (HS9.out.below HB.out) (by omega)
      have q := hcell k hlt
      have hd := Hdec.out k hlt
      have HD := Lib.hid hd
      have hki : (k : Int) < (U.length : Int) := by omega
      have hk0 : (0 : Int) ≤ (k : Int) := by omega
      have hkw : IntKind.i64.wrap ((k : Int) + 1) = (k : Int) + 1 := IntWalk.i64_in _ (by omega)
      clear hcell hd
      go_wp2_with (go_at_call 36; refine (decode_any _ _).mono ?_; rintro e w10 ⟨rfl, hb10⟩; rw [HD.out]; unfold decV; have Hb10 := Lib.hid hb10; clear hb10)
      go_roundw
      case rel =>
        refine ⟨k + 1, by omega, by go_num, ?_⟩
        have hb := HB.out.trans (Hb10.out.mono HB.out.size)
        exact hb.alloc hb.size _
      case measure => simp [intOf]; omega
    · have hkl : k = U.length := by omega
      subst hkl
      go_wp2_with fail
      go_ret
      exact ⟨rfl, Hw9.out.trans (HB.out.mono Hw9.out.size)⟩

end Go.Proofs.Ytmclalhjnjghnaa
