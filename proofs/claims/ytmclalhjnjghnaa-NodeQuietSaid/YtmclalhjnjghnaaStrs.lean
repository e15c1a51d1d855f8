/- Slices of strings: contracts of slices.Grow, Concat and Equal of them; and hwkeep.Within. -/
import Derived.Test.YtmclalhjnjghnaaSame
import Derived.Test.YtmclalhjnjghnaaRowLaws
import Derived.Laws.AppendOwnNone
namespace Go.Proofs.Ytmclalhjnjghnaa
open Go.RowKit Hw

/-- A slice of strings. -/
def Strs (w : World) (A : Option Addr) (l : List ByteArray) : Prop :=
  0 < l.length → ∃ b off, A = some ⟨b, off, none⟩ ∧ ∀ j (h : j < l.length), w.cell? ⟨b, off + j, none⟩ = some (.string l[j])

theorem Strs.below {w w' : World} {A : Option Addr} {l : List ByteArray} (h : Strs w A l) (hb : Below w.heap.size w w') : Strs w' A l := fun h0 => by
  obtain ⟨b, off, e, hc⟩ := h h0
  exact ⟨b, off, e, fun j hj => bsome hb (hc j hj)⟩

theorem own_strs {w : World} {B n : Nat} {A : Option Addr} {c : Nat} {l : List ByteArray} (h : w.ownsRow B 9 1 (.slice A n c) n (l.map .string)) : Strs w A l := fun h0 => by
  have hl : l.length = n := by have := h.1; simpa using this
  rcases h.2 with ⟨e1, e2⟩ | ⟨g, cap, cur, e1, _, e3, _, _, _, e7⟩
  · omega
  · simp only [Value.slice.injEq] at e1
    refine ⟨g, 0, e1.1, fun j hj => ?_⟩
    rw [Nat.zero_add, cell_of_row w g j cur 9 (0, 0) e3]
    have e8 : (cur.toList.take (n * 1))[j]? = some (.string l[j]) := by rw [e7]; simp [hj]
    rw [List.getElem?_take_of_lt (by omega)] at e8
    simpa using e8

theorem strs_one (l : List ByteArray) : ∀ u ∈ l.map Value.string, u.oneCell' = true := by
  intro u hu
  obtain ⟨s, _, rfl⟩ := List.mem_map.1 hu
  rfl

theorem Strs.news {w : World} {b off : Nat} {l : List ByteArray} (h : ∀ j (h : j < l.length), w.cell? ⟨b, off + j, none⟩ = some (.string l[j])) : ∀ j u, (l.map Value.string)[j]? = some u → w.cell? ((⟨b, off, none⟩ : Addr).add j) = some u := by
  intro j u hu
  rw [add_lit]
  have hj : j < l.length := by
    have := (List.getElem?_eq_some_iff.1 hu).1
    simpa using this
  rw [h j hj]
  simpa [hj] using hu

section
variable {P : Program} {w : World}

/-- 'append(s, xs...)' to a row of the call's own, of whatever slice. -/
theorem wpList_append_src {ops : Array Oper} {rest : List Oper} {o : Oper} {a : Act} {Q : Exit → Act → World → Prop} (hgd : o.guard = none) (s x : Operand) (t : TypeId)
    (ho : o.op = .call { callee := .builtin .append, args := #[s, x], argTypes := #[t, t] })
    (base : Nat) (e : TypeId) (i : TypeInfo) (z : Value) (size bytes : Nat) (ht : P.underlying t = some (.slice e)) (hi : P.info? e = some i) (hz : i.zero = some z)
    (hsize : i.size = size) (hby : i.bytes = bytes) (hzs : z.cells.size = size) (hsz : 0 < size)
    (v : Value) (n : Nat) (xs : List Value) (hs : a.eval s = v) (hown : w.ownsRow base e size v n xs)
    (A : Option Addr) (m c : Nat) (news : List Value) (hx : a.eval x = .slice A m c) (hl : news.length = m * size) (hnone : A = none → m = 0 ∧ c = 0) (hnews : ∀ ad, A = some ad → ∀ j u, news[j]? = some u → w.cell? (ad.add j) = some u) (h1 : ∀ u ∈ news, u.oneCell' = true)
    (h63 : n + m ≤ maxLen) (hbytes : (n + m) * bytes ≤ 140737488355328) (hbase : base ≤ w.heap.size)
    (h : ∀ v' w', w'.ownsRow base e size v' (n + m) (xs ++ news) → w.grownBy w' v.ownBlock → (v'.ownBlock = v.ownBlock ∨ v'.ownBlock = some w.heap.size) → wpList P ops Q rest (a.put o.dst v') w') : wpList P ops Q (o :: rest) a w := by
  cases A with
  | some ad => exact wpList_append_own_at w hgd s x t ho base e i z size bytes ht hi hz hsize hby hzs hsz v n xs hs hown ad m c news hx hl (hnews ad rfl) h1 h63 hbytes hbase fun v' w' e1 e2 _ e3 => h v' w' e1 e2 e3
  | none =>
    obtain ⟨rfl, rfl⟩ := hnone rfl
    have hn : news = [] := by simpa using hl
    subst hn
    refine wpList_append_own_none hgd s x t ho base e i size ht hi v n xs hs hown hx (h v w ?_ (World.grownBy.refl _ _) (.inl rfl))
    simpa using hown

/-- 'append(nil, make([]T, m)...)'. -/
theorem wpList_append_zeros_nil {ops : Array Oper} {rest : List Oper} {o : Oper} {a : Act} {Q : Exit → Act → World → Prop} (hgd : o.guard = none) (s x : Operand) (t tn : TypeId)
    (ho : o.op = .call { callee := .builtin .append, args := #[s, x], argTypes := #[t, tn] }) (e : TypeId) (i : TypeInfo) (z : Value) (kn kq : IntKind) (ht : P.underlying t = some (.slice e)) (htn : P.underlying tn = some (.int kn))
    (hi : P.info? e = some i) (hz : i.zero = some z) (hzs : z.cells.size = i.size) (m : Nat) (q : Int) (hs : a.eval s = .slice none 0 0) (hx : a.eval x = .int kq q) (hq : q = (m : Int))
    (h0 : 0 < m) (hsz : 0 < i.size) (h63 : m ≤ 1000) (hby : i.bytes ≤ 1000)
    (h : ∀ w' cap (cur : Array Value), Hid (w'.heap[w.heap.size]? = some (.cells cur e (0, 0))) → cur.size = cap * i.size → m ≤ cap → cap ≤ maxLen → w.grownBy w' none →
      wpList P ops Q rest (a.put o.dst (.slice (some ⟨w.heap.size, 0, none⟩) m cap)) w') : wpList P ops Q (o :: rest) a w := by
  subst hq
  have hf : (Builtin.firstCells i.size 0 (.slice none 0 0)).run P w.drew = .ok ([] : List Value).toArray w.drew := by simp [Builtin.firstCells]
  have hb1 : m * i.bytes ≤ 1000 * 1000 := Nat.mul_le_mul (by omega) hby
  have hb2 : (0 + m) * i.bytes ≤ 1000 * 1000 := Nat.mul_le_mul (by omega) hby
  have hr := Lib.run_append_grow_zeros (P := P) w t tn o.type e i z kq kn ht htn hi hz none 0 0 [] hf m h0 hsz (by omega) (by omega) (by omega)
    (growslice_fits (by omega) (by omega))
  have hge := grownCap_ge w (0 + m) 0 e
  rw [Nat.zero_add] at hr hge
  refine Lib.wpList_append_run w hgd s x t tn ho _ _ hs hx _ _ hr (h _ _ (([] : List Value).toArray ++ Builtin.zeroCells z.cells m ++ Builtin.zeroCells z.cells (grownCap w m 0 e - m)) ?_ ?_ hge ?_ ?_)
  · exact heap_alloc_new w.drew _
  · simp only [Array.size_append, size_zeroCells, hzs]
    simp
    rw [← Nat.add_mul]
    congr 1
    omega
  · exact grownCap_le_maxLen w m 0 e (by simp only [maxLen]; omega)
  · exact ⟨rfl, rfl, rfl, by simp, fun k hk _ => Below.heap_alloc w.drew _ k hk⟩
end

set_option maxRecDepth 100000 in
theorem grow_any (m : Nat) (w : World) (hm : m ≤ 1000) : Calls Try.prog 96 #[.slice none 0 0, .int .i64 m] w fun e w' => (∃ v, e = .returned v ∧ w'.ownsRow w.heap.size 9 1 v 0 []) ∧ Below w.heap.size w w' := by
  obtain ⟨i0, hi0, hz0, hz1, hz2⟩ := info_parts info9
  by_cases h0 : m = 0
  · subst h0
    go_enter Try.func96, Try.ntmps96
    go_wp2_with fail
    go_ret
    exact ⟨⟨_, rfl, World.ownsRow_nil _ _ _ _⟩, Below.refl _ _⟩
  · have h1 : (0 : Int) < (m : Int) := by omega
    go_enter Try.func96, Try.ntmps96
    go_wp2_with (at_builtin; refine wpList_append_zeros_nil (by rfl) (.tmp 20) (.tmp 21) 48 3 (by rfl) 9 i0 _ .i64 .i64 Try.underlying48 Try.underlying3 hi0 hz0 (by rw [hz1]; rfl) m _ (by rfl) (by rfl) (by omega) (by omega) (by omega) hm (by omega) ?_; intro w1 cap cur hh hc hmc hcm hgr; have Hh := hh; have Hg := Lib.hid hgr; clear hh hgr)
    go_ret
    refine ⟨⟨_, rfl, rfl, .inr ⟨w.heap.size, cap, cur, rfl, Nat.le_refl _, Hh.out, by omega, hcm, by rw [hc, hz1], by simp⟩⟩, (Below.refl _ _).grown Hg.out (Nat.le_refl _) (fun k hk => by cases hk)⟩

/-- All of some lists. -/
def cat (L : Nat → List ByteArray) (k : Nat) : List ByteArray := (List.range k).flatMap L
theorem cat_succ (L : Nat → List ByteArray) (k : Nat) : cat L (k + 1) = cat L k ++ L k := by
  unfold cat
  rw [List.range_succ, List.flatMap_append]
  simp

set_option maxRecDepth 100000 in
set_option maxHeartbeats 1000000 in
theorem concat_any (g n cap : Nat) (AA : Nat → Option Addr) (CC : Nat → Nat) (L : Nat → List ByteArray) (w : World) (hn : n ≤ 1000) (hc : ∀ j, j < n → w.cell? ⟨g, j, none⟩ = some (.slice (AA j) (L j).length (CC j)))
    (hs : ∀ j, j < n → Strs w (AA j) (L j)) (hno : ∀ j, j < n → AA j = none → (L j).length = 0 ∧ CC j = 0) (hsum : ∀ k, k ≤ n → (cat L k).length ≤ 1000) :
    Calls Try.prog 33 #[.slice (some ⟨g, 0, none⟩) n cap] w fun e w' => (∃ v, e = .returned v ∧ w'.ownsRow w.heap.size 9 1 v (cat L n).length ((cat L n).map .string)) ∧ Below w.heap.size w w' := by
  have HC := Lib.hid hc
  have HS := Lib.hid hs
  have HNO := Lib.hid hno
  have HSum := Lib.hid hsum
  obtain ⟨i0, hi0, hz0, hz1, hz2⟩ := info_parts info9
  clear hc hs hno hsum
  go_enter Try.func33, Try.ntmps33
  go_wp2_with fail
  go_loopw [3, 5, 11] (fun s _ i wr => ∃ k : Nat, k ≤ n ∧ i = .int .i64 k ∧ s = .int .i64 (cat L k).length ∧ Hid (wr = w)) (fun _ _ i _ => n - (intOf i).toNat)
  case atStart => exact ⟨0, by omega, rfl, rfl, rfl⟩
  case round =>
    obtain ⟨k, hk, rfl, rfl, hw⟩ := hrel
    obtain rfl := hw.out
    by_cases hlt : k < n
    · have q := HC.out k hlt
      have hki : (k : Int) < (n : Int) := by omega
      have hk0 : (0 : Int) ≤ (k : Int) := by omega
      have hkw : IntKind.i64.wrap ((k : Int) + 1) = (k : Int) + 1 := IntWalk.i64_in _ (by omega)
      have h1 := HSum.out k hk
      have h2 := HSum.out (k + 1) (by omega)
      have e2 : (cat L (k + 1)).length = (cat L k).length + (L k).length := by rw [cat_succ, List.length_append]
      have E2 := Lib.hid e2
      have hsw : IntKind.i64.wrap (((cat L k).length : Int) + ((L k).length : Int)) = ((cat L (k + 1)).length : Int) := by
        rw [IntWalk.i64_in _ (by omega)]
        omega
      have hns : ¬ ((cat L (k + 1)).length : Int) < 0 := by omega
      clear e2
      go_wp2_with fail
      go_roundw
      case rel => exact ⟨k + 1, by omega, by go_num, rfl, trivial⟩
      case measure => simp [intOf]; omega
    · have hkn : k = n := by omega
      subst hkn
      have h1 := HSum.out k (by omega)
      go_wp2_with (go_at_call 96; refine (grow_any (cat L k).length _ h1).mono ?_; rintro e w1 ⟨⟨v1, rfl, ho1⟩, hb1⟩; have Ho1 := Lib.hid ho1; have Hb1 := Lib.hid hb1; clear ho1 hb1)
      obtain ⟨wI, rfl⟩ : ∃ x, x = wr := ⟨wr, rfl⟩
      go_loopw [6, 8, 27] (fun v _ i wr => ∃ q : Nat, q ≤ k ∧ i = .int .i64 q ∧ Hid (wr.ownsRow wI.heap.size 9 1 v (cat L q).length ((cat L q).map .string)) ∧ Hid (Below wI.heap.size wI wr)) (fun _ _ i _ => k - (intOf i).toNat)
      case atStart =>
        exact ⟨0, by omega, rfl, Ho1.out, Hb1.out⟩
      case round =>
        obtain ⟨q, hq, rfl, HO, HB⟩ := hrel
        by_cases hlq : q < k
        · have hcell := bsome HB.out (HC.out q hlq)
          have hstr := (HS.out q hlq).below HB.out
          have Hstr := Lib.hid hstr
          have hki : (q : Int) < (k : Int) := by omega
          have hk0 : (0 : Int) ≤ (q : Int) := by omega
          have hkw : IntKind.i64.wrap ((q : Int) + 1) = (q : Int) + 1 := IntWalk.i64_in _ (by omega)
          have h2 := HSum.out (q + 1) (by omega)
          have e2 : (cat L (q + 1)).length = (cat L q).length + (L q).length := by rw [cat_succ, List.length_append]
          have E2 := Lib.hid e2
          have hle : (cat L q).length + (L q).length ≤ 1000 := by omega
          clear e2 hstr
          go_wp2_with (at_builtin; refine wpList_append_src (by rfl) (.tmp 31) (.tmp 32) 48 (by rfl) wI.heap.size 9 i0 _ 1 16 Try.underlying48 hi0 hz0 hz1 hz2 (by rfl) (by omega) _ _ _ (by rfl) HO.out (AA q) (L q).length (CC q) ((L q).map .string) (by rfl) (by simp) (HNO.out q hlq) ?b1 (strs_one _) ?b2 ?b3 HB.out.size ?_; (case b1 => (intro ad ha j u hu; obtain ⟨b, off, e1, e2⟩ := Hstr.out (by have := (List.getElem?_eq_some_iff.1 hu).1; simp at this; omega); rw [ha] at e1; cases e1; exact Strs.news e2 j u hu)); (case b2 => (simp only [maxLen]; omega)); (case b3 => omega); intro v9 w9 ho9 hg9 _; have hB9 := HB.out.grown hg9 HB.out.size (fun k hk => (HO.out.lt k hk).1); have Ho9 := Lib.hid ho9; have Hb9 := Lib.hid hB9; clear ho9 hg9 hB9)
          go_roundw
          case rel =>
            refine ⟨q + 1, by omega, by go_num, ?_, Hb9.out⟩
            show w9.ownsRow wI.heap.size 9 1 v9 (cat L (q + 1)).length ((cat L (q + 1)).map .string)
            rw [E2.out, cat_succ, List.map_append]
            exact Ho9.out
          case measure => simp [intOf]; omega
        · have hkq : q = k := by omega
          subst hkq
          go_wp2_with fail
          go_ret
          exact ⟨⟨_, rfl, HO.out⟩, HB.out⟩

theorem equal_strs (A A' : Option Addr) (c c' : Nat) (l : List ByteArray) (w : World) (h : Strs w A l) (h' : Strs w A' l) (hl : l.length ≤ 17592186044416) :
    Calls Try.prog 32 #[.slice A l.length c, .slice A' l.length c'] w fun e w' => e = .returned (.bool true) ∧ Below w.heap.size w w' := by
  go_enter Try.func32, Try.ntmps32
  go_wp2_with fail
  go_loopw [5, 13] (fun _ i wr => ∃ k : Nat, k ≤ l.length ∧ i = .int .i64 k ∧ Below w.heap.size w wr) (fun _ i _ => l.length - (intOf i).toNat)
  case atStart => exact ⟨0, Nat.zero_le _, rfl, Below.refl _ _⟩
  case round =>
    obtain ⟨k, hk, rfl, hb⟩ := hrel
    by_cases hlt : k < l.length
    · obtain ⟨b, off, rfl, hc⟩ := (h.below hb) (by omega)
      obtain ⟨b', off', rfl, hc'⟩ := (h'.below hb) (by omega)
      have q := hc k hlt
      have q' := hc' k hlt
      have hkk : (k : Int) < (l.length : Int) := by omega
      have hk0 : (0 : Int) ≤ (k : Int) := by omega
      have hsame := sq_self l[k]
      clear hc hc'
      have Hb := Lib.hid hb
      clear hb
      go_wp2_with fail
      go_quiet (fail)
      go_wp2_with fail
      go_roundw
      case rel => exact ⟨k + 1, by omega, by go_num, below_drewN Hb.out _⟩
      case measure => simp [intOf]; omega
    · have hk2 : k = l.length := by omega
      subst hk2
      go_wp2_with fail
      go_ret
      exact ⟨rfl, hb⟩

/-- 'Within'. -/
def within (n k : Int) : Int := n % 18446744073709551616 % k

theorem within_in {n k : Int} (h : 0 < k) : 0 ≤ within n k ∧ within n k < k := ⟨Int.emod_nonneg _ (by omega), Int.emod_lt_of_pos _ h⟩

theorem within_any (n k : Int) (w : World) (h1 : 1 ≤ k) (h2 : k ≤ 1073741824) : Calls Try.prog 30 #[.int .i64 n, .int .i64 k] w fun e w' => e = .returned (.int .i64 (within n k)) ∧ w = w' := by
  have hk : IntKind.u64.wrap k = k := by rw [IntKind.wrap_u64]; omega
  have hz : (k == 0) = false := by simp; omega
  have hm : wrap64 ((IntKind.u64.wrap n).tmod k) = within n k := by
    rw [IntKind.wrap_u64]
    have h0 : 0 ≤ n % 18446744073709551616 := Int.emod_nonneg _ (by omega)
    rw [Int.tmod_eq_emod_of_nonneg h0]
    have := within_in (n := n) (k := k) (by omega)
    exact IntWalk.wrap64_in _ (by unfold within at this; omega)
  have Hm := Lib.hid hm
  clear hm
  go_enter Try.func30, Try.ntmps30
  go_wp2_with fail
  go_ret
  exact ⟨ret_int Hm.out, rfl⟩

end Go.Proofs.Ytmclalhjnjghnaa
