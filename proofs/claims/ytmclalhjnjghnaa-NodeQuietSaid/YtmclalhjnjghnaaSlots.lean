/- A region that draws its order, told slot by slot: what each operation yields, whatever order is drawn, where each operation only lets the memory grow. -/
import Derived.Test.YtmclalhjnjghnaaMem
import Derived.RegionTactic
namespace Go.Proofs.Ytmclalhjnjghnaa
open Go.RowKit Hw

theorem count_set_true : ∀ (l : List Bool) (i : Nat), l[i]? = some false → (l.set i true).count false + 1 = l.count false
  | [], i, h => by simp at h
  | b :: l, 0, h => by
    simp at h
    subst h
    simp
  | b :: l, i + 1, h => by
    have := count_set_true l i (by simpa using h)
    cases b <;> simp <;> omega

section
variable {P : Program} {ops : Array Oper} {Q : Exit → Act → World → Prop} {a0 : Act} (sl : Nat → Tmp) (Val : Nat → Value → World → Prop) (C : World → Prop)

def SlotInv (ops : Array Oper) (a0 : Act) (listed : Array Bool) (a : Act) (w : World) : Prop :=
  listed.size = ops.size ∧ C w ∧ a.defers = a0.defers ∧ a.tmps.size = a0.tmps.size ∧ (∀ t, (∀ j, j < ops.size → sl j ≠ t) → a.tmps.getD t undef = a0.tmps.getD t undef) ∧
    ∀ j, j < ops.size → listed.getD j false = true → Val j (a.tmps.getD (sl j) undef) w

theorem wpAny_slots (hsl : ∀ (i : Nat) (o : Oper), ops[i]? = some o → o.dst = some (sl i) ∧ sl i < a0.tmps.size ∧ o.guard = none) (hinj : ∀ i j, i < ops.size → j < ops.size → sl i = sl j → i = j)
    (hacyc : ∀ (i : Nat) (o : Oper), ops[i]? = some o → ∀ e ∈ o.after, Region.binds .any e = true → e.on < i) (hstab : ∀ j v w w', C w → Val j v w → Below w.heap.size w w' → Val j v w')
    (hstep : ∀ (i : Nat) (o : Oper), ops[i]? = some o → ∀ (a : Act) (w : World), C w → a.tmps.size = a0.tmps.size → (∀ t, (∀ j, j < ops.size → sl j ≠ t) → a.tmps.getD t undef = a0.tmps.getD t undef) →
      (∀ e ∈ o.after, Region.binds .any e = true → Val e.on (a.tmps.getD (sl e.on) undef) w) →
      ∀ K : Act → World → Prop, (∀ v w', C w' → Below w.heap.size w w' → Val i v w' → K (a.put o.dst v) w') → Oper.wp P o a w K Q)
    (hdone : ∀ (a : Act) (w : World), C w → a.defers = a0.defers → a.tmps.size = a0.tmps.size → (∀ t, (∀ j, j < ops.size → sl j ≠ t) → a.tmps.getD t undef = a0.tmps.getD t undef) →
      (∀ j, j < ops.size → Val j (a.tmps.getD (sl j) undef) w) → Q .normal a w) :
    ∀ (fuel : Nat) (listed : Array Bool) (a : Act) (w : World), listed.toList.count false ≤ fuel → SlotInv sl Val C ops a0 listed a w → wpAny P .any ops Q fuel listed a w := by
  have full : ∀ (listed : Array Bool) (a : Act) (w : World), SlotInv sl Val C ops a0 listed a w → Region.ready .any ops listed = [] → Q .normal a w := by
    intro listed a w ⟨h1, h2, h3, h4, h5, h6⟩ hr
    refine hdone a w h2 h3 h4 h5 fun j hj => h6 j hj ?_
    induction j using Nat.strongRecOn with
    | _ j ih =>
      by_cases hl : listed.getD j false = true
      · exact hl
      · exfalso
        have : j ∈ Region.ready .any ops listed := by
          refine mem_ready.2 ⟨?_, ops[j], Array.getElem?_eq_getElem hj, fun e he hb => ih e.on (hacyc j _ (Array.getElem?_eq_getElem hj) e he hb) ?_⟩
          · simp [h1, hj] at hl ⊢
            exact hl
          · have := hacyc j _ (Array.getElem?_eq_getElem hj) e he hb
            omega
        rw [hr] at this
        cases this
  intro fuel
  induction fuel with
  | zero =>
    intro listed a w hc hI
    have hr : Region.ready .any ops listed = [] := by
      refine List.eq_nil_iff_forall_not_mem.2 fun j hj => ?_
      obtain ⟨h1, _⟩ := mem_ready.1 hj
      have : false ∈ listed.toList := by
        rcases Nat.lt_or_ge j listed.size with h | h
        · simp [h] at h1
          rw [← h1]
          simp
        · simp [Array.getElem?_eq_none h] at h1
      have := List.count_pos_iff.2 this
      omega
    exact ⟨hr, full _ _ _ hI hr⟩
  | succ fuel ih =>
    intro listed a w hc hI
    refine ⟨full _ _ _ hI, fun i hi => ?_⟩
    obtain ⟨hun, o, ho, hall⟩ := mem_ready.1 hi
    obtain ⟨h1, h2, h3, h4, h5, h6⟩ := hI
    obtain ⟨hd, hs, hg⟩ := hsl i o ho
    have hin : i < ops.size := (Array.getElem?_eq_some_iff.1 ho).1
    refine wpOp_step ho fun K' hK => ?_
    rw [if_pos (by simp [Region.wanted, hg])]
    refine hstep i o ho a w h2 h4 h5 (fun e he hb => h6 e.on (by
      have := hacyc i o ho e he hb
      omega) (hall e he hb)) K' fun v w' hC hb hv => hK _ _ (ih _ _ _ ?_ ?_)
    · have hli : listed.toList[i]? = some false := by
        have : i < listed.size := by omega
        simp [this] at hun
        simp [this, hun]
      have := count_set_true listed.toList i hli
      rw [Array.toList_setIfInBounds]
      omega
    · refine ⟨by simp [h1], hC, by rw [hd]; exact h3, by rw [hd]; simp [Act.put, h4], fun t ht => ?_, fun j hj hl => ?_⟩
      · rw [hd]
        have hne := ht i hin
        simp only [Act.put]
        rw [← h5 t ht]
        simp [Array.getElem?_setIfInBounds_ne hne]
      · by_cases hji : j = i
        · subst hji
          rw [hd]
          simp only [Act.put]
          have : sl j < a.tmps.size := by rw [h4]; exact hs
          simp [this]
          exact hv
        · rw [hd]
          have hne : sl i ≠ sl j := fun e => hji (hinj i j hin hj e).symm
          simp only [Act.put]
          have e1 : (a.tmps.setIfInBounds (sl i) v).getD (sl j) undef = a.tmps.getD (sl j) undef := by simp [Array.getElem?_setIfInBounds_ne hne]
          rw [e1]
          rw [getD_set_ne false (Ne.symm hji)] at hl
          exact hstab j _ w w' h2 (h6 j hj hl) hb

theorem wp_region_slots {id : Nat} {w0 : World} (hm : P.follows .mixedOrders = true) (hsl : ∀ (i : Nat) (o : Oper), ops[i]? = some o → o.dst = some (sl i) ∧ sl i < a0.tmps.size ∧ o.guard = none)
    (hinj : ∀ i j, i < ops.size → j < ops.size → sl i = sl j → i = j)
    (hacyc : ∀ (i : Nat) (o : Oper), ops[i]? = some o → ∀ e ∈ o.after, Region.binds .any e = true → e.on < i) (hstab : ∀ j v w w', C w → Val j v w → Below w.heap.size w w' → Val j v w')
    (hstep : ∀ (i : Nat) (o : Oper), ops[i]? = some o → ∀ (a : Act) (w : World), C w → a.tmps.size = a0.tmps.size → (∀ t, (∀ j, j < ops.size → sl j ≠ t) → a.tmps.getD t undef = a0.tmps.getD t undef) →
      (∀ e ∈ o.after, Region.binds .any e = true → Val e.on (a.tmps.getD (sl e.on) undef) w) →
      ∀ K : Act → World → Prop, (∀ v w', C w' → Below w.heap.size w w' → Val i v w' → K (a.put o.dst v) w') → Oper.wp P o a w K Q)
    (hdone : ∀ (a : Act) (w : World), C w → a.defers = a0.defers → a.tmps.size = a0.tmps.size → (∀ t, (∀ j, j < ops.size → sl j ≠ t) → a.tmps.getD t undef = a0.tmps.getD t undef) →
      (∀ j, j < ops.size → Val j (a.tmps.getD (sl j) undef) w) → Q .normal a w) (hC : C w0.drew) : (Code.region id ops true).wp P Q a0 w0 := by
  refine wp_region_any hm (wpAny_slots sl Val C hsl hinj hacyc hstab hstep hdone _ _ _ _ ?_ ⟨by simp, hC, rfl, rfl, fun _ _ => rfl, fun j hj hl => ?_⟩)
  · simp
  · simp [hj] at hl

/-- One proof an operation. -/
def AllOps (F : Nat → Oper → Prop) (k : Nat) (l : List Oper) : Prop := ∀ (i : Nat) (o : Oper), l[i]? = some o → F (k + i) o

theorem AllOps.nil {F : Nat → Oper → Prop} {k : Nat} : AllOps F k [] := fun i o h => by simp at h
theorem AllOps.cons {F : Nat → Oper → Prop} {k : Nat} {o : Oper} {l : List Oper} (h : F k o) (hs : AllOps F (k + 1) l) : AllOps F k (o :: l) := fun i o' h' => by
  cases i with
  | zero =>
    simp at h'
    subst h'
    exact h
  | succ i =>
    have := hs i o' (by simpa using h')
    rwa [show k + 1 + i = k + (i + 1) by omega] at this

/-- What is closed in the form of such a region. -/
def slotsB (l : List Oper) (sls : List Nat) (n : Nat) : Bool :=
  ((List.range l.length).all fun i => match l[i]? with
    | none => true
    | some o => o.dst == some (sls.getD i 0) && decide (sls.getD i 0 < n) && o.guard.isNone && o.after.all (fun e => !Region.binds .any e || decide (e.on < i))) &&
  (List.range l.length).all fun i => (List.range l.length).all fun j => i == j || sls.getD i 0 != sls.getD j 0

theorem slotsB_sl {l : List Oper} {sls : List Nat} {n : Nat} (h : slotsB l sls n = true) : ∀ (i : Nat) (o : Oper), l.toArray[i]? = some o → o.dst = some (sls.getD i 0) ∧ sls.getD i 0 < n ∧ o.guard = none := by
  intro i o ho
  rw [List.getElem?_toArray] at ho
  have hi : i < l.length := (List.getElem?_eq_some_iff.1 ho).1
  have h1 := List.all_eq_true.1 ((Bool.and_eq_true _ _ ▸ h).1) i (List.mem_range.2 hi)
  rw [ho] at h1
  simp only [Bool.and_eq_true, decide_eq_true_eq, beq_iff_eq, Option.isNone_iff_eq_none] at h1
  exact ⟨h1.1.1.1, h1.1.1.2, h1.1.2⟩

theorem slotsB_acyc {l : List Oper} {sls : List Nat} {n : Nat} (h : slotsB l sls n = true) : ∀ (i : Nat) (o : Oper), l.toArray[i]? = some o → ∀ e ∈ o.after, Region.binds .any e = true → e.on < i := by
  intro i o ho e he hb
  rw [List.getElem?_toArray] at ho
  have hi : i < l.length := (List.getElem?_eq_some_iff.1 ho).1
  have h1 := List.all_eq_true.1 ((Bool.and_eq_true _ _ ▸ h).1) i (List.mem_range.2 hi)
  rw [ho] at h1
  simp only [Bool.and_eq_true] at h1
  have := (Array.all_eq_true_iff_forall_mem.1 h1.2) e he
  simpa [hb] using this

theorem slotsB_inj {l : List Oper} {sls : List Nat} {n : Nat} (h : slotsB l sls n = true) : ∀ i j, i < l.toArray.size → j < l.toArray.size → sls.getD i 0 = sls.getD j 0 → i = j := by
  intro i j hi hj he
  have h1 := List.all_eq_true.1 ((Bool.and_eq_true _ _ ▸ h).2) i (List.mem_range.2 (by simpa using hi))
  have h2 := List.all_eq_true.1 h1 j (List.mem_range.2 (by simpa using hj))
  simp only [Bool.or_eq_true, beq_iff_eq, bne_iff_ne] at h2
  exact h2.resolve_right (fun hn => hn he)

theorem wp_region_told {id : Nat} {w0 : World} {l : List Oper} (sls : List Nat) (hB : slotsB l sls a0.tmps.size = true) (hm : P.follows .mixedOrders = true)
    (hstab : ∀ (j : Nat) (v : Value) (w w' : World), C w → Val j v w → Below w.heap.size w w' → Val j v w') (hC : C w0.drew)
    (hstep : AllOps (fun i o => ∀ (a : Act) (w : World), C w → (∀ t, (∀ j, j < l.length → sls.getD j 0 ≠ t) → a.tmps.getD t undef = a0.tmps.getD t undef) →
      (∀ e ∈ o.after, Region.binds .any e = true → Val e.on (a.tmps.getD (sls.getD e.on 0) undef) w) →
      ∀ K : Act → World → Prop, (∀ v w', C w' → Below w.heap.size w w' → Val i v w' → K (a.put o.dst v) w') → Oper.wp P o a w K Q) 0 l)
    (hdone : ∀ (a : Act) (w : World), C w → a.defers = a0.defers → a.tmps.size = a0.tmps.size → (∀ t, (∀ j, j < l.length → sls.getD j 0 ≠ t) → a.tmps.getD t undef = a0.tmps.getD t undef) →
      (∀ j, j < l.length → Val j (a.tmps.getD (sls.getD j 0) undef) w) → Q .normal a w) : (Code.region id l.toArray true).wp P Q a0 w0 := by
  refine wp_region_slots (fun j => sls.getD j 0) Val C hm (slotsB_sl hB) (slotsB_inj hB) (slotsB_acyc hB) hstab (fun i o ho a w hC' hsz hk hv K hK => ?_) (fun a w h1 h2 h3 h4 h5 => ?_) hC
  · have := hstep i o (by simpa using ho)
    rw [Nat.zero_add] at this
    exact this a w hC' (fun t ht => hk t (by simpa using ht)) hv K hK
  · exact hdone a w h1 h2 h3 (fun t ht => h4 t (by simpa using ht)) (fun j hj => h5 j (by simpa using hj))

/-- The frame behind the region: its slots hold what they hold. -/
def setAll (t0 : Array Value) (sls : List Nat) (us : Nat → Value) (k : Nat) : Array Value :=
  match sls with
  | [] => t0
  | s :: rest => setAll (t0.setIfInBounds s (us k)) rest us (k + 1)

theorem setAll_spec (t : Array Value) (us : Nat → Value) : ∀ (sls : List Nat) (t0 : Array Value) (k : Nat), t0.size = t.size → (∀ j, j < sls.length → us (k + j) = t.getD (sls.getD j 0) undef) → (∀ x, (∀ j, j < sls.length → sls.getD j 0 ≠ x) → t0[x]? = t[x]?) →
    setAll t0 sls us k = t
  | [], t0, k, hs, _, hx => by
    unfold setAll
    apply Array.ext_getElem?
    intro x
    exact hx x (fun j hj => by simp at hj)
  | s :: rest, t0, k, hs, hu, hx => by
    unfold setAll
    refine setAll_spec t us rest _ (k + 1) (by simpa using hs) (fun j hj => ?_) (fun x hn => ?_)
    · have := hu (j + 1) (by simp; omega)
      rw [show k + (j + 1) = k + 1 + j by omega] at this
      simpa using this
    · by_cases hsx : s = x
      · subst hsx
        have h0 := hu 0 (by simp)
        simp at h0
        rcases Nat.lt_or_ge s t.size with hl | hl
        · rw [Array.getElem?_setIfInBounds_self_of_lt (by omega), h0]
          simp [hl]
        · rw [Array.getElem?_eq_none (by simp; omega), Array.getElem?_eq_none hl]
      · rw [Array.getElem?_setIfInBounds_ne hsx]
        refine hx x fun j hj => ?_
        cases j with
        | zero => simpa using hsx
        | succ j => simpa using hn j (by simpa using hj)

theorem wp_region_lit {id : Nat} {w0 : World} {l : List Oper} (sls : List Nat) (hB : slotsB l sls a0.tmps.size = true) (hL : sls.length = l.length) (hm : P.follows .mixedOrders = true)
    (hstab : ∀ (j : Nat) (v : Value) (w w' : World), C w → Val j v w → Below w.heap.size w w' → Val j v w') (hC : C w0.drew)
    (hstep : AllOps (fun i o => ∀ (a : Act) (w : World), C w → (∀ t, (∀ j, j < l.length → sls.getD j 0 ≠ t) → a.tmps.getD t undef = a0.tmps.getD t undef) →
      (∀ e ∈ o.after, Region.binds .any e = true → Val e.on (a.tmps.getD (sls.getD e.on 0) undef) w) →
      ∀ K : Act → World → Prop, (∀ v w', C w' → Below w.heap.size w w' → Val i v w' → K (a.put o.dst v) w') → Oper.wp P o a w K Q) 0 l)
    (hdone : ∀ (us : Nat → Value) (w : World), C w → (∀ j, j < l.length → Val j (us j) w) → Q .normal { tmps := setAll a0.tmps sls us 0, defers := a0.defers } w) : (Code.region id l.toArray true).wp P Q a0 w0 := by
  refine wp_region_told Val C sls hB hm hstab hC hstep fun a w hC' hd hs hk hv => ?_
  have e : setAll a0.tmps sls (fun j => a.tmps.getD (sls.getD j 0) undef) 0 = a.tmps := by
    refine setAll_spec a.tmps _ sls a0.tmps 0 hs.symm (fun j hj => by simp) (fun x hx => ?_)
    have := hk x (fun j hj => hx j (by rw [hL]; exact hj))
    rcases Nat.lt_or_ge x a.tmps.size with hl | hl
    · have hl0 : x < a0.tmps.size := by omega
      simp [hl, hl0] at this ⊢
      exact this.symm
    · rw [Array.getElem?_eq_none hl, Array.getElem?_eq_none (by omega)]
  have := hdone (fun j => a.tmps.getD (sls.getD j 0) undef) w hC' hv
  rw [e, ← hd] at this
  exact this

end
end Go.Proofs.Ytmclalhjnjghnaa
