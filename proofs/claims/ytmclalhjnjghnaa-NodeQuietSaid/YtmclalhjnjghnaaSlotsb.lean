/- A region that draws its order, told slot by slot, where operations also write: what holds of the world hangs on which operations have run. -/
import Derived.Test.YtmclalhjnjghnaaSlots
import Derived.Maps.AppendAt
namespace Go.Proofs.Ytmclalhjnjghnaa
open Go.RowKit Hw

def upd (L : Nat → Bool) (i j : Nat) : Bool := j == i || L j

section
variable {P : Program} {ops : Array Oper} {Q : Exit → Act → World → Prop} {a0 : Act} (sl : Nat → Tmp) (Val : Nat → Value → World → Prop) (C : (Nat → Bool) → World → Prop)

def SlotInvb (ops : Array Oper) (a0 : Act) (listed : Array Bool) (a : Act) (w : World) : Prop :=
  listed.size = ops.size ∧ C (fun j => listed.getD j false) w ∧ a.defers = a0.defers ∧ a.tmps.size = a0.tmps.size ∧ (∀ t, (∀ j, j < ops.size → listed.getD j false = true → sl j ≠ t) → a.tmps.getD t undef = a0.tmps.getD t undef) ∧
    ∀ j, j < ops.size → listed.getD j false = true → Val j (a.tmps.getD (sl j) undef) w

theorem wpAny_slotsb (hsl : ∀ (i : Nat) (o : Oper), ops[i]? = some o → (o.dst = some (sl i) ∧ sl i < a0.tmps.size ∨ o.dst = none ∧ ∀ v w, Val i v w) ∧ o.guard = none) (hinj : ∀ i j, i < ops.size → j < ops.size → sl i = sl j → i = j)
    (hacyc : ∀ (i : Nat) (o : Oper), ops[i]? = some o → ∀ e ∈ o.after, Region.binds .any e = true → e.on < i)
    (hstep : ∀ (i : Nat) (o : Oper), ops[i]? = some o → ∀ (L : Nat → Bool) (a : Act) (w : World), L i = false → C L w → a.tmps.size = a0.tmps.size → (∀ t, (∀ j, j < ops.size → L j = true → sl j ≠ t) → a.tmps.getD t undef = a0.tmps.getD t undef) →
      (∀ e ∈ o.after, Region.binds .any e = true → L e.on = true ∧ Val e.on (a.tmps.getD (sl e.on) undef) w) →
      ∀ K : Act → World → Prop, (∀ v w', C (upd L i) w' → (∀ j u, j < ops.size → L j = true → Val j u w → Val j u w') → Val i v w' → K (a.put o.dst v) w') → Oper.wp P o a w K Q)
    (hdone : ∀ (L : Nat → Bool) (a : Act) (w : World), (∀ j, j < ops.size → L j = true) → C L w → a.defers = a0.defers → a.tmps.size = a0.tmps.size → (∀ t, (∀ j, j < ops.size → sl j ≠ t) → a.tmps.getD t undef = a0.tmps.getD t undef) →
      (∀ j, j < ops.size → Val j (a.tmps.getD (sl j) undef) w) → Q .normal a w) :
    ∀ (fuel : Nat) (listed : Array Bool) (a : Act) (w : World), listed.toList.count false ≤ fuel → SlotInvb sl Val C ops a0 listed a w → wpAny P .any ops Q fuel listed a w := by
  have full : ∀ (listed : Array Bool) (a : Act) (w : World), SlotInvb sl Val C ops a0 listed a w → Region.ready .any ops listed = [] → Q .normal a w := by
    intro listed a w ⟨h1, h2, h3, h4, h5, h6⟩ hr
    have hall : ∀ j, j < ops.size → listed.getD j false = true := by
      intro j hj
      induction j using Nat.strongRecOn with
      | _ j ih =>
        by_cases hl : listed.getD j false = true
        · exact hl
        · exfalso
          have : j ∈ Region.ready .any ops listed := by
            refine mem_ready.2 ⟨?_, ops[j], Array.getElem?_eq_getElem hj, fun e he hb => ih e.on (hacyc j _ (Array.getElem?_eq_getElem hj) e he hb) ?_⟩
            · simp [h1, hj] at hl ⊢
              exact hl
            · have := hacyc j _ (Array.getElem?_eq_getElem hj) e he hb
              omega
          rw [hr] at this
          cases this
    exact hdone _ a w hall h2 h3 h4 (fun t ht => h5 t fun j hj _ => ht j hj) fun j hj => h6 j hj (hall j hj)
  intro fuel
  induction fuel with
  | zero =>
    intro listed a w hc hI
    have hr : Region.ready .any ops listed = [] := by
      refine List.eq_nil_iff_forall_not_mem.2 fun j hj => ?_
      obtain ⟨h1, _⟩ := mem_ready.1 hj
      have : false ∈ listed.toList := by
        rcases Nat.lt_or_ge j listed.size with h | h
        · simp [h] at h1
          rw [← h1]
          simp
        · simp [Array.getElem?_eq_none h] at h1
      have := List.count_pos_iff.2 this
      omega
    exact ⟨hr, full _ _ _ hI hr⟩
  | succ fuel ih =>
    intro listed a w hc hI
    refine ⟨full _ _ _ hI, fun i hi => ?_⟩
    obtain ⟨hun, o, ho, hall⟩ := mem_ready.1 hi
    obtain ⟨h1, h2, h3, h4, h5, h6⟩ := hI
    obtain ⟨hd, hg⟩ := hsl i o ho
    have hin : i < ops.size := (Array.getElem?_eq_some_iff.1 ho).1
    have hL : listed.getD i false = false := by
      have : i < listed.size := by omega
      simp [this] at hun ⊢
      exact hun
    refine wpOp_step ho fun K' hK => ?_
    rw [if_pos (by simp [Region.wanted, hg])]
    refine hstep i o ho _ a w hL h2 h4 h5 (fun e he hb => ⟨hall e he hb, h6 e.on (by
      have := hacyc i o ho e he hb
      omega) (hall e he hb)⟩) K' fun v w' hC hb hv => hK _ _ (ih _ _ _ ?_ ?_)
    · have hli : listed.toList[i]? = some false := by
        have : i < listed.size := by omega
        simp [this] at hun
        simp [this, hun]
      have := count_set_true listed.toList i hli
      rw [Array.toList_setIfInBounds]
      omega
    · have hup : (fun j => (listed.setIfInBounds i true).getD j false) = upd (fun j => listed.getD j false) i := by
        funext j
        unfold upd
        by_cases hji : j = i
        · subst hji
          have : j < listed.size := by omega
          simp [this]
        · rw [getD_set_ne false (Ne.symm hji)]
          simp [hji]
      refine ⟨by simp [h1], by rw [hup]; exact hC, ?_, ?_, fun t ht => ?_, fun j hj hl => ?_⟩
      · rcases hd with ⟨e, _⟩ | ⟨e, _⟩ <;> rw [e] <;> exact h3
      · rcases hd with ⟨e, _⟩ | ⟨e, _⟩ <;> rw [e] <;> simp [Act.put, h4]
      · rcases hd with ⟨e, _⟩ | ⟨e, _⟩
        · rw [e]
          have hne := ht i hin (by have : i < listed.size := by omega
                                   simp [this])
          simp only [Act.put]
          rw [← h5 t fun j hj hl => ht j hj (by
            by_cases hji : j = i
            · subst hji
              have : j < listed.size := by omega
              simp [this]
            · rw [getD_set_ne false (Ne.symm hji)]
              exact hl)]
          simp [Array.getElem?_setIfInBounds_ne hne]
        · rw [e]
          exact h5 t fun j hj hl => ht j hj (by
            by_cases hji : j = i
            · subst hji
              have : j < listed.size := by omega
              simp [this]
            · rw [getD_set_ne false (Ne.symm hji)]
              exact hl)
      · by_cases hji : j = i
        · subst hji
          rcases hd with ⟨e, hs⟩ | ⟨e, hn⟩
          · rw [e]
            simp only [Act.put]
            have : sl j < a.tmps.size := by rw [h4]; exact hs
            simp [this]
            exact hv
          · exact hn _ _
        · rw [getD_set_ne false (Ne.symm hji)] at hl
          refine hb j _ hj hl ?_
          rcases hd with ⟨e, hs⟩ | ⟨e, hn⟩
          · rw [e]
            have hne : sl i ≠ sl j := fun e => hji (hinj i j hin hj e).symm
            simp only [Act.put]
            have e1 : (a.tmps.setIfInBounds (sl i) v).getD (sl j) undef = a.tmps.getD (sl j) undef := by simp [Array.getElem?_setIfInBounds_ne hne]
            rw [e1]
            exact h6 j hj hl
          · rw [e]
            exact h6 j hj hl

/-- What is closed in the form of such a region; 'sls' gives a store a number at or above the frame's size. -/
def slotsBb (l : List Oper) (sls : List Nat) (n : Nat) : Bool :=
  ((List.range l.length).all fun i => match l[i]? with
    | none => true
    | some o => (o.dst == some (sls.getD i 0) && decide (sls.getD i 0 < n) || o.dst == none && decide (n ≤ sls.getD i 0)) && o.guard.isNone && o.after.all (fun e => !Region.binds .any e || decide (e.on < i))) &&
  (List.range l.length).all fun i => (List.range l.length).all fun j => i == j || sls.getD i 0 != sls.getD j 0

theorem slotsBb_sl {l : List Oper} {sls : List Nat} {n : Nat} (h : slotsBb l sls n = true) (hn : ∀ (i : Nat), i < l.length → n ≤ sls.getD i 0 → ∀ v w, Val i v w) : ∀ (i : Nat) (o : Oper), l.toArray[i]? = some o → (o.dst = some (sls.getD i 0) ∧ sls.getD i 0 < n ∨ o.dst = none ∧ ∀ v w, Val i v w) ∧ o.guard = none := by
  intro i o ho
  rw [List.getElem?_toArray] at ho
  have hi : i < l.length := (List.getElem?_eq_some_iff.1 ho).1
  have h1 := List.all_eq_true.1 ((Bool.and_eq_true _ _ ▸ h).1) i (List.mem_range.2 hi)
  rw [ho] at h1
  simp only [Bool.and_eq_true, Bool.or_eq_true, decide_eq_true_eq, beq_iff_eq, Option.isNone_iff_eq_none] at h1
  refine ⟨?_, h1.1.2⟩
  rcases h1.1.1 with e | e
  · exact .inl e
  · exact .inr ⟨e.1, hn i hi e.2⟩

theorem slotsBb_acyc {l : List Oper} {sls : List Nat} {n : Nat} (h : slotsBb l sls n = true) : ∀ (i : Nat) (o : Oper), l.toArray[i]? = some o → ∀ e ∈ o.after, Region.binds .any e = true → e.on < i := by
  intro i o ho e he hb
  rw [List.getElem?_toArray] at ho
  have hi : i < l.length := (List.getElem?_eq_some_iff.1 ho).1
  have h1 := List.all_eq_true.1 ((Bool.and_eq_true _ _ ▸ h).1) i (List.mem_range.2 hi)
  rw [ho] at h1
  simp only [Bool.and_eq_true] at h1
  have := (Array.all_eq_true_iff_forall_mem.1 h1.2) e he
  simpa [hb] using this

theorem slotsBb_inj {l : List Oper} {sls : List Nat} {n : Nat} (h : slotsBb l sls n = true) : ∀ i j, i < l.toArray.size → j < l.toArray.size → sls.getD i 0 = sls.getD j 0 → i = j := by
  intro i j hi hj he
  have h1 := List.all_eq_true.1 ((Bool.and_eq_true _ _ ▸ h).2) i (List.mem_range.2 (by simpa using hi))
  have h2 := List.all_eq_true.1 h1 j (List.mem_range.2 (by simpa using hj))
  simp only [Bool.or_eq_true, beq_iff_eq, bne_iff_ne] at h2
  exact h2.resolve_right (fun hn => hn he)

theorem wp_region_inv {id : Nat} {w0 : World} {l : List Oper} (sls : List Nat) (hB : slotsBb l sls a0.tmps.size = true) (hL : sls.length = l.length) (hm : P.follows .mixedOrders = true)
    (hn : ∀ (i : Nat), i < l.length → a0.tmps.size ≤ sls.getD i 0 → ∀ v w, Val i v w)
    (hC : C (fun _ => false) w0.drew)
    (hstep : AllOps (fun i o => ∀ (L : Nat → Bool) (a : Act) (w : World), L i = false → C L w → (∀ t, (∀ j, j < l.length → L j = true → sls.getD j 0 ≠ t) → a.tmps.getD t undef = a0.tmps.getD t undef) →
      (∀ e ∈ o.after, Region.binds .any e = true → L e.on = true ∧ Val e.on (a.tmps.getD (sls.getD e.on 0) undef) w) →
      ∀ K : Act → World → Prop, (∀ v w', C (upd L i) w' → (∀ j u, j < l.length → L j = true → Val j u w → Val j u w') → Val i v w' → K (a.put o.dst v) w') → Oper.wp P o a w K Q) 0 l)
    (hdone : ∀ (us : Nat → Value) (L : Nat → Bool) (w : World), (∀ j, j < l.length → L j = true) → C L w → (∀ j, j < l.length → Val j (us j) w) → Q .normal { tmps := setAll a0.tmps sls us 0, defers := a0.defers } w) : (Code.region id l.toArray true).wp P Q a0 w0 := by
  refine wp_region_any hm (wpAny_slotsb (fun j => sls.getD j 0) Val C (slotsBb_sl Val hB hn) (slotsBb_inj hB) (slotsBb_acyc hB) (fun i o ho L a w hLi hC' hsz hk hv K hK => ?_) (fun L a w hall h1 h2 h3 h4 h5 => ?_) _ _ _ _ ?_ ⟨by simp, ?_, rfl, rfl, fun _ _ => rfl, fun j hj hl => ?_⟩)
  · have := hstep i o (by simpa using ho)
    rw [Nat.zero_add] at this
    exact this L a w hLi hC' (fun t ht => hk t (fun j hj hl => ht j (by simpa using hj) hl)) hv K fun v w' h1 h2 h3 => hK v w' h1 (fun j u hj => h2 j u (by simpa using hj)) h3
  · have e : setAll a0.tmps sls (fun j => a.tmps.getD (sls.getD j 0) undef) 0 = a.tmps := by
      refine setAll_spec a.tmps _ sls a0.tmps 0 h3.symm (fun j hj => by simp) (fun x hx => ?_)
      have := h4 x (fun j hj => hx j (by rw [hL]; simpa using hj))
      rcases Nat.lt_or_ge x a.tmps.size with hl | hl
      · have hl0 : x < a0.tmps.size := by omega
        simp [hl, hl0] at this ⊢
        exact this.symm
      · rw [Array.getElem?_eq_none hl, Array.getElem?_eq_none (by omega)]
    have := hdone (fun j => a.tmps.getD (sls.getD j 0) undef) L w (fun j hj => hall j (by simpa using hj)) h1 (fun j hj => h5 j (by simpa using hj))
    rw [e, ← h2] at this
    exact this
  · simp
  · have : (fun j => (Array.replicate l.toArray.size false).getD j false) = fun _ => false := by
      funext j
      rcases Nat.lt_or_ge j l.length with h | h
      · simp [h]
      · simp [h]
    rw [this]
    exact hC
  · have hj' : j < l.length := by simpa using hj
    simp [hj'] at hl

theorem oper_append_own {o : Oper} {a : Act} {w : World} {K : Act → World → Prop} (s x : Operand) (t : TypeId) (ho : o.op = .call { callee := .builtin .append, args := #[s, x], argTypes := #[t, t] })
    (base : Nat) (e : TypeId) (i : TypeInfo) (z : Value) (size bytes : Nat) (ht : P.underlying t = some (.slice e)) (hi : P.info? e = some i) (hz : i.zero = some z)
    (hsize : i.size = size) (hby : i.bytes = bytes) (hzs : z.cells.size = size) (hsz : 0 < size)
    (v : Value) (n : Nat) (xs : List Value) (hs : a.eval s = v) (hown : w.ownsRow base e size v n xs)
    (ad : Addr) (m c : Nat) (news : List Value) (hx : a.eval x = .slice (some ad) m c) (hl : news.length = m * size) (hnews : ∀ j u, news[j]? = some u → w.cell? (ad.add j) = some u) (h1 : ∀ u ∈ news, u.oneCell' = true)
    (h63 : n + m ≤ maxLen) (hbytes : (n + m) * bytes ≤ 140737488355328) (hbase : base ≤ w.heap.size)
    (h : ∀ v' w', w'.ownsRow base e size v' (n + m) (xs ++ news) → w.grownBy w' v.ownBlock → (v' = .slice none 0 0 ↔ v = .slice none 0 0 ∧ m = 0) → (v'.ownBlock = v.ownBlock ∨ v'.ownBlock = some w.heap.size) → K (a.put o.dst v') w') :
    Oper.wp P o a w K Q := by
  obtain ⟨v', w', hr, h2, h3, h4, h5⟩ := run_append_own_at (P := P) w base t o.type e i z size bytes ht hi hz hsize hby hzs hsz v n xs hown ad m c news hl hnews h1 h63 hbytes hbase
  unfold Oper.wp execOp
  simp only [ho, resolve, invoke, builtin, Sem.run_bind, Sem.run_pure, Result.andThen_ok, List.map_toArray, List.map_cons, List.map_nil, hs, hx, hr]
  exact h v' w' h2 h3 h4 h5

end
end Go.Proofs.Ytmclalhjnjghnaa
