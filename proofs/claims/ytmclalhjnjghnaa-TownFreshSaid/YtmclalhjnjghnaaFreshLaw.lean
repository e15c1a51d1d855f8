/- Plain laws of a town where each beat comes at once. -/
import Derived.Test.YtmclalhjnjghnaaTownOps
namespace Go.Proofs.Ytmclalhjnjghnaa
open Go.RowKit Hw

structure Fr (o : ByteArray) (E N S G D : Int) (n : Hw.Node) : Prop where
  now : n.now = N
  seq : n.seq = S
  gate : gateSeq n o = G
  last : ∀ p ∈ n.peers, p.last = N - D
  vals : ∀ p ∈ n.peers, ∀ x ∈ p.vals, x = E

/-- The text of a beat. -/
def txt (id : ByteArray) (q : Int) : ByteArray := (encode ⟨id, 0, q⟩).1

theorem fr_tick {c : Config} {o : ByteArray} {E N M S G : Int} {n : Hw.Node} (h : NG c [o] N M n) (hf : Fr o E N S G 0 n) (hE : c.every = E) (hi : c.inc = 0) (h1 : 1 ≤ E) (hN : N = S * E) : Fr o E (N + E) (S + 1) G E (ticked n E) ∧ texts n (beats n E) = [txt c.id (S + 1)] := by
  have hb : beats n E = 1 := by
    unfold beats
    rw [h.c, hE, hf.now, hN, show S * E + E = (S + 1) * E by rw [Int.add_mul]; simp, Int.mul_ediv_cancel _ (by omega), Int.mul_ediv_cancel _ (by omega)]
    omega
  refine ⟨⟨by show n.now + E = _; rw [hf.now], by show n.seq + (beats n E : Nat) = _; rw [hb, hf.seq]; rfl, hf.gate, fun p hp => ?_, hf.vals⟩, ?_⟩
  · have := hf.last p hp
    omega
  · rw [hb]
    show [(encode ⟨n.c.id, n.c.inc, n.seq + 1 + ((0 : Nat) : Int)⟩).1] = _
    rw [h.c, hi, hf.seq]
    simp [txt]

theorem txt_sent {id : ByteArray} {q : Int} (hid : idOk id = true) (h1 : 1 ≤ q) (h2 : q ≤ 1000) : Sent id q (txt id q) ∧ beatCheck ⟨id, 0, q⟩ = 0 := by
  have hb : beatCheck ⟨id, 0, q⟩ = 0 := by
    unfold beatCheck
    rw [if_neg (by rw [hid]; simp), if_neg (by show ¬ ((0 : Int) < 0 ∨ 2147483648 ≤ (0 : Int) ∨ q < 1 ∨ 2147483648 ≤ q); omega)]
  exact ⟨⟨_, rfl, hb, rfl, rfl, Int.le_refl _⟩, hb⟩

theorem fr_foreign {c : Config} {o : ByteArray} {E N M S G D q : Int} {n : Hw.Node} (h : NG c [o] N M n) (hf : Fr o E N S G D n) (hid : idOk c.id = true) (h1 : 1 ≤ q) (h2 : q ≤ 1000) (hne : c.id ≠ o) : Fr o E N S G D (nhear n (txt c.id q)).1 ∧ (nhear n (txt c.id q)).2.2 = 4 := by
  have e : nhear n (txt c.id q) = (dropped n, [], 4) := nhear_foreign h.good.inv (txt_sent hid h1 h2).2 (by simpa using hne)
  rw [e]
  exact ⟨⟨hf.now, hf.seq, hf.gate, hf.last, hf.vals⟩, rfl⟩

theorem fr_new {c : Config} {o : ByteArray} {E N M S G q : Int} {n : Hw.Node} (h : NG c [o] N M n) (hNM : N ≤ M) (hf : Fr o E N S G E n) (hid : idOk o = true) (h1 : 1 ≤ q) (h2 : q ≤ 1000) (hE : E ≤ 100) (hG : G < q) : Fr o E N S q 0 (nhear n (txt o q)).1 ∧ (nhear n (txt o q)).2.2 = 0 := by
  obtain ⟨g1, g2, g3, p, g4, g5⟩ := hears_new (d := ⟨o, 0, q⟩) h hNM (txt_sent hid h1 h2).2 rfl rfl (Int.le_refl _) (by rw [hf.gate]; exact hG)
  have hla := hf.last p (by rw [g4]; simp)
  have hva := hf.vals p (by rw [g4]; simp)
  have hno := hf.now
  refine ⟨⟨g1.now.trans hf.now, g1.seq.trans hf.seq, g3, fun p' hp' => ?_, fun p' hp' x hx => ?_⟩, g2⟩
  · have hp2 := hp'
    unfold txt at hp2
    rw [g5, List.mem_singleton] at hp2
    subst hp2
    show n.now = _
    omega
  · have hp2 := hp'
    unfold txt at hp2
    rw [g5, List.mem_singleton] at hp2
    subst hp2
    have hx : x ∈ pushed p.cap p.vals (min (n.now - p.last) 16777216) := hx
    unfold pushed at hx
    rcases List.mem_append.1 hx with hx | hx
    · split at hx
      · exact hva x (List.mem_of_mem_tail hx)
      · exact hva x hx
    · simp at hx
      omega

theorem fr_level {c : Config} {o : ByteArray} {E N M S G D : Int} {n : Hw.Node} (h : NG c [o] N M n) (hf : Fr o E N S G D n) (h0 : 0 ≤ D) (hD : D ≤ E) : level n o = (0, 0) := by
  obtain ⟨p, hp, -, -, hl⟩ := h.good.inv.find (id := o) (by simp)
  have hla := hf.last p hp
  have hno := hf.now
  have hn2 := h.good.inv.n2
  have hp0 := (h.good.inv.peer hp).lo
  rw [hl]
  exact level_low (h.good.inv.peer hp).win h.good.inv.l1 h.good.inv.l2 (h.good.inv.win p hp).2 (fun x hx => by rw [hf.vals p hp x hx]; omega) (by omega) (by omega)

/-- A town of two in which each heard all, at its tick's end. -/
structure FrAt (c0 c1 : Config) (E M : Int) (r : Nat) (a b : Hw.Node) (W : List ByteArray) : Prop where
  tg : TG c0 c1 (r * E) M a b W
  fa : Fr c1.id E (r * E) r r 0 a
  fb : Fr c0.id E (r * E) r r 0 b
  len : W.length = 2 * r

/-- .. that ticked on, and of whose two texts so many were brought. -/
structure FrMid (c0 c1 : Config) (E M : Int) (r j : Nat) (a b : Hw.Node) (W : List ByteArray) : Prop where
  tg : TG c0 c1 (r * E + E) M a b W
  fa : Fr c1.id E (r * E + E) (r + 1) (if j < 2 then (r : Int) else r + 1) (if j < 2 then E else 0) a
  fb : Fr c0.id E (r * E + E) (r + 1) (if j < 1 then (r : Int) else r + 1) (if j < 1 then E else 0) b
  len : W.length = 2 * r + 2
  w0 : W[2 * r]? = some (txt c0.id (r + 1))
  w1 : W[2 * r + 1]? = some (txt c1.id (r + 1))

theorem fr_start {c0 c1 : Config} (hc : TC c0 c1) {E M : Int} {r : Nat} {a b : Hw.Node} {W : List ByteArray} (h : FrAt c0 c1 E M r a b W) (h0 : c0.every = E) (h1 : c1.every = E) (e1 : 1 ≤ E) (e2 : E ≤ 20) (hr : r ≤ 20) :
    FrMid c0 c1 E M r 0 (ticked a E) (ticked b E) (wayT a b false W E) := by
  have hb : (r : Int) * E ≤ 20 * 20 := Int.mul_le_mul (by omega) e2 (by omega) (by omega)
  have hd : E / E < 64 := by rw [Int.ediv_self (by omega)]; omega
  obtain ⟨-, ht⟩ := h.tg.ticks hc false e1 (by omega) (by omega) (by rw [h0]; exact hd) (by rw [h1]; exact hd)
  obtain ⟨fa, ta⟩ := fr_tick h.tg.na h.fa h0 hc.z0 e1 rfl
  obtain ⟨fb, tb⟩ := fr_tick h.tg.nb h.fb h1 hc.z1 e1 rfl
  have hw : wayT a b false W E = W ++ [txt c0.id (r + 1)] ++ [txt c1.id (r + 1)] := by
    unfold wayT
    rw [ta, tb]
    rfl
  have hl := h.len
  refine ⟨ht, by simpa using fa, by simpa using fb, by rw [hw]; simp; omega, ?_, ?_⟩
  · rw [hw, List.append_assoc, List.getElem?_append_right (by omega), hl]
    simp
  · rw [hw, List.getElem?_append_right (by simp; omega)]
    simp [hl]

theorem fr_end {c0 c1 : Config} {E M : Int} {r : Nat} {a b : Hw.Node} {W : List ByteArray} (h : FrMid c0 c1 E M r 2 a b W) : FrAt c0 c1 E M (r + 1) a b W := by
  have e : ((r + 1 : Nat) : Int) * E = r * E + E := by
    rw [Int.natCast_add, Int.add_mul]
    simp
  have fa := h.fa
  have fb := h.fb
  simp only [show ¬ (2 < 2) by omega, show ¬ (2 < 1) by omega, if_false] at fa fb
  exact ⟨by rw [e]; exact h.tg, by rw [e]; exact fa, by rw [e]; exact fb, by rw [h.len]; omega⟩

/-- The first of the two is brought to both. -/
theorem fr_first {c0 c1 : Config} (hc : TC c0 c1) {E M : Int} {r : Nat} {a b : Hw.Node} {W : List ByteArray} (h : FrMid c0 c1 E M r 0 a b W) (e1 : 1 ≤ E) (e2 : E ≤ 20) (hr : r ≤ 20) (hM : 1000 ≤ M) (hq : 2 * r < W.length) :
    FrMid c0 c1 E M r 1 (nhear a W[2 * r]).1 (nhear b W[2 * r]).1 W ∧ TG c0 c1 (r * E + E) M (nhear a W[2 * r]).1 b W ∧ (nhear a W[2 * r]).2.2 = 4 ∧ (nhear b W[2 * r]).2.2 = 0 := by
  have hb : (r : Int) * E ≤ 20 * 20 := Int.mul_le_mul (by omega) e2 (by omega) (by omega)
  have hw : W[2 * r] = txt c0.id (r + 1) := by
    have := h.w0
    rw [List.getElem?_eq_getElem hq] at this
    injection this
  have g1 := h.tg.hear0 hc (by omega) (List.getElem_mem hq)
  have g2 := g1.hear1 hc (by omega) (List.getElem_mem hq)
  have fa := h.fa
  have fb := h.fb
  simp only [show 0 < 2 by omega, show 0 < 1 by omega, if_true] at fa fb
  obtain ⟨k1, k2⟩ := fr_foreign (q := r + 1) h.tg.na fa hc.i0 (by omega) (by omega) hc.ne
  obtain ⟨k3, k4⟩ := fr_new (q := r + 1) h.tg.nb (by omega) fb hc.i0 (by omega) (by omega) (by omega) (by omega)
  rw [hw] at g1 g2 ⊢
  exact ⟨⟨g2, by simpa using k1, by simpa using k3, h.len, h.w0, h.w1⟩, g1, k2, k4⟩

/-- .. the second. -/
theorem fr_second {c0 c1 : Config} (hc : TC c0 c1) {E M : Int} {r : Nat} {a b : Hw.Node} {W : List ByteArray} (h : FrMid c0 c1 E M r 1 a b W) (e1 : 1 ≤ E) (e2 : E ≤ 20) (hr : r ≤ 20) (hM : 1000 ≤ M) (hq : 2 * r + 1 < W.length) :
    FrMid c0 c1 E M r 2 (nhear a W[2 * r + 1]).1 (nhear b W[2 * r + 1]).1 W ∧ TG c0 c1 (r * E + E) M (nhear a W[2 * r + 1]).1 b W ∧ (nhear a W[2 * r + 1]).2.2 = 0 ∧ (nhear b W[2 * r + 1]).2.2 = 4 := by
  have hb : (r : Int) * E ≤ 20 * 20 := Int.mul_le_mul (by omega) e2 (by omega) (by omega)
  have hw : W[2 * r + 1] = txt c1.id (r + 1) := by
    have := h.w1
    rw [List.getElem?_eq_getElem hq] at this
    injection this
  have g1 := h.tg.hear0 hc (by omega) (List.getElem_mem hq)
  have g2 := g1.hear1 hc (by omega) (List.getElem_mem hq)
  have fa := h.fa
  have fb := h.fb
  simp only [show 1 < 2 by omega, show ¬ (1 < 1) by omega, if_true, if_false] at fa fb
  obtain ⟨k1, k2⟩ := fr_foreign (q := r + 1) h.tg.nb fb hc.i1 (by omega) (by omega) (Ne.symm hc.ne)
  obtain ⟨k3, k4⟩ := fr_new (q := r + 1) h.tg.na (by omega) fa hc.i1 (by omega) (by omega) (by omega) (by omega)
  rw [hw] at g1 g2 ⊢
  exact ⟨⟨g2, by simpa using k3, by simpa using k1, h.len, h.w0, h.w1⟩, g1, k4, k2⟩

end Go.Proofs.Ytmclalhjnjghnaa
