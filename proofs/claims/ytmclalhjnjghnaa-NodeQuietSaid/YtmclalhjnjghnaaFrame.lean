/- The frame of a law that only reads its arguments: what it must show is that it says true and writes nothing that was there. And what an argument that is a slice of peers reads as. -/
import Derived.Test.YtmclalhjnjghnaaRows
import Derived.Test.YtmclalhjnjghnaaMem
import Derived.ProofKit
import Derived.OpenShut
import Derived.SizedLaws
import Derived.Deep.Strs
import Derived.Deep.Slices
import Derived.Lib.SmallJoins
namespace Go.Proofs.Ytmclalhjnjghnaa
open Go.RowKit Hw Go.ChangeShapes Go.WideShapes Go.ChangeAt Go.Deep Go.Joins

theorem own : ownKnob Try.prog.godebug = none := by kernel_rfl
theorem laidOut : laidOutB Try.prog = true := by kernel_rfl
theorem cells3 : Try.prog.cellsOf 3 = 1 := by kernel_rfl
theorem cells9 : Try.prog.cellsOf 9 = 1 := by kernel_rfl
theorem cells35 : Try.prog.cellsOf 35 = 3 := by kernel_rfl
theorem cells36 : Try.prog.cellsOf 36 = 1 := by kernel_rfl
theorem cells38 : Try.prog.cellsOf 38 = 2 := by kernel_rfl
theorem cells40 : Try.prog.cellsOf 40 = 7 := by kernel_rfl
theorem bytes3 : Try.prog.bytesOf 3 = 8 := by kernel_rfl
theorem bytes40 : Try.prog.bytesOf 40 = 80 := by kernel_rfl

set_option maxRecDepth 100000 in
theorem trodAll_below {H : Type} {enc : TypeId × Value → H} {W W' : World} (hb : Below W.heap.size W W') (ts : List TypeId) : ∀ (vs : List Value) (ds : List (DataW H)) (ps : List MemPlace),
    ts.all (fun t => Try.prog.readableRec t && decide (t < Try.prog.types.size)) = true → DataW.TrodAll enc Try.prog W 0 (fun _ => true) true ts vs ds ps → (∀ x ∈ ps, x.block < W.heap.size) →
    DataW.TrodAll enc Try.prog W' 0 (fun b => decide (b < W.heap.size)) true ts vs ds ps := by
  induction ts with
  | nil =>
    intro vs ds ps _ h _
    cases vs <;> cases ds <;> exact h
  | cons t ts ih =>
    intro vs ds ps ht h hlt
    cases vs with
    | nil => cases ds <;> exact h
    | cons v vs =>
      cases ds with
      | nil => exact h
      | cons d ds =>
        obtain ⟨p, q, h1, h2, e⟩ := h
        subst e
        rw [List.all_cons, Bool.and_eq_true, Bool.and_eq_true] at ht
        exact ⟨p, q, Below.trod laidOut ht.1.1 (of_decide_eq_true ht.1.2) h1 hb (fun x hx => hlt x (List.mem_append_left _ hx)), ih _ _ _ ht.2 h2 (fun x hx => hlt x (List.mem_append_right _ hx)), rfl⟩

/-- What a law must show, where it only reads. -/
theorem law_post {H : Type} {enc : TypeId × Value → H} {f : Func} {s : ChangeSpec} {W W' : World} {args : Array Value} {ds gs : List (DataW H)} {before : List MemPlace} (hv : s.vars = [])
    (hs : s.fn H (ds ++ gs) = { results := [.lit (.bool true)], args := ds }) (hr : f.resultTypes = #[4]) (ht : f.params.toList.all (fun t => Try.prog.readableRec t && decide (t < Try.prog.types.size)) = true)
    (hW : DataW.Whole enc Try.prog f.params.toList s.vars false W args.toList ds gs before) (hb : Below W.heap.size W W') :
    ∃ v, Ending.returned (.bool true) = .returned v ∧ s.post enc Try.checked.prog f false true false false W args v W' := by
  have hW' := hW
  have hlt := fun x hx => hW.lt x hx
  obtain ⟨p, q, hA, hV, rfl, hz, hn⟩ := hW
  refine ⟨_, rfl, ds, gs, _, [], p, [], hW', ?_, ?_, ?_, Below.frame hb _, fun h => by cases h⟩
  · rw [hs, hr]
    exact trodAll_mk1 (shut_bool Try.underlying4 _)
  · rw [hs]
    exact trodAll_below hb _ _ _ _ ht hA (fun x hx => hlt x (List.mem_append_left _ hx))
  · rw [hs, hv]
    rfl

theorem weights_mem_all {H : Type} {P : Program} {t : TypeId} : ∀ {l : List (DataW H)} {d : DataW H} {n : Nat}, d ∈ l → n ∈ d.weights P t → n ∈ DataW.weightsAll P t l
  | x :: l, d, n, hd, hn => by
    rw [DataW.weightsAll, List.mem_append]
    rcases List.mem_cons.1 hd with e | e
    · subst e
      exact .inl hn
    · exact .inr (weights_mem_all e hn)

section
variable {H : Type} {enc : TypeId × Value → H} {w : World} {base : Nat} {held : Bool}

set_option maxRecDepth 100000 in
theorem ints_read {n : Nat} {cs : List Value} {x : DataW H × List MemPlace} (h : DataW.trod enc Try.prog w base (fun _ => true) held n 36 cs = some x) (hw : ∀ k ∈ x.1.weights Try.prog 36, k ≤ reachBytes) :
    ∃ A xs c, cs = [.slice A xs.length c] ∧ Ints w A xs ∧ xs.length ≤ c ∧ xs.length ≤ 17592186044416 := by
  rcases open_ints Try.underlying36 Try.underlying3 cells3 h with ⟨e, _⟩ | ⟨a, len, cap, zs, e, _, hl, hm, hz, hx, hcell, _⟩
  · exact ⟨none, [], 0, e, fun h0 => by simp at h0, by simp, by simp⟩
  · simp only [if_true] at hz
    have hlen : (zs.take len).length = len := by simp; omega
    subst hx
    have hb := hw ((zs.take len).length * 8 + (zs.drop len).length * 8) (by
      simp only [DataW.weights, Try.underlying36, bytes3]
      refine List.mem_cons.2 (.inl ?_)
      simp [lits, Nat.add_mul])
    refine ⟨some a, zs.take len, cap, by rw [hlen]; exact e, fun h0 => ?_, by omega, by simp only [reachBytes] at hb; omega⟩
    obtain ⟨b, off, ea, hc⟩ := ints_at hcell (by omega)
    refine ⟨b, off, by rw [ea], fun j hj => ?_⟩
    rw [hc j (by omega)]
    congr 2
    simp only [List.getD_eq_getElem?_getD]
    rw [List.getElem?_take_of_lt (by omega)]

set_option maxRecDepth 100000 in
theorem peer_read {n : Nat} {cs : List Value} {x : DataW H × List MemPlace} (h : DataW.trod enc Try.prog w base (fun _ => true) held n 40 cs = some x) (hw : ∀ k ∈ x.1.weights Try.prog 40, k ≤ reachBytes) :
    ∃ (p : Peer) (A : Option Addr) (c : Nat), cs = [.string p.id, .int .i64 p.gate.inc, .int .i64 p.gate.seq, .int .i64 p.gate.drops, .int .i64 p.cap, .slice A p.vals.length c, .int .i64 p.last] ∧ Ints w A p.vals ∧ p.vals.length ≤ c ∧
      p.vals.length ≤ 17592186044416 := by
  obtain ⟨y0, y1, y2, y3, m, rfl, hl, h0, h1, h2, h3⟩ := trod_struct4 Try.underlying40 h
  rw [cells40] at hl
  match cs, hl with
  | [a0, a1, a2, a3, a4, a5, a6], _ =>
    simp only [cells9, cells35, cells38, cells3, List.drop_zero, List.drop_succ_cons, List.take_succ_cons, List.take_zero] at h0 h1 h2 h3
    obtain ⟨s, e0, rfl, _⟩ := DataW.trod_string Try.underlying9 h0
    obtain ⟨z0, z1, z2, m1, rfl, _, g0, g1, g2⟩ := trod_struct3 Try.underlying35 h1
    obtain ⟨v0, v1, m2, rfl, _, u0, u1⟩ := trod_struct2 Try.underlying38 h2
    simp only [cells36, cells3, List.drop_zero, List.drop_succ_cons, List.take_succ_cons, List.take_zero] at g0 g1 g2 u0 u1
    obtain ⟨i1, e1, rfl, _⟩ := DataW.trod_int Try.underlying3 g0
    obtain ⟨i2, e2, rfl, _⟩ := DataW.trod_int Try.underlying3 g1
    obtain ⟨i3, e3, rfl, _⟩ := DataW.trod_int Try.underlying3 g2
    obtain ⟨i4, e4, rfl, _⟩ := DataW.trod_int Try.underlying3 u0
    obtain ⟨i6, e6, rfl, _⟩ := DataW.trod_int Try.underlying3 h3
    have hw2 : ∀ k ∈ v1.1.weights Try.prog 36, k ≤ reachBytes := fun k hk => hw k (by
      simp only [DataW.weights, Try.underlying40, DataW.weightsEach, List.map_cons, List.map_nil, Try.underlying38, Try.underlying35]
      simp [hk])
    obtain ⟨A, xs, c, e5, hI, hc, hb⟩ := ints_read u1 hw2
    simp only [List.cons.injEq, and_true] at e0 e1 e2 e3 e4 e5 e6
    subst e0 e1 e2 e3 e4 e5 e6
    exact ⟨⟨s, ⟨i1, i2, i3⟩, i4, xs, i6⟩, A, c, rfl, hI, hc, hb⟩

set_option maxRecDepth 100000 in
theorem peers_read {a0 : Option Addr} {len cap : Nat} {d : DataW H} {ps : List MemPlace} (h : DataW.Trod enc Try.prog w base (fun _ => true) held 22 (.slice a0 len cap) d ps) (hw : ∀ k ∈ d.weights Try.prog 22, k ≤ reachBytes) :
    ∃ l : List Peer, len = l.length ∧ PeersR w a0 l ∧ l.length ≤ 1759218604441 ∧ ∀ (k : Nat) (p : Peer), l[k]? = some p → p.vals.length ≤ 17592186044416 := by
  obtain ⟨fuel, hf⟩ := h
  rcases open_slice Try.underlying22 hf with ⟨e, _⟩ | ⟨a, len', cap', m, n, D, Pl, e, _, hl, hm, hmm, hx, hel⟩
  · simp [Value.cells] at e
    obtain ⟨rfl, rfl, rfl⟩ := e
    exact ⟨[], rfl, fun h0 => by simp at h0, by simp, by simp⟩
  · simp [Value.cells] at e
    obtain ⟨rfl, rfl, rfl⟩ := e
    simp only [if_true] at hmm
    subst hmm
    obtain ⟨rfl, rfl⟩ := Prod.mk.inj hx
    have hb := hw ((len + (m - len)) * 80) (by
      simp only [DataW.weights, Try.underlying22, bytes40, List.length_map, List.length_range]
      exact List.mem_cons.2 (.inl rfl))
    have hD : ∀ i, i < len → ∀ k ∈ (D i).weights Try.prog 40, k ≤ reachBytes := fun i hi k hk => hw k (by
      simp only [DataW.weights, Try.underlying22]
      refine List.mem_cons.2 (.inr (List.mem_append.2 (.inl (weights_mem_all (d := D i) ?_ hk))))
      exact List.mem_map.2 ⟨i, List.mem_range.2 hi, rfl⟩)
    have hall : ∀ i, i < len → ∃ p : Peer, ∃ (A : Option Addr) (c : Nat), (∀ j, j < 7 → w.cell? ((a.add (i * 7)).add j) = [.string p.id, .int .i64 p.gate.inc, .int .i64 p.gate.seq, .int .i64 p.gate.drops, .int .i64 p.cap, .slice A p.vals.length c, .int .i64 p.last][j]?) ∧
        Ints w A p.vals ∧ p.vals.length ≤ c ∧ p.vals.length ≤ 17592186044416 := by
      intro i hi
      obtain ⟨cs', h1, h2⟩ := hel i (by omega)
      obtain ⟨p, A, c, rfl, hI, hc, hb2⟩ := peer_read h2 (hD i hi)
      rw [cells40] at h1
      exact ⟨p, A, c, (World.cells?_some h1).2.2, hI, hc, hb2⟩
    have : Inhabited Peer := ⟨⟨ByteArray.empty, ⟨0, 0, 0⟩, 0, [], 0⟩⟩
    obtain ⟨F, hF⟩ := choose_lt hall
    have hlen : ((List.range len).map F).length = len := by simp
    refine ⟨(List.range len).map F, hlen.symm, fun h0 => ?_, by rw [hlen]; simp only [reachBytes] at hb; omega, fun k p hp => ?_⟩
    · rw [hlen] at h0
      obtain ⟨A, c, hc, _⟩ := hF 0 h0
      obtain ⟨b, off, spot⟩ := a
      have hspot : spot = none := by
        have := hc 0 (by omega)
        simp [Addr.add] at this
        exact World.cell?_spot this
      subst hspot
      refine ⟨b, off, rfl, fun k hk => ?_⟩
      rw [hlen] at hk
      have e : ((List.range len).map F)[k]'(by rw [hlen]; exact hk) = F k := by simp
      rw [e]
      obtain ⟨A, c, hc, hI, hcap, _⟩ := hF k hk
      simp only [Go.WideShapes.add_plain] at hc
      exact ⟨A, c, hc 0 (by omega), hc 1 (by omega), hc 2 (by omega), hc 3 (by omega), hc 4 (by omega), hc 5 (by omega), hc 6 (by omega), hI, hcap⟩
    · have hk : k < len := by
        have := (List.getElem?_eq_some_iff.1 hp).1
        rwa [hlen] at this
      simp [hk] at hp
      subst hp
      obtain ⟨A, c, _, _, _, hb2⟩ := hF k hk
      exact hb2

end
end Go.Proofs.Ytmclalhjnjghnaa
