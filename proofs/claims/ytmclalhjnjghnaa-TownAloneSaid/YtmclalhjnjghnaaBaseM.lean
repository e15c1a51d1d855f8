/- Plain laws of nodes that are asked by turns: the configuration stays, thresholds and drops are bounded. Contracts of slices.Equal of subs; what rows of the caller's own keep behind a node's step. Maps of a call's own, said by what is at each key: made, read, written, kept. Laws of nodes beside maps: a node's step leaves the maps; what is written at a key. The frame of a law that only reads its arguments: what it must show is that it says true and writes nothing that was there. And what an argument that is a slice of peers reads as. What an argument that is a slice of slices of numbers reads as. What an argument that is a slice of numbers reads as. -/
import Derived.Test.YtmclalhjnjghnaaBaseN
import Derived.Test.YtmclalhjnjghnaaBaseA
import Derived.Deep.QuietTactic
import Derived.BigQuiet
import Derived.Maps.OwnSet
import Derived.Maps.OwnOps
import Derived.Maps.Views
import Derived.Test.YtmclalhjnjghnaaRows
import Derived.ProofKit
import Derived.OpenShut
import Derived.SizedLaws
import Derived.Deep.Strs
import Derived.Deep.Slices
import Derived.Lib.SmallJoins
namespace Go.Proofs.Ytmclalhjnjghnaa
open Go.RowKit Hw

/-- All thresholds are small. -/
def Low (n : Hw.Node) : Prop := ∀ s ∈ n.subs, s.theta ≤ 12

theorem told_low {n : Hw.Node} (h : Low n) : Low (told n).1 := by
  intro s hm
  obtain ⟨s0, h0, rfl⟩ := List.mem_map.1 (show s ∈ n.subs.map _ from hm)
  exact h s0 h0

/-- What a turn keeps. -/
structure Kept (n n' : Hw.Node) : Prop where
  c : n'.c = n.c
  d : n'.drops ≤ n.drops + 1
  low : Low n → Low n'
  now : n.now ≤ n'.now
  now2 : n'.now ≤ n.now + 60

theorem Kept.refl (n : Hw.Node) : Kept n n := ⟨rfl, by omega, fun h => h, Int.le_refl _, by omega⟩

theorem tick_kept (n : Hw.Node) {t : Int} (h0 : 0 ≤ t) (h1 : t ≤ 60) : Kept n (tick n t).1 := by
  unfold tick
  split
  · exact Kept.refl n
  · split
    · exact Kept.refl n
    · exact ⟨rfl, by show n.drops ≤ n.drops + 1; omega, fun h => told_low (n := ticked n t) h, by show n.now ≤ n.now + t; omega, by show n.now + t ≤ n.now + 60; omega⟩

theorem dropped_kept (n : Hw.Node) : Kept n (dropped n) := ⟨rfl, by show min (n.drops + 1) 1073741824 ≤ n.drops + 1; omega, fun h => h, Int.le_refl _, by show n.now ≤ n.now + 60; omega⟩

theorem nhear_kept (n : Hw.Node) (s : ByteArray) : Kept n (nhear n s).1 := by
  unfold nhear
  split
  · exact dropped_kept n
  · split
    · exact dropped_kept n
    · split
      · exact ⟨rfl, by show min (n.drops + 1) 1073741824 ≤ n.drops + 1; omega, fun h => h, Int.le_refl _, by show n.now ≤ n.now + 60; omega⟩
      · exact ⟨rfl, by show n.drops ≤ n.drops + 1; omega, fun h => told_low (n := { n with peers := (hear n.peers (decode s).1 n.now).1 }) h, Int.le_refl _, by show n.now ≤ n.now + 60; omega⟩

theorem njoin_kept (n : Hw.Node) (id : ByteArray) {theta : Int} (ht : theta ≤ 12) : Kept n (njoin n id theta).1 := by
  unfold njoin
  split
  · exact Kept.refl n
  · split
    · exact Kept.refl n
    · split
      · exact Kept.refl n
      · split
        · exact Kept.refl n
        · refine ⟨rfl, by show n.drops ≤ n.drops + 1; omega, fun h => told_low (n := { n with subs := n.subs ++ [⟨id, theta, false⟩] }) fun s hs => ?_, Int.le_refl _, by show n.now ≤ n.now + 60; omega⟩
          rcases List.mem_append.1 hs with hs | hs
          · exact h s hs
          · simp at hs
            rw [hs]
            exact ht

theorem npart_kept (n : Hw.Node) (id : ByteArray) (theta : Int) : Kept n (npart n id theta).1 := by
  unfold npart
  split
  · exact Kept.refl n
  · exact ⟨rfl, by show n.drops ≤ n.drops + 1; omega, fun h s hs => h s ((List.eraseIdx_sublist _ _).subset hs), Int.le_refl _, by show n.now ≤ n.now + 60; omega⟩

theorem asked_kept (n : Hw.Node) (c : List Int) : Kept n (asked n c).1 := by
  have h60 := within_in (n := askAt c 1) (k := 60) (by omega)
  have h12 := within_in (n := askAt c 2) (k := 12) (by omega)
  unfold asked
  split
  · exact tick_kept n (by omega) (by omega)
  · split
    · exact nhear_kept n _
    · split
      · exact njoin_kept n _ (by omega)
      · split
        · exact npart_kept n _ _
        · exact nhear_kept n _

theorem askedAll_kept (n : Hw.Node) (L : List (List Int)) : ∀ k, k ≤ L.length → (askedAll n L k).c = n.c ∧ (askedAll n L k).drops ≤ n.drops + k ∧ (Low n → Low (askedAll n L k)) ∧ (askedAll n L k).now ≤ n.now + 60 * k
  | 0, _ => ⟨rfl, by show n.drops ≤ n.drops + (0 : Nat); omega, fun h => h, by show n.now ≤ _; omega⟩
  | k + 1, h => by
    obtain ⟨h1, h2, h3, h4⟩ := askedAll_kept n L k (by omega)
    have hk := asked_kept (askedAll n L k) L[k]
    rw [askedAll_succ n L k (by omega)]
    exact ⟨hk.c.trans h1, by have := hk.d; omega, fun h => hk.low (h3 h), by have := hk.now2; omega⟩

end Go.Proofs.Ytmclalhjnjghnaa

namespace Go.Proofs.Ytmclalhjnjghnaa
open Go.RowKit Hw

theorem own_touch {S : Nat → Prop} {w w' : World} {B : Nat} {e : TypeId} {s : Nat} {v : Value} {n : Nat} {xs : List Value} (h : w.ownsRow B e s v n xs) (ht : Touch S w w') (hs : ∀ k, B ≤ k → ¬ S k) : w'.ownsRow B e s v n xs := by
  obtain ⟨h1, h2 | ⟨g, cap, cur, e1, e2, e3, e4⟩⟩ := h
  · exact ⟨h1, .inl h2⟩
  · exact ⟨h1, .inr ⟨g, cap, cur, e1, e2, (ht.block g (Array.getElem?_eq_some_iff.1 e3).1 (hs g e2)).trans e3, e4⟩⟩

theorem NodeAt.vs_lt {w : World} {b : Nat} {vs : Value} {n : Hw.Node} (h : NodeAt w b vs n) : ∀ k, some k = vs.ownBlock → k < w.heap.size := by
  obtain ⟨vp, -, -, e3⟩ := h
  intro k hk
  rcases e3.2 with ⟨e, _⟩ | ⟨g, cap, cur, e, _, e3, _⟩
  · rw [e] at hk
    cases hk
  · rw [e] at hk
    injection hk with hk
    rw [hk]
    exact (Array.getElem?_eq_some_iff.1 e3).1

theorem NodeAt.apart {w : World} {b : Nat} {vs : Value} {n : Hw.Node} (h : NodeAt w b vs n) : ∀ k, w.heap.size ≤ k → ¬ NodeS b vs k := by
  intro k hk
  rintro (e | e)
  · have := h.lt
    omega
  · have := h.vs_lt k e
    omega

theorem equal_subs (A A' : Option Addr) (c c' : Nat) (l : List Sub) (w : World) (h : SubsR w A l) (h' : SubsR w A' l) (hl : l.length ≤ 8) :
    Calls Try.prog 50 #[.slice A l.length c, .slice A' l.length c'] w fun e w' => e = .returned (.bool true) ∧ Below w.heap.size w w' := by
  have H := Lib.hid h
  have H' := Lib.hid h'
  clear h h'
  go_enter Try.func50, Try.ntmps50
  go_wp2_with fail
  go_loopw [5, 13] (fun _ i wr => ∃ k : Nat, k ≤ l.length ∧ i = .int .i64 k ∧ Hid (Below w.heap.size w wr)) (fun _ i _ => l.length - (intOf i).toNat)
  case atStart => exact ⟨0, Nat.zero_le _, rfl, Below.refl _ _⟩
  case round =>
    obtain ⟨k, hk, rfl, HB⟩ := hrel
    by_cases hlt : k < l.length
    · obtain ⟨b, off, rfl, hc⟩ := (H.out.below HB.out) (by omega)
      obtain ⟨b', off', rfl, hc'⟩ := (H'.out.below HB.out) (by omega)
      obtain ⟨q0, q1, q2⟩ := hc k hlt
      obtain ⟨r0, r1, r2⟩ := hc' k hlt
      have hkk : (k : Int) < (l.length : Int) := by omega
      have hk0 : (0 : Int) ≤ (k : Int) := by omega
      have hkw : IntKind.i64.wrap ((k : Int) + 1) = (k : Int) + 1 := IntWalk.i64_in _ (by omega)
      clear hc hc'
      generalize l[k] = s at q0 q1 q2 r0 r1 r2
      have hsame : (s.id.toList == s.id.toList) = true := by simp
      go_wp2_with fail
      go_quiet (fail)
      go_wp2_with fail
      go_roundw
      case rel => exact ⟨k + 1, by omega, by go_num, below_drewN HB.out _⟩
      case measure => simp [intOf]; omega
    · have hkk : ¬ (k : Int) < (l.length : Int) := by omega
      go_wp2_with fail
      go_ret
      exact ⟨rfl, HB.out⟩

end Go.Proofs.Ytmclalhjnjghnaa

namespace Go.Proofs.Ytmclalhjnjghnaa
open Go.RowKit Hw Go.Maps

theorem plainElem_bool_inv {H : Type} {P : Program} {e : TypeId} (he : P.underlying e = some .bool) {v : Value} {z : DataW H × List MemPlace} (h : plainElem P e v = some z) : ∃ x, v = .bool x ∧ z = (.lit (.bool x), []) := by
  unfold plainElem at h
  rw [he] at h
  cases v <;> simp at h
  subst h
  exact ⟨_, rfl, rfl⟩

/-- Block b is a map of at most m entries: at each key what F says (z where nothing is). -/
def MapV (k e : TypeId) (z : Lit) (w : World) (b m : Nat) (F : Value → Lit) : Prop :=
  ∃ D : DataW Unit, w.ownsMap Try.prog k (plainElem Try.prog e) b m D ∧ ∀ v kl, keyOf Try.prog k v = some kl → D.atKey kl (.lit z) = .lit (F v)

theorem MapV.made (k e : TypeId) (z : Lit) (w : World) : MapV k e z (w.alloc (.map #[] 0)) w.heap.size 0 (fun _ => z) :=
  ⟨_, World.ownsMap_made _ _ _ _, fun _ _ _ => rfl⟩

theorem MapV.heap {k e : TypeId} {z : Lit} {w w' : World} {b m : Nat} {F : Value → Lit} (h : MapV k e z w b m F) (he : w'.heap[b]? = w.heap[b]?) : MapV k e z w' b m F := by
  obtain ⟨D, ⟨es, clock, h1, h2⟩, h3⟩ := h
  exact ⟨D, ⟨es, clock, he.trans h1, h2⟩, h3⟩

theorem MapV.block {k e : TypeId} {z : Lit} {w : World} {b m : Nat} {F : Value → Lit} (h : MapV k e z w b m F) : ∃ es clock, w.heap[b]? = some (.map es clock) := by
  obtain ⟨D, ⟨es, clock, h1, h2⟩, h3⟩ := h
  exact ⟨es, clock, h1⟩

theorem MapV.lt {k e : TypeId} {z : Lit} {w : World} {b m : Nat} {F : Value → Lit} (h : MapV k e z w b m F) : b < w.heap.size := by
  obtain ⟨es, clock, h1⟩ := h.block
  exact (Array.getElem?_eq_some_iff.1 h1).1

theorem MapV.below {k e : TypeId} {z : Lit} {w w' : World} {b m : Nat} {F : Value → Lit} (h : MapV k e z w b m F) (hb : Below w.heap.size w w') : MapV k e z w' b m F := h.heap (hb.block b h.lt)

theorem MapV.mono {k e : TypeId} {z : Lit} {w : World} {b m m' : Nat} {F : Value → Lit} (h : MapV k e z w b m F) (hm : m ≤ m') : MapV k e z w b m' F := by
  obtain ⟨D, h1, h2⟩ := h
  exact ⟨D, h1.mono hm, h2⟩

set_option maxRecDepth 100000 in
/-- What is read, at a key that may be one. -/
theorem MapV.look_bool {k e t : TypeId} {w : World} {b m : Nat} {F : Value → Lit} (h : MapV k e (.bool false) w b m F) (K : Keyed Try.prog k) (ht : Try.prog.underlying t = some (.map k e)) (he : Try.prog.underlying e = some .bool)
    (hz : (zeroValue e).run Try.prog w = .ok (.bool false) w) {key : Value} {kl : Lit} (hkey : keyOf Try.prog k key = some kl) {c : Bool} (hF : F key = .bool c) : (Instr.lookup t (.map (some b)) key false).run Try.prog w = .ok (.bool c) w := by
  obtain ⟨D, h1, h2⟩ := h
  obtain ⟨v, ps, hrun, hv⟩ := h1.lookup K ht hz (plainElem_bool he false) hkey
  rw [h2 key kl hkey, hF] at hv
  obtain ⟨x, rfl, hx⟩ := plainElem_bool_inv he hv
  injection hx with hx _
  injection hx with hx
  injection hx with hx
  rw [hx]
  exact hrun

set_option maxRecDepth 100000 in
theorem MapV.look_int {k e t : TypeId} {w : World} {b m : Nat} {F : Value → Lit} (h : MapV k e (.int .i64 0) w b m F) (K : Keyed Try.prog k) (ht : Try.prog.underlying t = some (.map k e)) (he : Try.prog.underlying e = some (.int .i64))
    (hz : (zeroValue e).run Try.prog w = .ok (.int .i64 0) w) {key : Value} {kl : Lit} (hkey : keyOf Try.prog k key = some kl) {c : Int} (hF : F key = .int .i64 c) : (Instr.lookup t (.map (some b)) key false).run Try.prog w = .ok (.int .i64 c) w := by
  obtain ⟨D, h1, h2⟩ := h
  obtain ⟨v, ps, hrun, hv⟩ := h1.lookup K ht hz (plainElem_int he (by decide)) hkey
  rw [h2 key kl hkey, hF] at hv
  obtain ⟨x, rfl, hx, -⟩ := plainElem_int_inv he hv
  injection hx with hx _
  injection hx with hx
  injection hx with _ hx
  rw [hx]
  exact hrun

set_option maxRecDepth 100000 in
/-- What is written. -/
theorem MapV.put {k e t : TypeId} {z : Lit} {w : World} {b m : Nat} {F F' : Value → Lit} (h : MapV k e z w b m F) (K : Keyed Try.prog k) (ht : Try.prog.underlying t = some (.map k e)) (hm : m < maxLen)
    {key val : Value} {kl l : Lit} (hkey : keyOf Try.prog k key = some kl) (hval : plainElem (H := Unit) Try.prog e val = some (.lit l, [])) (h1 : F' key = l) (h2 : ∀ v, v ≠ key → F' v = F v) :
    ∃ w', (Instr.mapUpdate t (.map (some b)) key val).run Try.prog w = .ok () w' ∧ MapV k e z w' b (m + 1) F' ∧ w.grownBy w' (some b) := by
  obtain ⟨D, ho, hD⟩ := h
  obtain ⟨w', hr, ho', hg⟩ := ho.update K ht hm hkey hval
  refine ⟨w', hr, ⟨_, ho', fun v kl' hk' => ?_⟩, hg⟩
  by_cases hv : v = key
  · subst hv
    rw [hkey] at hk'
    injection hk' with hk'
    subst hk'
    rw [Maps.atKey_put_same ho.isMap (K.key hkey), h1]
  · have hne : kl' ≠ kl := fun e => hv (K.inj hk' (by rw [e]; exact hkey))
    rw [Maps.atKey_put_other hne, hD v kl' hk', h2 v hv]

section
variable {ops : Array Oper} {rest : List Oper} {o : Oper} {a : Act} {Q : Exit → Act → World → Prop} {w : World}

theorem wpList_lookup_run (hg : o.guard = none) (m x : Operand) (t : TypeId) (hop : o.op = Op.lookup t m x false) (b : Nat) (hm : a.eval m = .map (some b)) (key : Value) (hx : a.eval x = key) (v : Value)
    (hr : (Instr.lookup t (.map (some b)) key false).run Try.prog w = .ok v w) (hK : wpList Try.prog ops Q rest (a.put o.dst v) w) : wpList Try.prog ops Q (o :: rest) a w := by
  refine wpList_plain hg fun K' hK' => ?_
  unfold Oper.wp
  simp [execOp, hop, hm, hx, hr, Result.andThen]
  exact hK' _ _ hK

theorem wpList_update_run (hg : o.guard = none) (m x v : Operand) (t : TypeId) (hop : o.op = Op.mapUpdate t m x v) (b : Nat) (hm : a.eval m = .map (some b)) (key val : Value) (hx : a.eval x = key) (hv : a.eval v = val) (w' : World)
    (hr : (Instr.mapUpdate t (.map (some b)) key val).run Try.prog w = .ok () w') (hK : wpList Try.prog ops Q rest (a.put o.dst undef) w') : wpList Try.prog ops Q (o :: rest) a w := by
  refine wpList_plain hg fun K' hK' => ?_
  unfold Oper.wp
  simp [execOp, hop, hm, hx, hv, hr, Result.andThen]
  exact hK' _ _ hK
end

/-- Names as keys. -/
theorem strK : Keyed Try.prog 9 := string_keyed Try.underlying9
theorem strKey {s : ByteArray} (h : s.size ≤ 100) : keyOf Try.prog 9 (.string s) = some (.string s.data.toList) := WideMaps.keyOf_string_mk Try.underlying9 (by unfold maxLen; omega)
theorem zero3 (w : World) : (zeroValue 3).run Try.prog w = .ok (.int .i64 0) w := by kernel_rfl
theorem zero4 (w : World) : (zeroValue 4).run Try.prog w = .ok (.bool false) w := by kernel_rfl

end Go.Proofs.Ytmclalhjnjghnaa

namespace Go.Proofs.Ytmclalhjnjghnaa
open Go.RowKit Hw

theorem NodeAt.own85 {w : World} {b : Nat} {vs : Value} {n : Hw.Node} (h : NodeAt w b vs n) {x : Nat} (hx : some x = vs.ownBlock) : b + 1 ≤ x ∧ ∃ cur, w.heap[x]? = some (.cells cur 85 (0, 0)) := by
  obtain ⟨vp, -, -, e3⟩ := h
  rcases e3.2 with ⟨e, _⟩ | ⟨g, cap, cur, e, hB, e3, _⟩
  · rw [e] at hx
    cases hx
  · rw [e] at hx
    injection hx with hx
    subst hx
    exact ⟨hB, cur, e3⟩

theorem NodeAt.row145 {w : World} {b : Nat} {vs : Value} {n : Hw.Node} (h : NodeAt w b vs n) : ∃ cur, w.heap[b]? = some (.cells cur 145 (0, 0)) := by
  obtain ⟨vp, e1, -⟩ := h
  exact ⟨_, e1⟩

theorem cells_ne {w : World} {x y : Nat} {c d : Array Value} {t u : TypeId} (h1 : w.heap[x]? = some (.cells c t (0, 0))) (h2 : w.heap[y]? = some (.cells d u (0, 0))) (h : t ≠ u) : x ≠ y := by
  intro e
  subst e
  rw [h1] at h2
  injection h2 with h2
  injection h2 with _ h2 _
  exact h h2

theorem NodeAt.notMap {w : World} {b : Nat} {vs : Value} {n : Hw.Node} (h : NodeAt w b vs n) {k : Nat} {es : Array MapEntry} {c : Nat} (hk : w.heap[k]? = some (.map es c)) : ¬ NodeS b vs k := by
  rintro (e | e)
  · subst e
    obtain ⟨cur, hc⟩ := h.row145
    rw [hk] at hc
    injection hc with hc
    cases hc
  · obtain ⟨-, cur, hc⟩ := h.own85 e
    rw [hk] at hc
    injection hc with hc
    cases hc

theorem MapV.touch {k e : TypeId} {z : Lit} {w w' : World} {b' m : Nat} {F : Value → Lit} {b : Nat} {vs : Value} {n : Hw.Node} (h : MapV k e z w b' m F) (hn : NodeAt w b vs n) (ht : Touch (NodeS b vs) w w') : MapV k e z w' b' m F := by
  obtain ⟨es, c, hk⟩ := h.block
  exact h.heap (ht.block b' (Array.getElem?_eq_some_iff.1 hk).1 (hn.notMap hk))

theorem upd_exists (F : Value → Lit) (key : Value) (l : Lit) : ∃ F' : Value → Lit, F' key = l ∧ ∀ v, v ≠ key → F' v = F v := by
  classical
  exact ⟨fun v => if v = key then l else F v, by simp, fun v hv => by simp [hv]⟩

/-- A map is written: what stands in cells stays. -/
theorem NodeAt.mapped {w w' : World} {b : Nat} {vs : Value} {n : Hw.Node} (h : NodeAt w b vs n) {mb : Nat} (hm : ∃ es c, w.heap[mb]? = some (.map es c)) (hg : w.grownBy w' (some mb)) : NodeAt w' b vs n := by
  obtain ⟨es, c, hk⟩ := hm
  have hne : ∀ (q : Nat) (cs : Array Value) (u : TypeId), w.heap[q]? = some (.cells cs u (0, 0)) → w'.heap[q]? = w.heap[q]? := fun q cs u hq => hg.block q (Array.getElem?_eq_some_iff.1 hq).1 fun he => by
    injection he with he
    subst he
    rw [hk] at hq
    injection hq with hq
    cases hq
  obtain ⟨vp, e1, e2, e3⟩ := h
  exact ⟨vp, (hne _ _ _ e1).trans e1, e2.typed fun k c t' _ hc => hne k c t' hc, own_typed e3 fun k c _ hc => hne k c 85 hc⟩

theorem below_mapped {B : Nat} {w0 w w' : World} {mb : Nat} (h : Below B w0 w) (hB : B ≤ mb) (hg : w.grownBy w' (some mb)) (hs : B ≤ w.heap.size) : Below B w0 w' :=
  h.trans ⟨hg.os, hg.tape, hg.output, hg.size, fun k hk => hg.block k (by omega) fun e => by injection e with e; omega⟩

end Go.Proofs.Ytmclalhjnjghnaa

namespace Go.Proofs.Ytmclalhjnjghnaa
open Go.RowKit Hw Go.ChangeShapes Go.WideShapes Go.ChangeAt Go.Deep Go.Joins

theorem own : ownKnob Try.prog.godebug = none := by kernel_rfl
theorem laidOut : laidOutB Try.prog = true := by kernel_rfl
theorem cells3 : Try.prog.cellsOf 3 = 1 := by kernel_rfl
theorem cells9 : Try.prog.cellsOf 9 = 1 := by kernel_rfl
theorem cells35 : Try.prog.cellsOf 35 = 3 := by kernel_rfl
theorem cells36 : Try.prog.cellsOf 36 = 1 := by kernel_rfl
theorem cells38 : Try.prog.cellsOf 38 = 2 := by kernel_rfl
theorem cells40 : Try.prog.cellsOf 40 = 7 := by kernel_rfl
theorem bytes3 : Try.prog.bytesOf 3 = 8 := by kernel_rfl
theorem bytes40 : Try.prog.bytesOf 40 = 80 := by kernel_rfl

set_option maxRecDepth 100000 in
theorem trodAll_below {H : Type} {enc : TypeId × Value → H} {W W' : World} (hb : Below W.heap.size W W') (ts : List TypeId) : ∀ (vs : List Value) (ds : List (DataW H)) (ps : List MemPlace),
    ts.all (fun t => Try.prog.readableRec t && decide (t < Try.prog.types.size)) = true → DataW.TrodAll enc Try.prog W 0 (fun _ => true) true ts vs ds ps → (∀ x ∈ ps, x.block < W.heap.size) →
    DataW.TrodAll enc Try.prog W' 0 (fun b => decide (b < W.heap.size)) true ts vs ds ps := by
  induction ts with
  | nil =>
    intro vs ds ps _ h _
    cases vs <;> cases ds <;> exact h
  | cons t ts ih =>
    intro vs ds ps ht h hlt
    cases vs with
    | nil => cases ds <;> exact h
    | cons v vs =>
      cases ds with
      | nil => exact h
      | cons d ds =>
        obtain ⟨p, q, h1, h2, e⟩ := h
        subst e
        rw [List.all_cons, Bool.and_eq_true, Bool.and_eq_true] at ht
        exact ⟨p, q, Below.trod laidOut ht.1.1 (of_decide_eq_true ht.1.2) h1 hb (fun x hx => hlt x (List.mem_append_left _ hx)), ih _ _ _ ht.2 h2 (fun x hx => hlt x (List.mem_append_right _ hx)), rfl⟩

/-- What a law must show, where it only reads. -/
theorem law_post {H : Type} {enc : TypeId × Value → H} {f : Func} {s : ChangeSpec} {W W' : World} {args : Array Value} {ds gs : List (DataW H)} {before : List MemPlace} (hv : s.vars = [])
    (hs : s.fn H (ds ++ gs) = { results := [.lit (.bool true)], args := ds }) (hr : f.resultTypes = #[4]) (ht : f.params.toList.all (fun t => Try.prog.readableRec t && decide (t < Try.prog.types.size)) = true)
    (hW : DataW.Whole enc Try.prog f.params.toList s.vars false W args.toList ds gs before) (hb : Below W.heap.size W W') :
    ∃ v, Ending.returned (.bool true) = .returned v ∧ s.post enc Try.checked.prog f false true false false W args v W' := by
  have hW' := hW
  have hlt := fun x hx => hW.lt x hx
  obtain ⟨p, q, hA, hV, rfl, hz, hn⟩ := hW
  refine ⟨_, rfl, ds, gs, _, [], p, [], hW', ?_, ?_, ?_, Below.frame hb _, fun h => by cases h⟩
  · rw [hs, hr]
    exact trodAll_mk1 (shut_bool Try.underlying4 _)
  · rw [hs]
    exact trodAll_below hb _ _ _ _ ht hA (fun x hx => hlt x (List.mem_append_left _ hx))
  · rw [hs, hv]
    rfl

theorem weights_mem_all {H : Type} {P : Program} {t : TypeId} : ∀ {l : List (DataW H)} {d : DataW H} {n : Nat}, d ∈ l → n ∈ d.weights P t → n ∈ DataW.weightsAll P t l
  | x :: l, d, n, hd, hn => by
    rw [DataW.weightsAll, List.mem_append]
    rcases List.mem_cons.1 hd with e | e
    · subst e
      exact .inl hn
    · exact .inr (weights_mem_all e hn)

section
variable {H : Type} {enc : TypeId × Value → H} {w : World} {base : Nat} {held : Bool}

set_option maxRecDepth 100000 in
theorem ints_read {n : Nat} {cs : List Value} {x : DataW H × List MemPlace} (h : DataW.trod enc Try.prog w base (fun _ => true) held n 36 cs = some x) (hw : ∀ k ∈ x.1.weights Try.prog 36, k ≤ reachBytes) :
    ∃ A xs c, cs = [.slice A xs.length c] ∧ Ints w A xs ∧ xs.length ≤ c ∧ xs.length ≤ 17592186044416 := by
  rcases open_ints Try.underlying36 Try.underlying3 cells3 h with ⟨e, _⟩ | ⟨a, len, cap, zs, e, _, hl, hm, hz, hx, hcell, _⟩
  · exact ⟨none, [], 0, e, fun h0 => by simp at h0, by simp, by simp⟩
  · simp only [if_true] at hz
    have hlen : (zs.take len).length = len := by simp; omega
    subst hx
    have hb := hw ((zs.take len).length * 8 + (zs.drop len).length * 8) (by
      simp only [DataW.weights, Try.underlying36, bytes3]
      refine List.mem_cons.2 (.inl ?_)
      simp [lits, Nat.add_mul])
    refine ⟨some a, zs.take len, cap, by rw [hlen]; exact e, fun h0 => ?_, by omega, by simp only [reachBytes] at hb; omega⟩
    obtain ⟨b, off, ea, hc⟩ := ints_at hcell (by omega)
    refine ⟨b, off, by rw [ea], fun j hj => ?_⟩
    rw [hc j (by omega)]
    congr 2
    simp only [List.getD_eq_getElem?_getD]
    rw [List.getElem?_take_of_lt (by omega)]

set_option maxRecDepth 100000 in
theorem peer_read {n : Nat} {cs : List Value} {x : DataW H × List MemPlace} (h : DataW.trod enc Try.prog w base (fun _ => true) held n 40 cs = some x) (hw : ∀ k ∈ x.1.weights Try.prog 40, k ≤ reachBytes) :
    ∃ (p : Peer) (A : Option Addr) (c : Nat), cs = [.string p.id, .int .i64 p.gate.inc, .int .i64 p.gate.seq, .int .i64 p.gate.drops, .int .i64 p.cap, .slice A p.vals.length c, .int .i64 p.last] ∧ Ints w A p.vals ∧ p.vals.length ≤ c ∧
      p.vals.length ≤ 17592186044416 := by
  obtain ⟨y0, y1, y2, y3, m, rfl, hl, h0, h1, h2, h3⟩ := trod_struct4 Try.underlying40 h
  rw [cells40] at hl
  match cs, hl with
  | [a0, a1, a2, a3, a4, a5, a6], _ =>
    simp only [cells9, cells35, cells38, cells3, List.drop_zero, List.drop_succ_cons, List.take_succ_cons, List.take_zero] at h0 h1 h2 h3
    obtain ⟨s, e0, rfl, _⟩ := DataW.trod_string Try.underlying9 h0
    obtain ⟨z0, z1, z2, m1, rfl, _, g0, g1, g2⟩ := trod_struct3 Try.underlying35 h1
    obtain ⟨v0, v1, m2, rfl, _, u0, u1⟩ := trod_struct2 Try.underlying38 h2
    simp only [cells36, cells3, List.drop_zero, List.drop_succ_cons, List.take_succ_cons, List.take_zero] at g0 g1 g2 u0 u1
    obtain ⟨i1, e1, rfl, _⟩ := DataW.trod_int Try.underlying3 g0
    obtain ⟨i2, e2, rfl, _⟩ := DataW.trod_int Try.underlying3 g1
    obtain ⟨i3, e3, rfl, _⟩ := DataW.trod_int Try.underlying3 g2
    obtain ⟨i4, e4, rfl, _⟩ := DataW.trod_int Try.underlying3 u0
    obtain ⟨i6, e6, rfl, _⟩ := DataW.trod_int Try.underlying3 h3
    have hw2 : ∀ k ∈ v1.1.weights Try.prog 36, k ≤ reachBytes := fun k hk => hw k (by
      simp only [DataW.weights, Try.underlying40, DataW.weightsEach, List.map_cons, List.map_nil, Try.underlying38, Try.underlying35]
      simp [hk])
    obtain ⟨A, xs, c, e5, hI, hc, hb⟩ := ints_read u1 hw2
    simp only [List.cons.injEq, and_true] at e0 e1 e2 e3 e4 e5 e6
    subst e0 e1 e2 e3 e4 e5 e6
    exact ⟨⟨s, ⟨i1, i2, i3⟩, i4, xs, i6⟩, A, c, rfl, hI, hc, hb⟩

set_option maxRecDepth 100000 in
theorem peers_read {a0 : Option Addr} {len cap : Nat} {d : DataW H} {ps : List MemPlace} (h : DataW.Trod enc Try.prog w base (fun _ => true) held 22 (.slice a0 len cap) d ps) (hw : ∀ k ∈ d.weights Try.prog 22, k ≤ reachBytes) :
    ∃ l : List Peer, len = l.length ∧ PeersR w a0 l ∧ l.length ≤ 1759218604441 ∧ ∀ (k : Nat) (p : Peer), l[k]? = some p → p.vals.length ≤ 17592186044416 := by
  obtain ⟨fuel, hf⟩ := h
  rcases open_slice Try.underlying22 hf with ⟨e, _⟩ | ⟨a, len', cap', m, n, D, Pl, e, _, hl, hm, hmm, hx, hel⟩
  · simp [Value.cells] at e
    obtain ⟨rfl, rfl, rfl⟩ := e
    exact ⟨[], rfl, fun h0 => by simp at h0, by simp, by simp⟩
  · simp [Value.cells] at e
    obtain ⟨rfl, rfl, rfl⟩ := e
    simp only [if_true] at hmm
    subst hmm
    obtain ⟨rfl, rfl⟩ := Prod.mk.inj hx
    have hb := hw ((len + (m - len)) * 80) (by
      simp only [DataW.weights, Try.underlying22, bytes40, List.length_map, List.length_range]
      exact List.mem_cons.2 (.inl rfl))
    have hD : ∀ i, i < len → ∀ k ∈ (D i).weights Try.prog 40, k ≤ reachBytes := fun i hi k hk => hw k (by
      simp only [DataW.weights, Try.underlying22]
      refine List.mem_cons.2 (.inr (List.mem_append.2 (.inl (weights_mem_all (d := D i) ?_ hk))))
      exact List.mem_map.2 ⟨i, List.mem_range.2 hi, rfl⟩)
    have hall : ∀ i, i < len → ∃ p : Peer, ∃ (A : Option Addr) (c : Nat), (∀ j, j < 7 → w.cell? ((a.add (i * 7)).add j) = [.string p.id, .int .i64 p.gate.inc, .int .i64 p.gate.seq, .int .i64 p.gate.drops, .int .i64 p.cap, .slice A p.vals.length c, .int .i64 p.last][j]?) ∧
        Ints w A p.vals ∧ p.vals.length ≤ c ∧ p.vals.length ≤ 17592186044416 := by
      intro i hi
      obtain ⟨cs', h1, h2⟩ := hel i (by omega)
      obtain ⟨p, A, c, rfl, hI, hc, hb2⟩ := peer_read h2 (hD i hi)
      rw [cells40] at h1
      exact ⟨p, A, c, (World.cells?_some h1).2.2, hI, hc, hb2⟩
    have : Inhabited Peer := ⟨⟨ByteArray.empty, ⟨0, 0, 0⟩, 0, [], 0⟩⟩
    obtain ⟨F, hF⟩ := choose_lt hall
    have hlen : ((List.range len).map F).length = len := by simp
    refine ⟨(List.range len).map F, hlen.symm, fun h0 => ?_, by rw [hlen]; simp only [reachBytes] at hb; omega, fun k p hp => ?_⟩
    · rw [hlen] at h0
      obtain ⟨A, c, hc, _⟩ := hF 0 h0
      obtain ⟨b, off, spot⟩ := a
      have hspot : spot = none := by
        have := hc 0 (by omega)
        simp [Addr.add] at this
        exact World.cell?_spot this
      subst hspot
      refine ⟨b, off, rfl, fun k hk => ?_⟩
      rw [hlen] at hk
      have e : ((List.range len).map F)[k]'(by rw [hlen]; exact hk) = F k := by simp
      rw [e]
      obtain ⟨A, c, hc, hI, hcap, _⟩ := hF k hk
      simp only [Go.WideShapes.add_plain] at hc
      exact ⟨A, c, hc 0 (by omega), hc 1 (by omega), hc 2 (by omega), hc 3 (by omega), hc 4 (by omega), hc 5 (by omega), hc 6 (by omega), hI, hcap⟩
    · have hk : k < len := by
        have := (List.getElem?_eq_some_iff.1 hp).1
        rwa [hlen] at this
      simp [hk] at hp
      subst hp
      obtain ⟨A, c, _, _, _, hb2⟩ := hF k hk
      exact hb2

end
end Go.Proofs.Ytmclalhjnjghnaa

namespace Go.Proofs.Ytmclalhjnjghnaa
open Go.RowKit Hw Go.ChangeShapes Go.WideShapes Go.ChangeAt Go.Deep Go.Joins

theorem bytes36 : Try.prog.bytesOf 36 = 24 := by kernel_rfl

section
variable {H : Type} {enc : TypeId × Value → H} {w : World} {base : Nat} {held : Bool}

set_option maxRecDepth 100000 in
theorem lists_read {a0 : Option Addr} {len cap : Nat} {d : DataW H} {ps : List MemPlace} (h : DataW.Trod enc Try.prog w base (fun _ => true) held 71 (.slice a0 len cap) d ps) (hw : ∀ k ∈ d.weights Try.prog 71, k ≤ reachBytes) :
    ∃ L : List (List Int), len = L.length ∧ ListsR w a0 L ∧ L.length ≤ cap ∧ L.length ≤ 17592186044416 := by
  obtain ⟨fuel, hf⟩ := h
  rcases open_slice Try.underlying71 hf with ⟨e, _⟩ | ⟨a, len', cap', m, n, D, Pl, e, _, hl, hm, hmm, hx, hel⟩
  · simp [Value.cells] at e
    obtain ⟨rfl, rfl, rfl⟩ := e
    exact ⟨[], rfl, fun h0 => by simp at h0, by simp, by simp⟩
  · simp [Value.cells] at e
    obtain ⟨rfl, rfl, rfl⟩ := e
    simp only [if_true] at hmm
    subst hmm
    obtain ⟨rfl, rfl⟩ := Prod.mk.inj hx
    have hb := hw ((len + (m - len)) * 24) (by
      simp only [DataW.weights, Try.underlying71, bytes36, List.length_map, List.length_range]
      exact List.mem_cons.2 (.inl rfl))
    have hD : ∀ i, i < len → ∀ k ∈ (D i).weights Try.prog 36, k ≤ reachBytes := fun i hi k hk => hw k (by
      simp only [DataW.weights, Try.underlying71]
      refine List.mem_cons.2 (.inr (List.mem_append.2 (.inl (weights_mem_all (d := D i) ?_ hk))))
      exact List.mem_map.2 ⟨i, List.mem_range.2 hi, rfl⟩)
    have hall : ∀ i, i < len → ∃ xs : List Int, ∃ (A : Option Addr) (c : Nat), w.cell? (a.add i) = some (.slice A xs.length c) ∧ Ints w A xs ∧ xs.length ≤ 17592186044416 := by
      intro i hi
      obtain ⟨cs', h1, h2⟩ := hel i (by omega)
      obtain ⟨A, xs, c, rfl, hI, hc, hb2⟩ := ints_read h2 (hD i hi)
      rw [cells36] at h1
      have := (World.cells?_some h1).2.2 0 (by omega)
      have e0 : (a.add (i * 1)).add 0 = a.add i := by rw [Nat.mul_one]; simp [Addr.add]
      rw [e0] at this
      exact ⟨xs, A, c, this, hI, hb2⟩
    have : Inhabited (List Int) := ⟨[]⟩
    obtain ⟨F, hF⟩ := choose_lt hall
    have hlen : ((List.range len).map F).length = len := by simp
    refine ⟨(List.range len).map F, hlen.symm, fun h0 => ?_, by rw [hlen]; omega, by rw [hlen]; simp only [reachBytes] at hb; omega⟩
    rw [hlen] at h0
    obtain ⟨A, c, hc, _⟩ := hF 0 h0
    obtain ⟨b, off, spot⟩ := a
    have hspot : spot = none := by
      simp [Addr.add] at hc
      exact World.cell?_spot hc
    subst hspot
    refine ⟨b, off, rfl, fun k hk => ?_⟩
    rw [hlen] at hk
    have e : ((List.range len).map F)[k]'(by rw [hlen]; exact hk) = F k := by simp
    rw [e]
    obtain ⟨A, c, hc, hI, hb2⟩ := hF k hk
    rw [add_lit] at hc
    exact ⟨A, c, hc, hI, hb2⟩

end
end Go.Proofs.Ytmclalhjnjghnaa

namespace Go.Proofs.Ytmclalhjnjghnaa
open Go.RowKit Hw Go.ChangeShapes Go.WideShapes Go.ChangeAt Go.Deep Go.Joins

section
variable {H : Type} {enc : TypeId × Value → H} {w : World} {base : Nat} {held : Bool}

set_option maxRecDepth 100000 in
theorem ints_read1 {a0 : Option Addr} {len cap : Nat} {d : DataW H} {ps : List MemPlace} (h : DataW.Trod enc Try.prog w base (fun _ => true) held 36 (.slice a0 len cap) d ps) (hw : ∀ k ∈ d.weights Try.prog 36, k ≤ reachBytes) :
    ∃ L : List Int, len = L.length ∧ Ints w a0 L ∧ L.length ≤ cap ∧ L.length ≤ 17592186044416 := by
  obtain ⟨fuel, hf⟩ := h
  obtain ⟨A, xs, c, e, hI, hc, hb⟩ := ints_read hf hw
  simp [Value.cells] at e
  obtain ⟨rfl, rfl, rfl⟩ := e
  exact ⟨xs, rfl, hI, hc, hb⟩

end
end Go.Proofs.Ytmclalhjnjghnaa
