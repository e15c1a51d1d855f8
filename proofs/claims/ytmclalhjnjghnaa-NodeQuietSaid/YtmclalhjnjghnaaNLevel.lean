/- Contracts of slices.IndexFunc over peers and subs, with the program's closures; of (*Node).Level. The contract of (*Node).Level. -/
import Derived.Test.YtmclalhjnjghnaaNode
import Derived.Test.YtmclalhjnjghnaaSlots
import Derived.Test.YtmclalhjnjghnaaLevel
import Derived.Test.YtmclalhjnjghnaaFind
namespace Go.Proofs.Ytmclalhjnjghnaa
open Go.RowKit Hw

/-- Where the first stands of which f is true; -1 where none. -/
def at? {α : Type} (f : α → Bool) (l : List α) : Int := match l.findIdx? f with | some k => k | none => -1

theorem at_found {α : Type} {f : α → Bool} {l : List α} {k : Nat} (hk : k < l.length) (h : f l[k] = true) (hl : ∀ j (hj : j < l.length), j < k → f l[j] = false) : at? f l = k := by
  unfold at?
  rw [List.findIdx?_eq_some_iff_getElem.2 ⟨hk, h, fun j hj => by simp [hl j (by omega) hj]⟩]

theorem at_none {α : Type} {f : α → Bool} {l : List α} (hl : ∀ j (hj : j < l.length), f l[j] = false) : at? f l = -1 := by
  unfold at?
  rw [List.findIdx?_eq_none_iff.2 fun x hx => by
    obtain ⟨j, hj, rfl⟩ := List.getElem_of_mem hx
    exact hl j hj]

set_option maxRecDepth 100000 in
theorem lvl1_any (p : Peer) (u : Value) (id : ByteArray) (g : Nat) (w : World) (hc : w.cell? ⟨g, 0, none⟩ = some (.string id)) :
    Calls Try.prog 102 #[.agg (peerCells p u).toArray, .pointer (some ⟨g, 0, none⟩)] w fun e w' => e = .returned (.bool (sq p.id id)) ∧ Below w.heap.size w w' := by
  have hb : ∀ c, Below w.heap.size w (w.alloc (.cells c 40)) := fun c => (Below.refl _ _).alloc (Nat.le_refl _) _
  have hg := blt hc
  have hc2 := fun c => bsome (hb c) hc
  go_enter Try.func102, Try.ntmps102
  go_wp2_with fail
  go_ret
  exact ⟨rfl, hb _⟩

set_option maxRecDepth 100000 in
set_option maxHeartbeats 1000000 in
theorem indexp_any (A : Option Addr) (c : Nat) (l : List Peer) (id : ByteArray) (g : Nat) (w : World) (h : PeersR w A l) (hl : l.length ≤ 6) (hc : w.cell? ⟨g, 0, none⟩ = some (.string id)) :
    Calls Try.prog 62 #[.slice A l.length c, .func (.func 102) #[] #[.pointer (some ⟨g, 0, none⟩)]] w fun e w' => e = .returned (.int .i64 (at? (fun p => sq p.id id) l)) ∧ Below w.heap.size w w' := by
  have H := Lib.hid h
  have HC := Lib.hid hc
  clear h hc
  go_enter Try.func62, Try.ntmps62
  go_wp2_with fail
  go_loopw [5, 8] (fun _ i wr => ∃ k : Nat, k ≤ l.length ∧ i = .int .i64 k ∧ Hid (Below w.heap.size w wr) ∧ Hid (∀ j (hj : j < l.length), j < k → sq (l[j]).id id = false)) (fun _ i _ => l.length - (intOf i).toNat)
  case atStart => exact ⟨0, by omega, rfl, Below.refl _ _, fun j hj h => by omega⟩
  case round =>
    obtain ⟨k, hk, rfl, HB, HJ⟩ := hrel
    by_cases hlt : k < l.length
    · obtain ⟨g', off, rfl, hp⟩ := (H.out.below HB.out) (by omega)
      obtain ⟨A', c', h0, h1, h2, h3, h4, h5, h6, -, -⟩ := hp k hlt
      have hd := bsome HB.out HC.out
      have hkl : (k : Int) < (l.length : Int) := by omega
      have hk0 : (0 : Int) ≤ (k : Int) := by omega
      have hkw : IntKind.i64.wrap ((k : Int) + 1) = (k : Int) + 1 := IntWalk.i64_in _ (by omega)
      clear hp
      go_wp2_with (go_at_call 102; refine (lvl1_any _ _ id g _ hd).mono ?_; rintro e w1 ⟨rfl, hb1⟩; have Hb1 := Lib.hid hb1; clear hb1)
      · have hs : sq l[k].id id = true := by assumption
        go_ret
        exact ⟨ret_int (at_found (f := fun p => sq p.id id) hlt hs HJ.out).symm, HB.out.trans (Hb1.out.mono HB.out.size)⟩
      · have hs : sq l[k].id id = false := by assumption
        go_roundw
        case rel => exact ⟨k + 1, by omega, by go_num, HB.out.trans (Hb1.out.mono HB.out.size), fun j hj hjk => by
          by_cases e : j = k
          · subst e; exact hs
          · exact HJ.out j hj (by omega)⟩
        case measure => simp [intOf]; omega
    · have hkl : ¬ (k : Int) < (l.length : Int) := by omega
      go_wp2_with fail
      go_ret
      exact ⟨ret_int (at_none fun j hj => HJ.out j hj (by omega)).symm, HB.out⟩

end Go.Proofs.Ytmclalhjnjghnaa

namespace Go.Proofs.Ytmclalhjnjghnaa
open Go.RowKit Hw

theorem at_cases {α : Type} (f : α → Bool) (l : List α) : (at? f l = -1 ∧ l.find? f = none) ∨ ∃ k, ∃ hk : k < l.length, at? f l = (k : Int) ∧ l.find? f = some l[k] ∧ f l[k] = true := by
  unfold at?
  cases h : l.findIdx? f with
  | none =>
    refine .inl ⟨rfl, List.find?_eq_none.2 fun x hx => ?_⟩
    have := List.findIdx?_eq_none_iff.1 h x hx
    simp [this]
  | some k =>
    obtain ⟨hk, h1, h2⟩ := List.findIdx?_eq_some_iff_getElem.1 h
    exact .inr ⟨k, hk, rfl, List.find?_eq_some_iff_getElem.2 ⟨h1, k, hk, rfl, fun j hj => by simpa using h2 j hj⟩, h1⟩

def V44 (b P : Nat) (n : Hw.Node) (p : Peer) (A2 : Option Addr) (c2 : Nat) (j : Nat) (v : Value) (_ : World) : Prop :=
  match j with
  | 0 => v = .pointer (some ⟨P, 4, none⟩)
  | 1 => v = .agg #[.int .i64 p.cap, .slice A2 p.vals.length c2]
  | 2 => v = .pointer (some ⟨b, 0, none⟩)
  | 3 => v = .pointer (some ⟨b, 0, none⟩)
  | 4 => v = .pointer (some ⟨b, 0, none⟩)
  | 5 => v = .pointer (some ⟨b, 4, none⟩)
  | 6 => v = .int .i64 n.c.least
  | 7 => v = .pointer (some ⟨b, 0, none⟩)
  | 8 => v = .pointer (some ⟨b, 0, none⟩)
  | 9 => v = .pointer (some ⟨b, 5, none⟩)
  | 10 => v = .int .i64 n.now
  | 11 => v = .pointer (some ⟨P, 6, none⟩)
  | 12 => v = .int .i64 p.last
  | 13 => v = .int .i64 (n.now - p.last)
  | 14 => v = .tuple #[.int .i64 (levelOf p.cap p.vals n.c.least (n.now - p.last)).1, .int .i64 (levelOf p.cap p.vals n.c.least (n.now - p.last)).2]
  | 15 => v = .int .i64 (levelOf p.cap p.vals n.c.least (n.now - p.last)).1
  | 16 => v = .int .i64 (levelOf p.cap p.vals n.c.least (n.now - p.last)).2
  | 17 => v = .int .i64 (levelOf p.cap p.vals n.c.least (n.now - p.last)).1
  | _ => v = .int .i64 (levelOf p.cap p.vals n.c.least (n.now - p.last)).2
def V44S : List Nat := [23, 24, 25, 26, 27, 28, 29, 30, 31, 32, 33, 34, 35, 36, 37, 38, 39, 4, 5]

/-- The node's levels can be told: no difference of times wraps. -/
def NodeLv (n : Hw.Node) : Prop := n.peers.length ≤ 6 ∧ ∀ p ∈ n.peers, IntKind.i64.wrap (n.now - p.last) = n.now - p.last

set_option maxRecDepth 100000 in
set_option maxHeartbeats 1000000 in
theorem nlevel_any (b : Nat) (vs : Value) (n : Hw.Node) (id : ByteArray) (w : World) (h : NodeAt w b vs n) (hlv : NodeLv n) :
    Calls Try.prog 44 #[.pointer (some ⟨b, 0, none⟩), .string id] w fun e w' => e = .returned (.tuple #[.int .i64 (level n id).1, .int .i64 (level n id).2]) ∧ Below w.heap.size w w' := by
  obtain ⟨A, c, -, -, -, -, c4, c5, -, -, c8, -, hp, -, -⟩ := h.cells
  have Hp := Lib.hid hp
  have hbl := h.lt
  obtain ⟨hl6, hlw⟩ := hlv
  clear h hp
  rcases at_cases (fun p => sq p.id id) n.peers with ⟨ha, hf⟩ | ⟨k, hk, ha, hf, hs⟩
  · have hr : level n id = (0, 4) := by unfold level; rw [hf]
    have Hr := Lib.hid hr
    have HI : Hid (∀ w, PeersR w A n.peers → ∀ g, w.cell? ⟨g, 0, none⟩ = some (.string id) → Calls Try.prog 62 #[.slice A n.peers.length c, .func (.func 102) #[] #[.pointer (some ⟨g, 0, none⟩)]] w fun e w' => e = .returned (.int .i64 (-1)) ∧ Below w.heap.size w w') := fun w h g hg => by
      have := indexp_any A c n.peers id g w h hl6 hg
      rwa [ha] at this
    have hbb := (Below.refl w.heap.size w).alloc (Nat.le_refl _) (.cells #[.string id] 9)
    have HB := Lib.hid hbb
    have hcg : (w.alloc (.cells #[.string id] 9)).cell? ⟨w.heap.size, 0, none⟩ = some (.string id) := by
      rw [cell_of_row _ _ _ _ _ _ (heap_alloc_new w _)]; rfl
    have HG := Lib.hid hcg
    clear hr ha hf hbb hcg
    go_enter Try.func44, Try.ntmps44
    go_wp2_with (go_at_call 62; refine (HI.out _ (Hp.out.below HB.out) _ HG.out).mono ?_; rintro e w1 ⟨rfl, hb1⟩; have Hb1 := Lib.hid hb1; clear hb1)
    go_ret2
    rw [Hr.out]
    exact ⟨rfl, HB.out.trans (Hb1.out.mono HB.out.size)⟩
  · obtain ⟨p, hpk⟩ : ∃ p, n.peers[k] = p := ⟨_, rfl⟩
    have hww := hlw p (by rw [← hpk]; exact List.getElem_mem hk)
    have hr : level n id = levelOf p.cap p.vals n.c.least (n.now - p.last) := by unfold level; rw [hf, hpk]
    have Hr := Lib.hid hr
    have HI : Hid (∀ w, PeersR w A n.peers → ∀ g, w.cell? ⟨g, 0, none⟩ = some (.string id) → Calls Try.prog 62 #[.slice A n.peers.length c, .func (.func 102) #[] #[.pointer (some ⟨g, 0, none⟩)]] w fun e w' => e = .returned (.int .i64 k) ∧ Below w.heap.size w w') := fun w h g hg => by
      have := indexp_any A c n.peers id g w h hl6 hg
      rwa [ha] at this
    have hbb := (Below.refl w.heap.size w).alloc (Nat.le_refl _) (.cells #[.string id] 9)
    have HB := Lib.hid hbb
    have hcg : (w.alloc (.cells #[.string id] 9)).cell? ⟨w.heap.size, 0, none⟩ = some (.string id) := by
      rw [cell_of_row _ _ _ _ _ _ (heap_alloc_new w _)]; rfl
    have HG := Lib.hid hcg
    have hki : (k : Int) < (n.peers.length : Int) := by omega
    have hk0 : ¬ (k : Int) < 0 := by omega
    obtain ⟨g, off, rfl, hpa⟩ := Hp.out (by omega)
    have hpat := hpa k hk
    rw [hpk] at hpat
    have Hpat := Lib.hid hpat
    have Hpk := Lib.hid hpk
    clear hr ha hf hbb hcg hlw hpa hpat hs hpk
    go_enter Try.func44, Try.ntmps44
    go_wp2_with (first | (go_at_call 62; refine (HI.out _ (Hp.out.below HB.out) _ HG.out).mono ?_; rintro e w1 ⟨rfl, hb1⟩; have hb0 := HB.out.trans (hb1.mono HB.out.size); have c8 := bsome hb0 c8; have c4 := bsome hb0 c4; have c5 := bsome hb0 c5; obtain ⟨A2, c2, p0, p1, p2, p3, p4, p5, p6, pi, -⟩ := Hpat.out.below hb0; have Pi := Lib.hid pi; have Hb0 := Lib.hid hb0; clear hb1 hb0 pi) | fail)
    have hbW := (Below.refl w1.heap.size w1).alloc (Nat.le_refl _) (.cells #[.string p.id, .int .i64 p.gate.inc, .int .i64 p.gate.seq, .int .i64 p.gate.drops, .int .i64 p.cap, .slice A2 p.vals.length c2, .int .i64 p.last] 40)
    have x0 := heap_alloc_new w1 (.cells #[.string p.id, .int .i64 p.gate.inc, .int .i64 p.gate.seq, .int .i64 p.gate.drops, .int .i64 p.cap, .slice A2 p.vals.length c2, .int .i64 p.last] 40)
    generalize w1.alloc (.cells #[.string p.id, .int .i64 p.gate.inc, .int .i64 p.gate.seq, .int .i64 p.gate.drops, .int .i64 p.cap, .slice A2 p.vals.length c2, .int .i64 p.last] 40) = W at hbW x0 ⊢
    have q4 := cell_of_row W w1.heap.size 4 _ 40 (0, 0) x0
    have q5 := cell_of_row W w1.heap.size 5 _ 40 (0, 0) x0
    have q6 := cell_of_row W w1.heap.size 6 _ 40 (0, 0) x0
    simp at q4 q5 q6
    have r4 := bsome hbW c4
    have r5 := bsome hbW c5
    have PiW := Lib.hid (Pi.out.below hbW)
    have HbW := Lib.hid (Hb0.out.trans (hbW.mono Hb0.out.size))
    clear hbW x0 p0 p1 p2 p3 p4 p5 p6 c8 c4 c5 Pi
    refine wp_region_lit (V44 b w1.heap.size n p A2 c2) (fun wx => Below W.heap.size W wx) V44S (by kernel_rfl) (by rfl) (by kernel_rfl) (fun j v wx wy _ h _ => h) (Below.refl _ _).drew ?hs ?hd
    case hs =>
      repeat (refine AllOps.cons ?_ ?_; focus (
        intro a wx hC hk hv K hK
        have h0 := hk 0 (by decide)
        have h7 := hk 7 (by decide)
        have HC := Lib.hid hC
        have d4 := bsome hC r4
        have d5 := bsome hC r5
        have e4 := bsome hC q4
        have e5 := bsome hC q5
        have e6 := bsome hC q6
        have PiX := Lib.hid (PiW.out.below hC)
        clear hk hC
        simp [Region.binds, V44, V44S] at hv h0 h7
        first
          | (go_simp; exact hK _ _ HC.out (Below.refl _ _) rfl)
          | (obtain ⟨hv1, hv2, hv3⟩ := hv; go_simp; refine (levelof_any p.cap A2 c2 p.vals n.c.least (n.now - p.last) _ PiX.out).mono ?_; rintro e w2 ⟨rfl, hb2⟩; exact hK _ _ (HC.out.trans (hb2.mono HC.out.size)) hb2 rfl)))
      exact AllOps.nil
    case hd =>
      intro us w2 hC hv
      have u17 : us 17 = .int .i64 (levelOf p.cap p.vals n.c.least (n.now - p.last)).1 := hv 17 (by decide)
      have u18 : us 18 = .int .i64 (levelOf p.cap p.vals n.c.least (n.now - p.last)).2 := hv 18 (by decide)
      simp only [setAll, V44S, List.setIfInBounds_toArray, List.set_cons_zero, List.set_cons_succ, u17, u18]
      have HC := Lib.hid hC
      clear hv hC u17 u18
      go_wp2_with fail
      go_ret2
      rw [Hr.out]
      exact ⟨rfl, HbW.out.trans (HC.out.mono HbW.out.size)⟩

end Go.Proofs.Ytmclalhjnjghnaa
