/- The contract of (*Node).Leave. -/
import Derived.Test.YtmclalhjnjghnaaDelFunc
import Derived.Test.YtmclalhjnjghnaaLeaveLaw
import Derived.Test.YtmclalhjnjghnaaBaseM
import Derived.Test.YtmclalhjnjghnaaBaseA
namespace Go.Proofs.Ytmclalhjnjghnaa
open Go.RowKit Hw

def V58 (b : Nat) (n : Hw.Node) (A : Option Addr) (c : Nat) (id : ByteArray) (R : Value → World → Prop) (e : Int) (j : Nat) (v : Value) (w : World) : Prop :=
  match j with
  | 0 => v = .pointer (some ⟨b, 0, none⟩)
  | 1 => v = .pointer (some ⟨b, 0, none⟩)
  | 2 => v = .pointer (some ⟨b, 8, none⟩)
  | 3 => v = .slice A n.peers.length c
  | 4 => v = .string id
  | 5 => ∃ u, v = .tuple #[u, .int .i64 e] ∧ R u w
  | 6 => ∃ u, v = .tuple #[u, .int .i64 e] ∧ R u w
  | 7 => R v w
  | 8 => v = .int .i64 e
  | 9 => R v w
  | _ => v = .int .i64 e
def V58S : List Nat := [8, 9, 10, 11, 12, 13, 7, 14, 15, 5, 6]

theorem V58.below {b : Nat} {n : Hw.Node} {A : Option Addr} {c : Nat} {id : ByteArray} {R : Value → World → Prop} {e : Int} {j : Nat} {v : Value} {w w' : World} (hR : ∀ v, R v w → R v w') (h : V58 b n A c id R e j v w) : V58 b n A c id R e j v w' := by
  unfold V58 at *
  split at h
  all_goals first
    | exact h
    | exact hR _ h
    | (obtain ⟨u, e1, e2⟩ := h; exact ⟨u, e1, hR _ e2⟩)

set_option maxRecDepth 100000 in
set_option maxHeartbeats 2000000 in
theorem leave_any (b : Nat) (vs : Value) (n : Hw.Node) (id : ByteArray) (w : World) (h : NodeAt w b vs n) (h8 : n.subs.length ≤ 8) :
    Calls Try.prog 58 #[.pointer (some ⟨b, 0, none⟩), .string id] w fun e w' => e = .returned (.int .i64 (nleave n id).2) ∧ ∃ vs', NodeAt w' b vs' (nleave n id).1 ∧ VsTo vs vs' w ∧ Touch (NodeS b vs) w w' := by
  have HN := Lib.hid h
  have HA := Lib.hid h.apart
  have hbl := h.lt
  have h1 := h.below ((Below.refl w.heap.size w).alloc (Nat.le_refl _) (.cells #[.string id] 9))
  have hbb := (Below.refl w.heap.size w).alloc (Nat.le_refl _) (.cells #[.string id] 9)
  have hid0 := cell_of_row _ _ 0 _ 9 (0, 0) (heap_alloc_new w (.cells #[.string id] 9))
  obtain ⟨A, c, -, -, -, -, -, -, -, -, c8, -, hp, -, hf⟩ := h1.cells
  obtain ⟨A9, c9', evs, -⟩ := h.sub
  have hvsb : vs.ownBlock = A9.map (·.block) := by
    rw [evs]
    cases A9 <;> rfl
  have hne : A9.map (·.block) ≠ some w.heap.size := by
    rw [← hvsb]
    intro e
    have := h.vs_lt w.heap.size e.symm
    omega
  obtain ⟨w1, hw1⟩ : ∃ w1, w.alloc (.cells #[.string id] 9) = w1 := ⟨_, rfl⟩
  have hid0' : (w.alloc (.cells #[.string id] 9)).cell? ⟨w.heap.size, 0, none⟩ = some (.string id) := hid0
  rw [hw1] at h1 hbb hid0' c8 hp hf
  have HW1 := Lib.hid hw1
  have HN1 := Lib.hid h1
  have HB1 := Lib.hid hbb
  have Hp := Lib.hid hp
  have HF := Lib.hid hf
  have Hvsb := Lib.hid hvsb
  have Hevs := Lib.hid evs
  have hr : nleave n id = if (drop n.peers id).2 = 0 then ({ n with peers := (drop n.peers id).1, subs := keepF id n.subs }, 0) else (n, (drop n.peers id).2) := rfl
  have Hr := Lib.hid hr
  have hg1 := blt hid0'
  have hb1 := blt c8
  clear h h1 hbb hid0 hp hf hvsb evs hr hw1
  go_enter Try.func58, Try.ntmps58
  go_wp2_with fail
  rw [HW1.out]
  refine wp_region_lit (V58 b n A c id (fun v wx => OwnP wx w1.heap.size v (drop n.peers id).1) (drop n.peers id).2) (fun wx => Below w1.heap.size w1 wx) V58S (by kernel_rfl) (by rfl) (by kernel_rfl)
    (fun j v wx wy _ h hb => h.below fun _ ho => ho.below hb) (Below.refl _ _).drew ?hs ?hd
  case hs =>
    repeat (refine AllOps.cons ?_ ?_; focus (
      intro a wx hC hk hv K hK
      have h0 := hk 0 (by decide)
      have h1 := hk 1 (by decide)
      have h3 := hk 3 (by decide)
      have HC := Lib.hid hC
      have d0 := bsome hC hid0'
      have d8 := bsome hC c8
      clear hk hC
      simp [Region.binds, V58, V58S] at hv h0 h1 h3
      first
        | (go_simp; exact hK _ _ HC.out (Below.refl _ _) rfl)
        | (obtain ⟨u, hv, ho⟩ := hv; go_simp; first | exact hK _ _ HC.out (Below.refl _ _) ⟨u, rfl, ho⟩ | exact hK _ _ HC.out (Below.refl _ _) ho | exact hK _ _ HC.out (Below.refl _ _) rfl)
        | (go_simp; exact hK _ _ HC.out (Below.refl _ _) hv)
        | (obtain ⟨hv, -⟩ := hv; go_simp; exact hK _ _ HC.out (Below.refl _ _) hv)
        | (obtain ⟨hv1, hv2⟩ := hv; go_simp; refine (drop_any A c n.peers id _ (Hp.out.below HC.out)).mono ?_; rintro e w2 ⟨⟨vx, rfl, hox⟩, hb2⟩; exact hK _ _ (HC.out.trans (hb2.mono HC.out.size)) hb2 ⟨vx, rfl, hox.base HC.out.size⟩)))
    exact AllOps.nil
  case hd =>
    intro us w2 hC hv
    have e9 : OwnP w2 w1.heap.size (us 9) (drop n.peers id).1 := hv 9 (by decide)
    have e10 : us 10 = .int .i64 (drop n.peers id).2 := hv 10 (by decide)
    obtain ⟨Ax, cx, eu, -⟩ := e9.form
    rw [eu] at e9
    have d8 := bsome hC c8
    have f8 := (hC.frozen (p := ⟨b, 8, none⟩) hb1).trans (HF.out 8)
    simp only [setAll, V58S, List.setIfInBounds_toArray, List.set_cons_zero, List.set_cons_succ, e10, eu]
    have Hox := Lib.hid e9
    have HC := Lib.hid hC
    clear hv e9 hC eu e10
    have hs1 : b + 1 ≤ w1.heap.size := by omega
    have hN2 := (HN1.out.below HC.out).putPeers (Hox.out.base hs1)
    have hi2 : (w2.setCell ⟨b, 8, none⟩ (.slice Ax (drop n.peers id).1.length cx)).cell? ⟨w.heap.size, 0, none⟩ = some (.string id) := by
      rw [World.cell?_of_block (w := w2) (heap_setCell_other _ _ _ _ (by show w.heap.size ≠ b; omega))]
      exact bsome HC.out hid0'
    have d9 : (w2.setCell ⟨b, 8, none⟩ (.slice Ax (drop n.peers id).1.length cx)).cell? ⟨b, 9, none⟩ = some (.slice A9 n.subs.length c9') := by
      obtain ⟨_, _, -, -, -, -, -, -, -, -, -, c9, -⟩ := hN2.cells
      rw [Hevs.out] at c9
      exact c9
    have hr3 : (w2.setCell ⟨b, 8, none⟩ (.slice Ax (drop n.peers id).1.length cx)).ownsRow (b + 1) 85 3 (.slice A9 n.subs.length c9') n.subs.length (subsCells n.subs) := by
      obtain ⟨_, _, _, e3⟩ := hN2
      rw [Hevs.out] at e3
      exact e3
    have HN2 := Lib.hid hN2
    have HI2 := Lib.hid hi2
    have HR3 := Lib.hid hr3
    have hb9 := blt d9
    clear hN2 hi2 hr3
    go_wp2_with (first
      | (go_at_call 112; refine (delfunc_any A9 c9' n.subs id w.heap.size (b + 1) _ HR3.out h8 HI2.out hne).mono ?_; rintro e w3 ⟨⟨v3, rfl, ho3, hv3⟩, hg3⟩; obtain ⟨A3, c3, rfl, -⟩ := own_form ho3; rw [← Hvsb.out] at hg3; have hB := HN2.out.toBgrown hg3; have f9 := hB.cell.2; have q9 := hB.cell.1; have hbl3 := blt hB.cell.1; have HBB := Lib.hid hB; have HO3 := Lib.hid ho3; have HV3 := Lib.hid hv3; have HG3 := Lib.hid hg3; clear hB ho3 hv3 hg3)
      | fail)
    · have hq : ((drop n.peers id).2 == 0) = true := by assumption
      go_ret
      have h0 : (drop n.peers id).2 = 0 := by simpa using hq
      rw [Hr.out, if_pos h0]
      have ht2 : Touch (NodeS b vs) w w2 := (Touch.of_below HB1.out).trans (Touch.of_below HC.out)
      have ht2' := ht2.setCell (a := ⟨b, 8, none⟩) (.inl rfl) (.slice Ax (drop n.peers id).1.length cx)
      have hg := HG3.out
      have ht3 : Touch (NodeS b vs) w w3 := ⟨hg.os.trans ht2'.os, hg.tape.trans ht2'.tape, hg.output.trans ht2'.output, Nat.le_trans ht2'.size hg.size, fun q hq hn => (hg.block q (Nat.lt_of_lt_of_le hq ht2'.size) fun e => hn (.inr e)).trans (ht2'.block q hq hn)⟩
      refine ⟨ret_int h0, _, HBB.out.put HO3.out, fun q hq => .inl ?_, ht3.setCell (a := ⟨b, 9, none⟩) (.inl rfl) _⟩
      rw [hq, HV3.out, Hvsb.out]
    · have hq : ((drop n.peers id).2 == 0) = false := by assumption
      go_ret
      rw [Hr.out, if_neg (by simpa using hq)]
      exact ⟨rfl, vs, HN1.out.below HC.out, VsTo.refl _ _, (Touch.of_below HB1.out).trans (Touch.of_below HC.out)⟩

end Go.Proofs.Ytmclalhjnjghnaa
