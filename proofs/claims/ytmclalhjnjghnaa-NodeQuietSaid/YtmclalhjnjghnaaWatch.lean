/- The contract of (*Node).Watch. -/
import Derived.Test.YtmclalhjnjghnaaNode
import Derived.Test.YtmclalhjnjghnaaSlots
namespace Go.Proofs.Ytmclalhjnjghnaa
open Go.RowKit Hw

def V61 (b : Nat) (n : Hw.Node) (A : Option Addr) (c : Nat) (id : ByteArray) (every : Int) (R : Value → World → Prop) (e : Int) (j : Nat) (v : Value) (w : World) : Prop :=
  match j with
  | 0 => v = .pointer (some ⟨b, 0, none⟩)
  | 1 => v = .pointer (some ⟨b, 0, none⟩)
  | 2 => v = .pointer (some ⟨b, 8, none⟩)
  | 3 => v = .slice A n.peers.length c
  | 4 => v = .string id
  | 5 => v = .pointer (some ⟨b, 0, none⟩)
  | 6 => v = .pointer (some ⟨b, 0, none⟩)
  | 7 => v = .pointer (some ⟨b, 0, none⟩)
  | 8 => v = .pointer (some ⟨b, 3, none⟩)
  | 9 => v = .int .i64 n.c.cap
  | 10 => v = .int .i64 every
  | 11 => v = .pointer (some ⟨b, 0, none⟩)
  | 12 => v = .pointer (some ⟨b, 0, none⟩)
  | 13 => v = .pointer (some ⟨b, 5, none⟩)
  | 14 => v = .int .i64 n.now
  | 15 => ∃ u, v = .tuple #[u, .int .i64 e] ∧ R u w
  | 16 => ∃ u, v = .tuple #[u, .int .i64 e] ∧ R u w
  | 17 => R v w
  | 18 => v = .int .i64 e
  | 19 => R v w
  | _ => v = .int .i64 e
def V61S : List Nat := [17, 18, 19, 20, 21, 22, 23, 24, 25, 26, 27, 28, 29, 30, 31, 32, 16, 33, 34, 7, 8]

theorem V61.below {b : Nat} {n : Hw.Node} {A : Option Addr} {c : Nat} {id : ByteArray} {every : Int} {R : Value → World → Prop} {e : Int} {j : Nat} {v : Value} {w w' : World} (hR : ∀ v, R v w → R v w') (h : V61 b n A c id every R e j v w) : V61 b n A c id every R e j v w' := by
  unfold V61 at *
  split at h
  all_goals first
    | exact h
    | exact hR _ h
    | (obtain ⟨u, e1, e2⟩ := h; exact ⟨u, e1, hR _ e2⟩)

/-- '(*Node).Watch'. -/
def watch (n : Hw.Node) (id : ByteArray) (every : Int) : Hw.Node × Int :=
  if sq id n.c.id then (n, 5) else if (add n.peers id n.c.cap every n.now).2 = 0 then ({ n with peers := (add n.peers id n.c.cap every n.now).1 }, 0) else (n, (add n.peers id n.c.cap every n.now).2)

set_option maxRecDepth 100000 in
set_option maxHeartbeats 2000000 in
theorem watch_any (b : Nat) (vs : Value) (n : Hw.Node) (id : ByteArray) (every : Int) (w : World) (h : NodeAt w b vs n) :
    Calls Try.prog 61 #[.pointer (some ⟨b, 0, none⟩), .string id, .int .i64 every] w fun e w' => e = .returned (.int .i64 (watch n id every).2) ∧ NodeAt w' b vs (watch n id every).1 ∧ Touch (fun k => k = b) w w' := by
  have HN := Lib.hid h
  obtain ⟨A, c, c0, -, -, c3, -, c5, -, -, c8, -, hp, -, hf⟩ := h.cells
  have Hp := Lib.hid hp
  have HF := Lib.hid hf
  have hbl := h.lt
  clear h hp hf
  by_cases hs : sq id n.c.id = true
  · have hs2 : (id.toList == n.c.id.toList) = true := hs
    have hr : watch n id every = (n, 5) := by unfold watch; rw [if_pos hs]
    have Hr := Lib.hid hr
    clear hs hr
    go_enter Try.func61, Try.ntmps61
    go_wp2
    go_ret
    rw [Hr.out]
    exact ⟨rfl, HN.out, Touch.refl _ _⟩
  · have hs2 : (id.toList == n.c.id.toList) = false := by simpa [sq] using hs
    have hr : watch n id every = if (add n.peers id n.c.cap every n.now).2 = 0 then ({ n with peers := (add n.peers id n.c.cap every n.now).1 }, 0) else (n, (add n.peers id n.c.cap every n.now).2) := by unfold watch; rw [if_neg hs]
    have Hr := Lib.hid hr
    clear hs hr
    go_enter Try.func61, Try.ntmps61
    go_wp2_with fail
    refine wp_region_lit (V61 b n A c id every (fun v wx => OwnP wx w.heap.size v (add n.peers id n.c.cap every n.now).1) (add n.peers id n.c.cap every n.now).2) (fun wx => Below w.heap.size w wx) V61S (by kernel_rfl) (by rfl) (by kernel_rfl)
      (fun j v wx wy _ h hb => h.below fun _ ho => ho.below hb) (Below.refl _ _).drew ?hs ?hd
    case hs =>
      repeat (refine AllOps.cons ?_ ?_; focus (
        intro a wx hC hk hv K hK
        have h0 := hk 0 (by decide)
        have h1 := hk 1 (by decide)
        have h2 := hk 2 (by decide)
        have HC := Lib.hid hC
        have d0 := bsome hC c0
        have d3 := bsome hC c3
        have d5 := bsome hC c5
        have d8 := bsome hC c8
        clear hk hC
        simp [Region.binds, V61, V61S] at hv h0 h1 h2
        first
          | (go_simp; exact hK _ _ HC.out (Below.refl _ _) rfl)
          | (obtain ⟨u, hv, ho⟩ := hv; go_simp; first | exact hK _ _ HC.out (Below.refl _ _) ⟨u, rfl, ho⟩ | exact hK _ _ HC.out (Below.refl _ _) ho | exact hK _ _ HC.out (Below.refl _ _) rfl)
          | (go_simp; exact hK _ _ HC.out (Below.refl _ _) hv)
          | (obtain ⟨hv, -⟩ := hv; go_simp; exact hK _ _ HC.out (Below.refl _ _) hv)
          | (obtain ⟨hv1, hv2, hv3, hv4, hv5⟩ := hv; go_simp; refine (add_any A c n.peers id n.c.cap every n.now _ (Hp.out.below HC.out)).mono ?_; rintro e w2 ⟨⟨vx, rfl, hox⟩, hb2⟩; exact hK _ _ (HC.out.trans (hb2.mono HC.out.size)) hb2 ⟨vx, rfl, hox.base HC.out.size⟩)))
      exact AllOps.nil
    case hd =>
      intro us w2 hC hv
      have e19 : OwnP w2 w.heap.size (us 19) (add n.peers id n.c.cap every n.now).1 := hv 19 (by decide)
      have e20 : us 20 = .int .i64 (add n.peers id n.c.cap every n.now).2 := hv 20 (by decide)
      obtain ⟨Ax, cx, eu, -⟩ := e19.form
      rw [eu] at e19
      have d8 := bsome hC c8
      have f8 := (hC.frozen (p := ⟨b, 8, none⟩) hbl).trans (HF.out 8)
      simp only [setAll, V61S, List.setIfInBounds_toArray, List.set_cons_zero, List.set_cons_succ, e20, eu]
      have Hox := Lib.hid e19
      have HC := Lib.hid hC
      clear hv e19 hC eu e20
      go_wp2_with fail
      · have hq : ((add n.peers id n.c.cap every n.now).2 == 0) = true := by assumption
        go_ret
        rw [Hr.out, if_pos (by simpa using hq)]
        have h0 : (add n.peers id n.c.cap every n.now).2 = 0 := by simpa using hq
        exact ⟨ret_int h0, (HN.out.below HC.out).putPeers (Hox.out.base (Nat.succ_le_of_lt hbl)), (Touch.of_below HC.out).setCell (by rfl) _⟩
      · have hq : ((add n.peers id n.c.cap every n.now).2 == 0) = false := by assumption
        go_ret
        rw [Hr.out, if_neg (by simpa using hq)]
        exact ⟨rfl, HN.out.below HC.out, Touch.of_below HC.out⟩

end Go.Proofs.Ytmclalhjnjghnaa
