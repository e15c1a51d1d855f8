/- The contract of (*Node).Hear. -/
import Derived.Test.YtmclalhjnjghnaaTold
import Derived.Test.YtmclalhjnjghnaaHear
import Derived.Test.YtmclalhjnjghnaaDec
namespace Go.Proofs.Ytmclalhjnjghnaa
open Go.RowKit Hw

def V53 (b _ : Nat) (n : Hw.Node) (A : Option Addr) (c : Nat) (d : Beat) (R : Value → World → Prop) (t : Bool) (e : Int) (j : Nat) (v : Value) (w : World) : Prop :=
  match j with
  | 0 => v = .pointer (some ⟨b, 0, none⟩)
  | 1 => v = .pointer (some ⟨b, 0, none⟩)
  | 2 => v = .pointer (some ⟨b, 8, none⟩)
  | 3 => v = .slice A n.peers.length c
  | 4 => v = .agg #[.string d.id, .int .i64 d.inc, .int .i64 d.seq]
  | 5 => v = .pointer (some ⟨b, 0, none⟩)
  | 6 => v = .pointer (some ⟨b, 0, none⟩)
  | 7 => v = .pointer (some ⟨b, 5, none⟩)
  | 8 => v = .int .i64 n.now
  | 9 => ∃ u, v = .tuple #[u, .bool t, .int .i64 e] ∧ R u w
  | 10 => ∃ u, v = .tuple #[u, .bool t, .int .i64 e] ∧ R u w
  | 11 => R v w
  | 12 => v = .bool t
  | 13 => v = .int .i64 e
  | 14 => R v w
  | 15 => v = .bool t
  | _ => v = .int .i64 e
def V53S : List Nat := [18, 19, 20, 21, 22, 23, 24, 25, 26, 27, 17, 28, 29, 30, 8, 9, 7]

theorem V53.below {b P : Nat} {n : Hw.Node} {A : Option Addr} {c : Nat} {d : Beat} {R : Value → World → Prop} {t : Bool} {e : Int} {j : Nat} {v : Value} {w w' : World} (hR : ∀ v, R v w → R v w') (h : V53 b P n A c d R t e j v w) : V53 b P n A c d R t e j v w' := by
  unfold V53 at *
  split at h
  all_goals first
    | exact h
    | exact hR _ h
    | (obtain ⟨u, e1, e2⟩ := h; exact ⟨u, e1, hR _ e2⟩)

def dropped (n : Hw.Node) : Hw.Node := { n with drops := min (n.drops + 1) 1073741824 }

/-- '(*Node).Hear'. -/
def nhear (n : Hw.Node) (s : ByteArray) : Hw.Node × List Note × Int :=
  if (decode s).2 ≠ 0 then (dropped n, [], (decode s).2)
  else if (hear n.peers (decode s).1 n.now).2.2 ≠ 0 then (dropped n, [], (hear n.peers (decode s).1 n.now).2.2)
  else if (hear n.peers (decode s).1 n.now).2.1 = false then (dropped { n with peers := (hear n.peers (decode s).1 n.now).1 }, [], 5)
  else ((told { n with peers := (hear n.peers (decode s).1 n.now).1 }).1, (told { n with peers := (hear n.peers (decode s).1 n.now).1 }).2, 0)

def NotesPost (b : Nat) (vs : Value) (w : World) (r : Hw.Node × List Note × Int) (e : Ending) (w' : World) : Prop :=
  (∃ vn, e = .returned (.tuple #[vn, .int .i64 r.2.2]) ∧ w'.ownsRow w.heap.size 74 3 vn r.2.1.length (notesCells r.2.1)) ∧ NodeAt w' b vs r.1 ∧ Touch (NodeS b vs) w w'

set_option maxRecDepth 100000 in
set_option maxHeartbeats 2000000 in
theorem nhear_any (b : Nat) (vs : Value) (n : Hw.Node) (s : ByteArray) (w : World) (h : NodeAt w b vs n) (hd1 : 0 ≤ n.drops) (hd2 : n.drops ≤ 1073741824) (hlv : NodeLv { n with peers := (hear n.peers (decode s).1 n.now).1 }) (h8 : n.subs.length ≤ 8) :
    Calls Try.prog 53 #[.pointer (some ⟨b, 0, none⟩), .string s] w (NotesPost b vs w (nhear n s)) := by
  have HN := Lib.hid h
  have HL := Lib.hid hlv
  obtain ⟨A, c, -, -, -, -, -, c5, -, c7, c8, -, hp, -, hf⟩ := h.cells
  have Hp := Lib.hid hp
  have HF := Lib.hid hf
  have hbl := h.lt
  have hdw : IntKind.i64.wrap (n.drops + 1) = n.drops + 1 := IntWalk.i64_in _ (by omega)
  clear h hp hf hlv
  obtain ⟨D, hD⟩ : ∃ D, decode s = D := ⟨_, rfl⟩
  obtain ⟨d, e⟩ := D
  by_cases h0 : e = 0
  · subst h0
    obtain ⟨r, hrr⟩ : ∃ r, hear n.peers d n.now = r := ⟨_, rfl⟩
    obtain ⟨l2, t, e⟩ := r
    have hr : nhear n s = if e ≠ 0 then (dropped n, [], e) else if t = false then (dropped { n with peers := l2 }, [], 5) else ((told { n with peers := l2 }).1, (told { n with peers := l2 }).2, 0) := by
      unfold nhear
      simp only [hD, hrr]
      rw [if_neg (by simp)]
    have Hr := Lib.hid hr
    have HD := Lib.hid hD
    have Hrr := Lib.hid hrr
    rw [hD] at HL
    simp only [hrr] at HL
    clear hr hD hrr
    go_enter Try.func53, Try.ntmps53
    go_wp2_with (first | (go_at_call 36; refine (decode_any s _).mono ?_; rintro e1 w1 ⟨rfl, hb1⟩; rw [HD.out]; unfold decV; have hb1l := Nat.lt_of_lt_of_le hbl hb1.size; have Hb1 := Lib.hid hb1; clear hb1) | fail)
    have hbW := (Below.refl w1.heap.size w1).alloc (Nat.le_refl _) (.cells #[.string d.id, .int .i64 d.inc, .int .i64 d.seq] 24)
    have x0 := heap_alloc_new w1 (.cells #[.string d.id, .int .i64 d.inc, .int .i64 d.seq] 24)
    generalize w1.alloc (.cells #[.string d.id, .int .i64 d.inc, .int .i64 d.seq] 24) = W at hbW x0 ⊢
    have q0 := cell_of_row W w1.heap.size 0 _ 24 (0, 0) x0
    have q1 := cell_of_row W w1.heap.size 1 _ 24 (0, 0) x0
    have q2 := cell_of_row W w1.heap.size 2 _ 24 (0, 0) x0
    simp at q0 q1 q2
    have HBW := Lib.hid (Hb1.out.trans (hbW.mono Hb1.out.size))
    have r5 := bsome HBW.out c5
    have r8 := bsome HBW.out c8
    clear hbW x0
    refine wp_region_lit (V53 b w1.heap.size n A c d (fun v wx => OwnP wx w.heap.size v l2) t e) (fun wx => Below W.heap.size W wx) V53S (by kernel_rfl) (by rfl) (by kernel_rfl) (fun j v wx wy _ h hb => h.below fun _ ho => ho.below hb) (Below.refl _ _).drew ?hs ?hd
    case hs =>
      repeat (refine AllOps.cons ?_ ?_; focus (
        intro a wx hC hk hv K hK
        have h0 := hk 0 (by decide)
        have h6 := hk 6 (by decide)
        have HC := Lib.hid hC
        have d5 := bsome hC r5
        have d8 := bsome hC r8
        have e0 := bsome hC q0
        have e1 := bsome hC q1
        have e2 := bsome hC q2
        clear hk hC
        simp [Region.binds, V53, V53S] at hv h0 h6
        first
          | (go_simp; exact hK _ _ HC.out (Below.refl _ _) rfl)
          | (obtain ⟨u, hv, ho⟩ := hv; go_simp; first | exact hK _ _ HC.out (Below.refl _ _) ⟨u, rfl, ho⟩ | exact hK _ _ HC.out (Below.refl _ _) ho | exact hK _ _ HC.out (Below.refl _ _) rfl)
          | (go_simp; exact hK _ _ HC.out (Below.refl _ _) hv)
          | (obtain ⟨hv, -⟩ := hv; go_simp; exact hK _ _ HC.out (Below.refl _ _) hv)
          | (obtain ⟨hv1, hv2, hv3⟩ := hv; go_simp; refine (hear_any A c n.peers d n.now _ (Hp.out.below (HBW.out.trans (HC.out.mono HBW.out.size)))).mono ?_; rintro e w2 ⟨⟨vx, rfl, hox⟩, hb2⟩; rw [Hrr.out] at hox ⊢; exact hK _ _ (HC.out.trans (hb2.mono HC.out.size)) hb2 ⟨vx, rfl, hox.base (Nat.le_trans HBW.out.size HC.out.size)⟩)))
      exact AllOps.nil
    case hd =>
      intro us w2 hC hv
      have e14 : OwnP w2 w.heap.size (us 14) l2 := hv 14 (by decide)
      have e15 : us 15 = .bool t := hv 15 (by decide)
      have e16 : us 16 = .int .i64 e := hv 16 (by decide)
      obtain ⟨Ax, cx, eu, -⟩ := e14.form
      rw [eu] at e14
      have hbA := HBW.out.trans (hC.mono HBW.out.size)
      have d7 := bsome hbA c7
      have f7 := (hbA.frozen (p := ⟨b, 7, none⟩) hbl).trans (HF.out 7)
      have f8 := (hbA.frozen (p := ⟨b, 8, none⟩) hbl).trans (HF.out 8)
      have d8 := bsome hbA c8
      simp only [setAll, V53S, List.setIfInBounds_toArray, List.set_cons_zero, List.set_cons_succ, e15, e16, eu]
      have Hox := Lib.hid e14
      have HA := Lib.hid hbA
      have hbl2 := blt d7
      clear hv e14 hC eu e15 e16 hbA
      by_cases he : e = 0
      · subst he
        have Hr := Lib.hid (Hr.out.trans (if_neg (by simp)))
        cases t with
        | true =>
          have Hr := Lib.hid (Hr.out.trans (if_neg (by simp)))
          have hm := (HN.out.below HA.out).putPeers (Hox.out.base (Nat.succ_le_of_lt hbl))
          have Hm := Lib.hid hm
          have ht8 := (Touch.of_below HA.out : Touch (NodeS b vs) w w2).setCell (a := ⟨b, 8, none⟩) (.inl rfl) (.slice Ax l2.length cx)
          have Ht8 := Lib.hid ht8
          clear hm ht8
          go_wp2_with (first | (go_at_call 95; refine (told_any b vs { n with peers := l2 } _ Hm.out HL.out h8).mono ?_; rintro e3 w3 ⟨⟨vn, rfl, ho3⟩, hn3, ht3⟩; have Ho3 := Lib.hid (own_base ho3 Ht8.out.size); have Hn3 := Lib.hid hn3; have Ht3 := Lib.hid (Ht8.out.trans ht3); obtain ⟨A3, d3, rfl, -⟩ := own_form ho3; clear ho3 hn3 ht3) | fail)
          go_ret2
          unfold NotesPost
          rw [Hr.out]
          exact ⟨⟨_, rfl, Ho3.out⟩, Hn3.out, Ht3.out⟩
        | false =>
          have Hr := Lib.hid (Hr.out.trans (if_pos rfl))
          go_wp2_with fail
          go_ret2
          unfold NotesPost
          rw [Hr.out]
          exact ⟨⟨_, rfl, World.ownsRow_nil _ _ _ _⟩, ((HN.out.below HA.out).putPeers (Hox.out.base (Nat.succ_le_of_lt hbl))).putDrops (min (n.drops + 1) 1073741824), ((Touch.of_below HA.out).setCell (a := ⟨b, 8, none⟩) (.inl rfl) _).setCell (a := ⟨b, 7, none⟩) (.inl rfl) _⟩
      · have heb2 : (e != 0) = true := by simpa using he
        have Hr := Lib.hid (Hr.out.trans (if_pos he))
        clear he
        go_wp2_with fail
        go_ret2
        unfold NotesPost
        rw [Hr.out]
        exact ⟨⟨_, rfl, World.ownsRow_nil _ _ _ _⟩, (HN.out.below HA.out).putDrops _, (Touch.of_below HA.out).setCell (a := ⟨b, 7, none⟩) (.inl rfl) _⟩
  · have hr : nhear n s = (dropped n, [], e) := by unfold nhear; rw [hD, if_pos h0]
    have Hr := Lib.hid hr
    have heb : (e == 0) = false := by simpa using h0
    have heb2 : (e != 0) = true := by simp [heb, bne]
    have HD := Lib.hid hD
    clear hr h0 hD
    go_enter Try.func53, Try.ntmps53
    go_wp2_with (first | (go_at_call 36; refine (decode_any s _).mono ?_; rintro e1 w1 ⟨rfl, hb1⟩; rw [HD.out]; unfold decV; have c7 := bsome hb1 c7; have f7 := (hb1.frozen (p := ⟨b, 7, none⟩) hbl).trans (HF.out 7); have hb1l := blt c7; have Hb1 := Lib.hid hb1; clear hb1) | fail)
    go_ret2
    unfold NotesPost
    rw [Hr.out]
    refine ⟨⟨_, rfl, World.ownsRow_nil _ _ _ _⟩, ?_, ?_⟩
    · exact ((HN.out.below Hb1.out).putDrops (min (n.drops + 1) 1073741824)).below ((Below.refl _ _).alloc (Nat.le_refl _) _)
    · exact (((Touch.of_below Hb1.out).setCell (a := ⟨b, 7, none⟩) (.inl rfl) _).alloc _)

end Go.Proofs.Ytmclalhjnjghnaa
