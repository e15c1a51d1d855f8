/- The walk of PeersOwn: it says true. -/
import Derived.Test.YtmclalhjnjghnaaSmall
namespace Go.Proofs.Ytmclalhjnjghnaa
open Go.RowKit Hw

theorem InP.base {w : World} {B B' g : Nat} {l : List Peer} {us : List Value} (h : InP w B g l us) (hB : B' ≤ B) : InP w B' g l us := by
  obtain ⟨h1, h2, h3, h4⟩ := h
  refine ⟨h1, by omega, h3, fun k u p a b => ?_⟩
  obtain ⟨g', e, hg, hc⟩ := h4 k u p a b
  exact ⟨g', e, by omega, hc⟩

/-- Peers that were copied stay when a row of another kind grows. -/
theorem InP.kept {w w' : World} {B B' g s n : Nat} {l : List Peer} {us xs : List Value} {v : Value} (h : InP w B g l us) (ho : w.ownsRow B' 22 s v n xs) (hg : w.grownBy w' v.ownBlock) : InP w' B g l us := by
  have hne : ∀ (q : Nat) (c : Array Value) (t : TypeId), w.heap[q]? = some (.cells c t (0, 0)) → t ≠ 22 → w'.heap[q]? = some (.cells c t (0, 0)) := by
    intro q c t hq ht
    refine (hg.block q (Array.getElem?_eq_some_iff.1 hq).1 ?_).trans hq
    intro he
    rcases ho.2 with ⟨e1, _⟩ | ⟨g', cap, cur, e1, _, e3, _⟩
    · rw [e1] at he; simp [Value.ownBlock] at he
    · rw [e1] at he
      simp [Value.ownBlock] at he
      subst he
      rw [hq] at e3
      injection e3 with e3
      injection e3 with _ e4 _
      exact ht e4
  obtain ⟨h1, h2, h3, h4⟩ := h
  refine ⟨h1, h2, hne _ _ _ h3 (by decide), fun k u p a b => ?_⟩
  obtain ⟨g', e, hg', hc⟩ := h4 k u p a b
  exact ⟨g', e, hg', hne _ _ _ hc (by decide)⟩

theorem Alike.below {w0 w w' : World} {B : Nat} (h : Alike B w0 w) (hb : Below w.heap.size w w') (hs : w0.heap.size ≤ w.heap.size) : Alike B w0 w' := fun k h1 h2 => (hb.block k (by omega)).trans (h k h1 h2)

theorem own_some {w : World} {B : Nat} {e : TypeId} {s : Nat} {v : Value} {n : Nat} {xs : List Value} (h : w.ownsRow B e s v n xs) (hn : 0 < n) : ∃ g c, v = .slice (some ⟨g, 0, none⟩) n c ∧ B ≤ g := by
  rcases h.2 with ⟨_, e2⟩ | ⟨g, cap, cur, e1, e2, _⟩
  · omega
  · exact ⟨g, cap, e1, e2⟩

theorem info22 : (Try.prog.info? 22).map (fun i => (i.zero, i.size, i.bytes)) = some (some (.slice none 0 0), 1, 24) := by kernel_rfl

/-- What stands in the room behind the peers. -/
theorem rest_at {w : World} {g k : Nat} {l : List Peer} {us : List Value} (h : w.heap[g]? = some (.cells (cellsOf l us ++ restCells).toArray 40 (0, 0))) (hl : (cellsOf l us).length = l.length * 7) (hk : k < 3) (j : Nat) (hj : j < 7) :
    w.cell? ⟨g, l.length * 7 + k * 7 + j, none⟩ = spareCells[j]? := by
  rw [cell_of_row w g _ _ 40 (0, 0) h, List.getElem?_toArray, List.getElem?_append_right (by omega), hl, show l.length * 7 + k * 7 + j - l.length * 7 = k * 7 + j by omega]
  obtain rfl | rfl | rfl : k = 0 ∨ k = 1 ∨ k = 2 := by omega
  all_goals
    obtain rfl | rfl | rfl | rfl | rfl | rfl | rfl : j = 0 ∨ j = 1 ∨ j = 2 ∨ j = 3 ∨ j = 4 ∨ j = 5 ∨ j = 6 := by omega
    all_goals rfl

/-- One of the peers that were copied, and its list. -/
theorem InP.at {w : World} {B g : Nat} {l : List Peer} {us : List Value} (h : InP w B g l us) {k : Nat} (hk : k < l.length) :
    ∃ g', w.cell? ⟨g, k * 7, none⟩ = some (.string l[k].id) ∧ w.cell? ⟨g, k * 7 + 1, none⟩ = some (.int .i64 l[k].gate.inc) ∧ w.cell? ⟨g, k * 7 + 2, none⟩ = some (.int .i64 l[k].gate.seq) ∧ w.cell? ⟨g, k * 7 + 3, none⟩ = some (.int .i64 l[k].gate.drops) ∧
      w.cell? ⟨g, k * 7 + 4, none⟩ = some (.int .i64 l[k].cap) ∧ w.cell? ⟨g, k * 7 + 5, none⟩ = some (.slice (some ⟨g', 0, none⟩) l[k].vals.length (l[k].vals.length + 3)) ∧ w.cell? ⟨g, k * 7 + 6, none⟩ = some (.int .i64 l[k].last) ∧
      w.heap[g']? = some (.cells (ints l[k].vals ++ [Value.int .i64 (-78), .int .i64 (-78), .int .i64 (-78)]).toArray 3 (0, 0)) := by
  obtain ⟨h1, h2, h3, h4⟩ := h
  have hv : us[k]? = some (us[k]'(by omega)) := List.getElem?_eq_getElem (by omega)
  obtain ⟨g', ev, _, hc⟩ := h4 k _ _ hv (List.getElem?_eq_getElem hk)
  have hlen := cellsOf_length l us h1
  have hcell : ∀ j u, j < 7 → (peerCells l[k] (us[k]'(by omega)))[j]? = some u → w.cell? ⟨g, k * 7 + j, none⟩ = some u := by
    intro j u hj hu
    rw [cell_of_row w g _ _ 40 (0, 0) h3, List.getElem?_toArray, List.getElem?_append_left (by rw [hlen]; omega), cellsOf_get l us k j h1 hk hj]
    exact hu
  rw [ev] at hcell
  exact ⟨g', hcell 0 _ (by omega) rfl, hcell 1 _ (by omega) rfl, hcell 2 _ (by omega) rfl, hcell 3 _ (by omega) rfl, hcell 4 _ (by omega) rfl, hcell 5 _ (by omega) rfl, hcell 6 _ (by omega) rfl, hc⟩

set_option maxRecDepth 100000 in
set_option maxHeartbeats 4000000 in
theorem peersown_any (A : Option Addr) (c : Nat) (l : List Peer) (id : ByteArray) (b : Beat) (now : Int) (w : World) (h : PeersR w A l) (hl : l.length ≤ 1759218604441) (hv : ∀ (k : Nat) (p : Peer), l[k]? = some p → p.vals.length ≤ 17592186044416) :
    Calls Try.prog 3 #[.slice A l.length c, .string id, .agg #[.string b.id, .int .i64 b.inc, .int .i64 b.seq], .int .i64 now] w fun e w' => e = .returned (.bool true) ∧ Below w.heap.size w w' := by
  have Hh := Lib.hid h
  have HV := Lib.hid hv
  clear h hv
  go_enter Try.func3, Try.ntmps3
  go_upto_region 9 with (first
    | (go_at_call 20; refine (begun_any _).mono ?_; rintro e w1 ⟨rfl, hb1⟩; obtain ⟨c1, f1, z1, hw1⟩ := keep1 hb1; have c10 := c1 0; have c11 := c1 1; have c12 := c1 2; simp at c10 c11 c12; clear c1 f1 hb1)
    | (go_at_call 21; refine (cop_any A c l _ (Hh.out.below hw1) hl HV.out).mono ?_; rintro e w2 ⟨⟨g, us, rfl, hin⟩, hb2⟩; have hw2 := hw1.trans (hb2.mono hw1.size); have c20 := bsome hb2 c10; have c21 := bsome hb2 c11; have c22 := bsome hb2 c12; have Hin := Lib.hid hin; have hrd := hin.reads; have Hrd := Lib.hid hrd; have s2 := hb2.size; clear hin hrd c10 c11 c12)
    | (go_at_call 22; refine (add_any _ _ l id 3 5 7 _ Hrd.out).mono ?_; rintro e w3 ⟨⟨vx, rfl, hox⟩, hb3⟩; have Hox := Lib.hid hox; have c30 := bsome hb3 c20; have c31 := bsome hb3 c21; have c32 := bsome hb3 c22; have s3 := hb3.size; clear hox c20 c21 c22)
    | (go_at_call 23; refine (drop_any _ _ l id _ (Hrd.out.below hb3)).mono ?_; rintro e w4 ⟨⟨vy, rfl, hoy⟩, hb4⟩; have Hoy := Lib.hid hoy; have c40 := bsome hb4 c30; have c41 := bsome hb4 c31; have c42 := bsome hb4 c32; have s4 := hb4.size; clear hoy c30 c31 c32)
    | (go_at_call 24; refine (hear_any _ _ l b now _ ((Hrd.out.below hb3).below hb4)).mono ?_; rintro e w5 ⟨⟨vz, rfl, hoz⟩, hb5⟩; have Hoz := Lib.hid hoz; have s5 := hb5.size; clear hoz c40 c41 c42)
    | (go_at_call 25; refine (samepeers_same _ _ _ _ l _ (((Hrd.out.below hb3).below hb4).below hb5) ((((Hh.out.below hw2).below hb3).below hb4).below hb5) (by omega) HV.out).mono ?_; rintro e w6 ⟨rfl, hb6⟩; have s6 := hb6.size)
    | fail)
  have Hb6 := Lib.hid hb6
  obtain ⟨Ax, cx, rfl, -⟩ := Hox.out.form
  obtain ⟨Ay, cy, rfl, -⟩ := Hoy.out.form
  obtain ⟨Az, cz, rfl, -⟩ := Hoz.out.form
  have hwN : (0 : Int) ≤ (l.length : Int) := by omega
  have hin6 : InP w6 w1.heap.size g l us := (((Hin.out.below hb3).below hb4).below hb5).below hb6
  have Hin6 := Lib.hid hin6
  have hcl := cellsOf_length l us hin6.1
  have hgh := hin6.2.2.1
  have Hcl := Lib.hid hcl
  have Hgh := Lib.hid hgh
  have zg := (Array.getElem?_eq_some_iff.1 hgh).1
  clear hin6 hcl hgh
  go_wp2_with fail
  rw [show l.length + 3 - l.length = 3 by omega]
  go_loopw [18, 62] (fun _ i wr => ∃ k : Nat, k ≤ 3 ∧ i = .int .i64 k ∧ Hid (Below w6.heap.size w6 wr)) (fun _ i _ => 3 - (intOf i).toNat)
  case atStart => exact ⟨0, by omega, rfl, Below.refl _ _⟩
  case round =>
    obtain ⟨k, hk, rfl, HB⟩ := hrel
    by_cases hlt : k < 3
    · have hq := rest_at (HB.out.block g zg |>.trans Hgh.out) Hcl.out hlt
      have q0 := hq 0 (by omega)
      have q1 := hq 1 (by omega)
      have q2 := hq 2 (by omega)
      have q3 := hq 3 (by omega)
      have q4 := hq 4 (by omega)
      have q5 := hq 5 (by omega)
      have q6 := hq 6 (by omega)
      simp [spare] at q0 q1 q2 q3 q4 q5 q6
      have hkw : IntKind.i64.wrap ((k : Int) + 1) = (k : Int) + 1 := IntWalk.i64_in _ (by omega)
      have hk3 : (k : Int) < 3 := by omega
      have hk0 : (0 : Int) ≤ (k : Int) := by omega
      clear hq
      go_wp2_with fail
      go_roundw
      case rel => exact ⟨k + 1, by omega, by go_num, HB.out.alloc HB.out.size _⟩
      case measure => simp [intOf]; omega
    · have hk3 : k = 3 := by omega
      subst hk3
      go_wp2_with fail
      go_loopw [20, 72] (fun _ i wr => ∃ k : Nat, k ≤ l.length ∧ i = .int .i64 k ∧ Hid (Below w6.heap.size w6 wr)) (fun _ i _ => l.length - (intOf i).toNat)
      case atStart => exact ⟨0, by omega, rfl, HB.out⟩
      case round =>
        rename_i wr1
        clear HB
        obtain ⟨k, hk, rfl, HB⟩ := hrel
        by_cases hlt : k < l.length
        · obtain ⟨g', d0, d1, d2, d3, d4, d5, d6, hc'⟩ := InP.at (Hin6.out.below HB.out) hlt
          have Hc' := Lib.hid hc'
          have hvl := HV.out k l[k] (List.getElem?_eq_getElem hlt)
          have hkw : IntKind.i64.wrap ((k : Int) + 1) = (k : Int) + 1 := IntWalk.i64_in _ (by omega)
          have hk3 : (k : Int) < (l.length : Int) := by omega
          have hk0 : (0 : Int) ≤ (k : Int) := by omega
          clear hc'
          go_wp2_with (go_at_call 26; refine (marked_any g' l[k].vals (-78) _ ?a1 hvl).mono ?_; (case a1 => exact (Below.heap_alloc _ _ _ (Array.getElem?_eq_some_iff.1 Hc'.out).1).trans Hc'.out); rintro e w7 ⟨rfl, hb7⟩; have Hb7 := Lib.hid hb7; clear hb7)
          go_roundw
          case rel =>
            have hfin : Hid (Below w6.heap.size w6 w7) := (HB.out.alloc HB.out.size _).trans (Hb7.out.mono (by have := HB.out.size; simp; omega))
            (repeat apply Exists.intro)
            exact ⟨⟨k + 1, by omega, by go_num, hfin⟩, rfl⟩
          case measure => simp [intOf]; omega
        · have hkl : k = l.length := by omega
          subst hkl
          go_wp2_with fail
          rename_i wr2
          obtain ⟨AA, CC, L, Wd, f1, f2, f3, f4, f5, f6, f7⟩ : ∃ (AA : Nat → Option Addr) (CC : Nat → Nat) (L : Nat → List Peer) (Wd : Nat → World),
              (Ax = AA 0 ∧ Ay = AA 1 ∧ Az = AA 2) ∧ (cx = CC 0 ∧ cy = CC 1 ∧ cz = CC 2) ∧ ((add l id 3 5 7).1 = L 0 ∧ (drop l id).1 = L 1 ∧ (hear l b now).1 = L 2) ∧ (w2 = Wd 0 ∧ w3 = Wd 1 ∧ w4 = Wd 2 ∧ w5 = Wd 3) ∧
              (∀ j, j < 3 → OwnP (Wd (j + 1)) (Wd j).heap.size (.slice (AA j) (L j).length (CC j)) (L j)) ∧ (∀ j, j < 3 → Below (Wd j).heap.size (Wd j) (Wd (j + 1))) ∧ (∀ j, j < 3 → Small (L j)) := by
            refine ⟨fun j => match j with | 0 => Ax | 1 => Ay | _ => Az, fun j => match j with | 0 => cx | 1 => cy | _ => cz, fun j => match j with | 0 => (add l id 3 5 7).1 | 1 => (drop l id).1 | _ => (hear l b now).1,
              fun j => match j with | 0 => w2 | 1 => w3 | 2 => w4 | _ => w5, ⟨rfl, rfl, rfl⟩, ⟨rfl, rfl, rfl⟩, ⟨rfl, rfl, rfl⟩, ⟨rfl, rfl, rfl, rfl⟩, fun j hj => ?_, fun j hj => ?_, fun j hj => ?_⟩
            · obtain rfl | rfl | rfl : j = 0 ∨ j = 1 ∨ j = 2 := by omega
              · exact Hox.out
              · exact Hoy.out
              · exact Hoz.out
            · obtain rfl | rfl | rfl : j = 0 ∨ j = 1 ∨ j = 2 := by omega
              · exact hb3
              · exact hb4
              · exact hb5
            · obtain rfl | rfl | rfl : j = 0 ∨ j = 1 ∨ j = 2 := by omega
              · exact small_add _ _ _ _ _
              · exact small_drop _ _
              · exact small_hear _ _ _
          obtain ⟨rfl, rfl, rfl⟩ := f1
          obtain ⟨rfl, rfl, rfl⟩ := f2
          rw [f3.1, f3.2.1, f3.2.2]
          have hall : ∀ j, j < 3 → (wr.alloc (.cells #[.slice (AA 0) (L 0).length (CC 0), .slice (AA 1) (L 1).length (CC 1), .slice (AA 2) (L 2).length (CC 2)] 22)).cell? ⟨wr.heap.size, j, none⟩ = some (.slice (AA j) (L j).length (CC j)) := by
            intro j hj
            rw [World.cell?_alloc_new]
            obtain rfl | rfl | rfl : j = 0 ∨ j = 1 ∨ j = 2 := by omega
            all_goals rfl
          have hBA : Below w6.heap.size w6 (wr.alloc (.cells #[.slice (AA 0) (L 0).length (CC 0), .slice (AA 1) (L 1).length (CC 1), .slice (AA 2) (L 2).length (CC 2)] 22)) := HB.out.alloc HB.out.size _
          have hza : wr.heap.size < (wr.alloc (.cells #[.slice (AA 0) (L 0).length (CC 0), .slice (AA 1) (L 1).length (CC 1), .slice (AA 2) (L 2).length (CC 2)] 22)).heap.size := by simp
          obtain ⟨ha, hha⟩ : ∃ ha, ha = wr.heap.size := ⟨_, rfl⟩
          rw [← hha] at hall hza ⊢
          generalize wr.alloc (.cells #[.slice (AA 0) (L 0).length (CC 0), .slice (AA 1) (L 1).length (CC 1), .slice (AA 2) (L 2).length (CC 2)] 22) = wA at hall hBA hza ⊢
          have hz6 : w6.heap.size ≤ ha := by rw [hha]; exact HB.out.size
          have F3 := Lib.hid f3
          have F4 := Lib.hid f4
          have F5 := Lib.hid f5
          have F6 := Lib.hid f6
          have F7 := Lib.hid f7
          have Hall := Lib.hid hall
          have HBA := Lib.hid hBA
          have F8 : Hid (∀ j, j < 3 → Below (Wd (j + 1)).heap.size (Wd (j + 1)) (Wd 3)) := by
            have e1 := f6 1 (by omega)
            have e2 := f6 2 (by omega)
            intro j hj
            obtain rfl | rfl | rfl : j = 0 ∨ j = 1 ∨ j = 2 := by omega
            · exact e1.trans (e2.mono e1.size)
            · exact e2
            · exact Below.refl _ _
          have F9 : Hid (Below (Wd 3).heap.size (Wd 3) wA) := by
            have := f4.2.2.2
            subst this
            exact Hb6.out.trans (hBA.mono Hb6.out.size)
          clear f3 f4 f5 f6 f7 hall hBA hha
          obtain ⟨i0, hi0, hz0, hz1, hz2⟩ := info_parts info22
          go_loopw [22, 24, 88] (fun v _ i wr => ∃ (k : Nat) (xs : List Value), k ≤ 3 ∧ i = .int .i64 k ∧ xs.length = k ∧ Hid (wr.ownsRow wA.heap.size 22 1 v k xs) ∧
            Hid (∀ j, j < k → ∃ g us, xs[j]? = some (.slice (some ⟨g, 0, none⟩) (L j).length ((L j).length + 3)) ∧ InP wr wA.heap.size g (L j) us) ∧ Hid (Below wA.heap.size wA wr)) (fun _ _ i _ => 3 - (intOf i).toNat)
          case atStart => exact ⟨0, [], by omega, rfl, rfl, World.ownsRow_nil _ _ _ _, fun j hj => by omega, Below.refl _ _⟩
          case round =>
            clear HB
            obtain ⟨k, xs, hk, rfl, hxs, HO, HI, HB⟩ := hrel
            by_cases hlt : k < 3
            · have hq := bsome HB.out (Hall.out k hlt)
              have hown := F5.out k hlt
              have hchain := (F8.out k hlt).trans (F9.out.mono (F8.out k hlt).size)
              have hr : PeersR wr (AA k) (L k) := (hown.reads.below hchain).below HB.out
              have Hr := Lib.hid hr
              have Hsm := Lib.hid (F7.out k hlt)
              have hkw : IntKind.i64.wrap ((k : Int) + 1) = (k : Int) + 1 := IntWalk.i64_in _ (by omega)
              have hk3 : (k : Int) < 3 := by omega
              have hk0 : (0 : Int) ≤ (k : Int) := by omega
              have hsz := HB.out.size
              clear hown hchain hr
              go_wp2_with (first
                | (go_at_call 21; refine (cop_any (AA k) (CC k) (L k) _ Hr.out ?a1 ?a2).mono ?_; (case a1 => (have := Hsm.out.1; omega)); (case a2 => exact fun j p hp => Nat.le_trans (Hsm.out.2 p (List.mem_of_getElem? hp)) (by omega)); rintro e w8 ⟨⟨g8, us8, rfl, hin8⟩, hb8⟩; have Hin8 := Lib.hid hin8; have Hb8 := Lib.hid hb8; clear hin8 hb8)
                | (at_builtin; refine wpList_append_own_at _ rfl (.tmp 92) (.tmp 95) 42 rfl wA.heap.size 22 i0 _ 1 24 Try.underlying42 hi0 hz0 hz1 hz2 rfl (by omega) _ k xs rfl (by exact own_below HO.out (Hb8.out.alloc Hb8.out.size _)) ⟨w8.heap.size, 0, none⟩ 1 1 [.slice (some ⟨g8, 0, none⟩) (L k).length ((L k).length + 3)] rfl rfl ?b1 ?b2 ?b3 ?b4 ?b5 ?_; (case b1 => exact news_at _ _ _ _ rfl); (case b2 => simp [Value.oneCell']); (case b3 => (simp only [maxLen]; omega)); (case b4 => omega); (case b5 => (have := Hb8.out.size; simp; omega)); intro v9 w9 ho9 hg9 _ _; have Ho9 := Lib.hid ho9; have Hg9 := Lib.hid hg9; clear ho9 hg9)
                | fail)
              have hb9 : Below wA.heap.size wA w9 := (HB.out.trans ((Hb8.out.alloc Hb8.out.size _).mono hsz)).grown Hg9.out (by have := Hb8.out.size; simp; omega) (fun q hq2 => (HO.out.lt q hq2).1)
              have Hb9 := Lib.hid hb9
              have hb89 : Below wr.heap.size wr (w8.alloc (.cells #[.slice (some ⟨g8, 0, none⟩) (L k).length ((L k).length + 3)] 22)) := Hb8.out.alloc Hb8.out.size _
              have hwant : ∀ j, j < k + 1 → ∃ g us, (xs ++ [Value.slice (some ⟨g8, 0, none⟩) (L k).length ((L k).length + 3)])[j]? = some (.slice (some ⟨g, 0, none⟩) (L j).length ((L j).length + 3)) ∧ InP w9 wA.heap.size g (L j) us := by
                have ho := own_below HO.out hb89
                intro j hj
                rcases Nat.lt_or_ge j k with h1 | h1
                · obtain ⟨g', us', e1, e2⟩ := HI.out j h1
                  exact ⟨g', us', by rw [List.getElem?_append_left (by omega)]; exact e1, (e2.below hb89).kept ho Hg9.out⟩
                · obtain rfl : j = k := by omega
                  refine ⟨g8, us8, by rw [List.getElem?_append_right (by omega), hxs]; simp, ?_⟩
                  have e2 := (Hin8.out.below ((Below.refl _ _).alloc (Nat.le_refl _) (.cells #[.slice (some ⟨g8, 0, none⟩) (L j).length ((L j).length + 3)] 22))).kept ho Hg9.out
                  exact e2.base hsz
              have Hwant := Lib.hid hwant
              clear hb9 hb89 hwant
              go_roundw
              case rel =>
                (repeat apply Exists.intro)
                exact ⟨⟨k + 1, _, by omega, by go_num, by simp [hxs], Ho9.out, Hwant.out, Hb9.out⟩, rfl⟩
              case measure => simp [intOf]; omega
            · have hk3 : k = 3 := by omega
              subst hk3
              have HW2 : Hid (Below w2.heap.size w2 wr) := by
                have e34 := hb3.trans (hb4.mono hb3.size)
                have e35 := e34.trans (hb5.mono e34.size)
                have e36 := e35.trans (hb6.mono e35.size)
                have e3A := e36.trans (HBA.out.mono e36.size)
                exact e3A.trans (HB.out.mono e3A.size)
              have Hspin : Hid (SpP wr w1.heap.size w2.heap.size (.slice (some ⟨g, 0, none⟩) l.length (l.length + 3))) :=
                Hin.out.sp (Alike.of_below _ HW2.out) (by simp only [maxLen]; omega) (fun k p hp => by have := HV.out k p hp; simp only [maxLen]; omega)
              have hB1 : w1.heap.size ≤ wr.heap.size := Nat.le_trans s2 HW2.out.size
              obtain ⟨wI, rfl⟩ : ∃ x, x = wr := ⟨wr, rfl⟩
              obtain ⟨gw, cw, ev, hgw⟩ := own_some HO.out (by omega)
              subst ev
              have hwantc : ∀ j, j < 3 → ∃ g us, wI.cell? ⟨gw, j, none⟩ = some (.slice (some ⟨g, 0, none⟩) (L j).length ((L j).length + 3)) ∧ InP wI wA.heap.size g (L j) us := by
                intro j hj
                obtain ⟨g', us', e1, e2⟩ := HI.out j hj
                have := HO.out.cells (g := gw) rfl j _ e1
                rw [add_lit, Nat.zero_add] at this
                exact ⟨g', us', this, e2⟩
              have Hwc := Lib.hid hwantc
              have zha : ha < wI.heap.size := Nat.lt_of_lt_of_le hza HB.out.size
              have Hallr : Hid (∀ j, j < 3 → wI.cell? ⟨ha, j, none⟩ = some (.slice (AA j) (L j).length (CC j))) := fun j hj => bsome HB.out (Hall.out j hj)
              clear hwantc
              go_wp2_with (go_at_call 27; refine (spoilt_any _ w1.heap.size w2.heap.size _ Hspin.out hB1).mono ?_; rintro e w10 ⟨rfl, hs10⟩; have Hs10 := Lib.hid hs10; clear hs10)
              go_loopw [25, 26, 102] (fun _ _ i wx => ∃ k : Nat, k ≤ 3 ∧ i = .int .i64 k ∧ Hid (Alike (Wd k).heap.size wI wx) ∧ Hid (Below w1.heap.size w1 wx) ∧ Hid (wI.heap.size ≤ wx.heap.size)) (fun _ _ i _ => 3 - (intOf i).toNat)
              case atStart =>
                have e0 : (Wd 0).heap.size = w2.heap.size := by rw [← F4.out.1]
                refine ⟨0, by omega, rfl, ?_, ?_, Hs10.out.low.size⟩
                · rw [e0]
                  exact Hs10.out.alike (fun _ _ _ => rfl) (Nat.le_refl _)
                · exact (hb2.trans (HW2.out.mono s2)).trans Hs10.out.low
              case round =>
                obtain ⟨k, hk, rfl, HAl, HBx, HSz⟩ := hrel
                by_cases hlt : k < 3
                · have hWk : (Wd k).heap.size ≤ w5.heap.size := by
                    obtain ⟨e1, e2, e3, e4⟩ := F4.out
                    obtain rfl | rfl | rfl : k = 0 ∨ k = 1 ∨ k = 2 := by omega
                    · rw [← e1]; omega
                    · rw [← e2]; omega
                    · rw [← e3]; omega
                  have hblk : ∀ q, w6.heap.size ≤ q → q < wI.heap.size → wr.heap[q]? = wI.heap[q]? := fun q h1 h2 => HAl.out q (by omega) h2
                  obtain ⟨g', us', qw, hiw⟩ := Hwc.out k hlt
                  have zgw := blt qw
                  have q1 : wr.cell? ⟨ha, k, none⟩ = some (.slice (AA k) (L k).length (CC k)) := (World.cell?_of_block (a := ⟨ha, k, none⟩) (hblk ha hz6 zha)).trans (Hallr.out k hlt)
                  have hgw6 : w6.heap.size ≤ gw := by have := HBA.out.size; omega
                  have q2 : wr.cell? ⟨gw, k, none⟩ = some (.slice (some ⟨g', 0, none⟩) (L k).length ((L k).length + 3)) := (World.cell?_of_block (a := ⟨gw, k, none⟩) (hblk gw hgw6 zgw)).trans qw
                  have hchain := ((F8.out k hlt).trans (F9.out.mono (F8.out k hlt).size))
                  have hch2 := hchain.trans (HB.out.mono hchain.size)
                  have hal2 : Alike (Wd k).heap.size (Wd (k + 1)) wr := fun q h1 h2 => (HAl.out q h1 (Nat.lt_of_lt_of_le h2 hch2.size)).trans (hch2.block q h2)
                  have hR1 : PeersR wr (AA k) (L k) := ((F5.out k hlt).alike hal2).reads
                  have hR2 : PeersR wr (some ⟨g', 0, none⟩) (L k) := (hiw.alike (fun q h1 h2 => hblk q (by have := HBA.out.size; omega) h2)).reads
                  have HR1 := Lib.hid hR1
                  have HR2 := Lib.hid hR2
                  have Hsm := Lib.hid (F7.out k hlt)
                  have hkw : IntKind.i64.wrap ((k : Int) + 1) = (k : Int) + 1 := IntWalk.i64_in _ (by omega)
                  have hk3 : (k : Int) < 3 := by omega
                  have hk0 : (0 : Int) ≤ (k : Int) := by omega
                  have Hown := Lib.hid (F5.out k hlt)
                  have Hal2 := Lib.hid hal2
                  have hWs := (F6.out k hlt).size
                  have hW1 : w1.heap.size ≤ (Wd k).heap.size := by
                    obtain ⟨e1, e2, e3, e4⟩ := F4.out
                    obtain rfl | rfl | rfl : k = 0 ∨ k = 1 ∨ k = 2 := by omega
                    · rw [← e1]; omega
                    · rw [← e2]; omega
                    · rw [← e3]; omega
                  clear hblk hiw hR1 hR2 qw hal2
                  go_wp2_with (first
                    | (go_at_call 25; refine (samepeers_same _ _ _ _ (L k) _ HR1.out HR2.out ?a1 ?a2).mono ?_; (case a1 => (have := Hsm.out.1; omega)); (case a2 => exact fun j p hp => Nat.le_trans (Hsm.out.2 p (List.mem_of_getElem? hp)) (by omega)); rintro e w11 ⟨rfl, hb11⟩; have Hb11 := Lib.hid hb11; clear hb11)
                    | (go_at_call 27; refine (spoilt_any _ (Wd k).heap.size (Wd (k + 1)).heap.size _ (Hown.out.sp (Hal2.out.below Hb11.out (Nat.le_trans hch2.size HSz.out))) ?b1).mono ?_; (case b1 => (have := Hb11.out.size; have := hch2.size; have := hWs; have := HSz.out; omega)); rintro e w12 ⟨rfl, hs12⟩; have Hs12 := Lib.hid hs12; clear hs12)
                    | fail)
                  have hAl2 : Alike (Wd (k + 1)).heap.size wI w12 := Hs12.out.alike (Alike.below (fun q h1 h2 => HAl.out q (Nat.le_trans hWs h1) h2) Hb11.out HSz.out) (Nat.le_trans HSz.out Hb11.out.size)
                  have hBx2 : Below w1.heap.size w1 w12 := (HBx.out.trans (Hb11.out.mono HBx.out.size)).trans (Hs12.out.low.mono hW1)
                  have hSz2 := Nat.le_trans HSz.out (Nat.le_trans Hb11.out.size Hs12.out.low.size)
                  have HAl2 := Lib.hid hAl2
                  have HBx2 := Lib.hid hBx2
                  have HSz2 := Lib.hid hSz2
                  clear hAl2 hBx2 hSz2
                  go_roundw
                  case rel =>
                    exact ⟨k + 1, by omega, by go_num, HAl2.out, HBx2.out, HSz2.out⟩
                  case measure => simp [intOf]; omega
                · have hk3 : k = 3 := by omega
                  subst hk3
                  go_wp2_with fail
                  go_ret
                  exact ⟨rfl, hw1.trans (HBx.out.mono hw1.size)⟩

end Go.Proofs.Ytmclalhjnjghnaa
