/- The contract of peers.Hear. -/
import Derived.Test.YtmclalhjnjghnaaHearLaws
import Derived.Deep.CutRange
namespace Go.Proofs.Ytmclalhjnjghnaa
open Go.RowKit Hw
attribute [local go_sem ↓] Go.wp_at_zero Go.wp_at_succ

theorem found_iff {l : List Peer} {id : ByteArray} (h : found l id = true) : ∃ p, l[place l id]? = some p ∧ sq p.id id = true := by
  unfold found at h
  split at h
  · rename_i p hp
    exact ⟨p, hp, h⟩
  · cases h

theorem hear_bad {l : List Peer} {b : Beat} {now : Int} (h : peersCheck l ≠ 0) : hear l b now = ([], false, peersCheck l) := by
  unfold hear; rw [if_pos h]
theorem hear_beat {l : List Peer} {b : Beat} {now : Int} (h : peersCheck l = 0) (h1 : beatCheck b ≠ 0) : hear l b now = ([], false, beatCheck b) := by
  unfold hear; rw [if_neg (by simp [h]), if_pos h1]
theorem hear_now {l : List Peer} {b : Beat} {now : Int} (h : peersCheck l = 0) (h1 : beatCheck b = 0) (h2 : now < 0 ∨ 1073741824 < now) : hear l b now = ([], false, 1) := by
  unfold hear; rw [if_neg (by simp [h]), if_neg (by simp [h1]), if_pos h2]
theorem hear_none {l : List Peer} {b : Beat} {now : Int} (h : peersCheck l = 0) (h1 : beatCheck b = 0) (h2 : ¬ (now < 0 ∨ 1073741824 < now)) (h3 : found l b.id = false) : hear l b now = ([], false, 4) := by
  unfold hear; rw [if_neg (by simp [h]), if_neg (by simp [h1]), if_neg h2]
  unfold found at h3
  split at h3
  · rename_i p hp
    rw [hp]
    simp [h3]
  · rename_i hp
    rw [hp]
theorem hear_late {l : List Peer} {b : Beat} {now : Int} {p : Peer} (h : peersCheck l = 0) (h1 : beatCheck b = 0) (h2 : ¬ (now < 0 ∨ 1073741824 < now)) (hp : l[place l b.id]? = some p) (hs : sq p.id b.id = true) (h4 : now < p.last) : hear l b now = ([], false, 1) := by
  unfold hear; rw [if_neg (by simp [h]), if_neg (by simp [h1]), if_neg h2, hp]
  simp [hs, h4]
theorem hear_yes {l : List Peer} {b : Beat} {now : Int} {p : Peer} (h : peersCheck l = 0) (h1 : beatCheck b = 0) (h2 : ¬ (now < 0 ∨ 1073741824 < now)) (hp : l[place l b.id]? = some p) (hs : sq p.id b.id = true) (h4 : ¬ now < p.last) :
    hear l b now = (l.set (place l b.id) (heard p b now), (take p.gate b.inc b.seq).2.1, 0) := by
  unfold hear; rw [if_neg (by simp [h]), if_neg (by simp [h1]), if_neg h2, hp]
  simp [hs, h4]

/-- What peers.Hear hands back. -/
def HearPost (w0 : World) (r : List Peer × Bool × Int) (e : Ending) (w' : World) : Prop :=
  (∃ v, e = .returned (.tuple #[v, .bool r.2.1, .int .i64 r.2.2]) ∧ OwnP w' w0.heap.size v r.1) ∧ Below w0.heap.size w0 w'

set_option maxRecDepth 100000 in
set_option maxHeartbeats 4000000 in
theorem hear_any (A : Option Addr) (c : Nat) (l : List Peer) (b : Beat) (now : Int) (w : World) (h : PeersR w A l) :
    Calls Try.prog 24 #[.slice A l.length c, .agg #[.string b.id, .int .i64 b.inc, .int .i64 b.seq], .int .i64 now] w (HearPost w (hear l b now)) := by
  have Hh := Lib.hid h
  clear h
  cases hpb : (peersCheck l != 0) with
  | true =>
    have Hr := Lib.hid (hear_bad (b := b) (now := now) (by simpa using hpb : peersCheck l ≠ 0))
    go_enter Try.func24, Try.ntmps24
    go_wp2_with (go_at_call 47; refine (check_any A c l _ (Hh.out.below ((Below.refl _ _).alloc (Nat.le_refl _) _))).mono ?_; rintro e w1 ⟨rfl, hb1⟩; obtain ⟨c1, f1, z1, hw1⟩ := keep1 hb1; clear hb1)
    go_ret3
    rw [Hr.out]
    exact ⟨⟨_, rfl, OwnP.nil _ _⟩, hw1⟩
  | false =>
    have hp0 : peersCheck l = 0 := by simpa using hpb
    cases hbb : (beatCheck b != 0) with
    | true =>
      have Hr := Lib.hid (hear_beat (b := b) (now := now) hp0 (by simpa using hbb : beatCheck b ≠ 0))
      clear hp0
      go_enter Try.func24, Try.ntmps24
      go_wp2_with (first
        | (go_at_call 47; refine (check_any A c l _ (Hh.out.below ((Below.refl _ _).alloc (Nat.le_refl _) _))).mono ?_; rintro e w1 ⟨rfl, hb1⟩; obtain ⟨c1, f1, z1, hw1⟩ := keep1 hb1; clear hb1; have c10 := c1 0; have c11 := c1 1; have c12 := c1 2; simp at c10 c11 c12; clear c1)
        | (go_at_call 89; refine (bcheck_any b _).mono ?_; rintro e w2 ⟨rfl, hb2⟩))
      go_ret3
      rw [Hr.out]
      exact ⟨⟨_, rfl, OwnP.nil _ _⟩, hw1.trans (hb2.mono hw1.size)⟩
    | false =>
      have hb0 : beatCheck b = 0 := by simpa using hbb
      by_cases hn : now < 0 ∨ 1073741824 < now
      · have Hr := Lib.hid (hear_now (b := b) (now := now) hp0 hb0 hn)
        clear hp0 hb0
        go_enter Try.func24, Try.ntmps24
        go_wp2_with (first
          | (go_at_call 47; refine (check_any A c l _ (Hh.out.below ((Below.refl _ _).alloc (Nat.le_refl _) _))).mono ?_; rintro e w1 ⟨rfl, hb1⟩; obtain ⟨c1, f1, z1, hw1⟩ := keep1 hb1; clear hb1; have c10 := c1 0; have c11 := c1 1; have c12 := c1 2; simp at c10 c11 c12; clear c1)
          | (go_at_call 89; refine (bcheck_any b _).mono ?_; rintro e w2 ⟨rfl, hb2⟩))
        all_goals
          go_ret3
          rw [Hr.out]
          exact ⟨⟨_, rfl, OwnP.nil _ _⟩, hw1.trans (hb2.mono hw1.size)⟩
      · have hn1 : ¬ now < 0 := by omega
        have hn2 : ¬ 1073741824 < now := by omega
        have hnb : (decide (now < 0)) = false := by simpa using hn1
        have hnc : (decide (1073741824 < now)) = false := by simpa using hn2
        obtain ⟨hl, ho⟩ := (check_iff l).1 hp0
        have Hm := Lib.hid (ordered_mono ho b.id)
        have Hv := Lib.hid (fun (k : Nat) (p : Peer) (hk : l[k]? = some p) => win_len (ho.ok p (List.mem_of_getElem? hk)).win)
        have hpl : (place l b.id : Int) ≤ 6 := by have := place_le l b.id; omega
        have Hp0 := Lib.hid hp0
        have Hb0 := Lib.hid hb0
        have Hn := Lib.hid hn
        have Ho := Lib.hid ho
        clear hp0 hb0 ho hn
        cases hf : found l b.id with
        | false =>
          have Hr := Lib.hid (hear_none Hp0.out Hb0.out Hn.out hf)
          go_enter Try.func24, Try.ntmps24
          go_wp2_with (first
            | (go_at_call 47; refine (check_any A c l _ (Hh.out.below ((Below.refl _ _).alloc (Nat.le_refl _) _))).mono ?_; rintro e w1 ⟨rfl, hb1⟩; obtain ⟨c1, f1, z1, hw1⟩ := keep1 hb1; clear hb1; have c10 := c1 0; have c11 := c1 1; have c12 := c1 2; simp at c10 c11 c12; clear c1)
            | (go_at_call 89; refine (bcheck_any b _).mono ?_; rintro e w2 ⟨rfl, hb2⟩; have c20 := bsome hb2 c10; have c21 := bsome hb2 c11; have c22 := bsome hb2 c12; have hw2 := hw1.trans (hb2.mono hw1.size))
            | (go_at_call 85; refine (find_any A c l b.id _ (Hh.out.below hw2) hl Hm.out).mono ?_; rintro e w3 ⟨rfl, hb3⟩; have hw3 := hw2.trans (hb3.mono hw2.size)))
          go_ret3
          rw [Hr.out]
          exact ⟨⟨_, rfl, OwnP.nil _ _⟩, hw3⟩
        | true =>
          obtain ⟨p, hp, hs⟩ := found_iff hf
          obtain ⟨i, hi⟩ : ∃ i, i = place l b.id := ⟨_, rfl⟩
          rw [← hi] at hp hpl
          have hil := (List.getElem?_eq_some_iff.1 hp).1
          have hil' : (i : Int) < (l.length : Int) := by omega
          have hi0 : (0 : Int) ≤ (i : Int) := by omega
          have Hlate : Hid (now < p.last → hear l b now = ([], false, 1)) := fun h => hear_late Hp0.out Hb0.out Hn.out (hi ▸ hp) hs h
          have Hyes : Hid (¬ now < p.last → hear l b now = (l.set i (heard p b now), (take p.gate b.inc b.seq).2.1, 0)) := fun h => by rw [hi]; exact hear_yes Hp0.out Hb0.out Hn.out (hi ▸ hp) hs h
          have Hs := Lib.hid hs
          have Hp := Lib.hid hp
          have Hi := Lib.hid hi
          clear hs hp hi
          by_cases hla : now < p.last
          · have hlab : (decide (now < p.last)) = true := by simpa using hla
            go_enter Try.func24, Try.ntmps24
            go_wp2_with (first
              | (go_at_call 47; refine (check_any A c l _ (Hh.out.below ((Below.refl _ _).alloc (Nat.le_refl _) _))).mono ?_; rintro e w1 ⟨rfl, hb1⟩; obtain ⟨c1, f1, z1, hw1⟩ := keep1 hb1; clear hb1; have c10 := c1 0; have c11 := c1 1; have c12 := c1 2; simp at c10 c11 c12; clear c1)
              | (go_at_call 89; refine (bcheck_any b _).mono ?_; rintro e w2 ⟨rfl, hb2⟩; have c20 := bsome hb2 c10; have c21 := bsome hb2 c11; have c22 := bsome hb2 c12; have hw2 := hw1.trans (hb2.mono hw1.size))
              | (go_at_call 85; refine (find_any A c l b.id _ (Hh.out.below hw2) hl Hm.out).mono ?_; rintro e w3 ⟨rfl, hb3⟩; have hw3 := hw2.trans (hb3.mono hw2.size); rw [← Hi.out])
              | (go_at_call 87; refine (copied_any A c l _ (Hh.out.below hw3) hl Hv.out).mono ?_; rintro e w4 ⟨⟨v4, rfl, vs, ho4⟩, hb4⟩; obtain ⟨g, c4, A', c', rfl, hg1, hg2, hvi, hvl, hvo, p0, p1, p2, p3, p4, p5, p6, pf⟩ := OwnV.at ho4 Hp.out; have Ho4 := Lib.hid ho4; have Hvo := Lib.hid hvo; have hw4 := hw3.trans (hb4.mono hw3.size); clear ho4 hvo))
            go_ret3
            rw [Hlate.out hla]
            exact ⟨⟨_, rfl, OwnP.nil _ _⟩, hw4⟩
          · have hlab : (decide (now < p.last)) = false := by simpa using hla
            obtain ⟨g', tk, er, hT⟩ : ∃ g' tk er, take p.gate b.inc b.seq = (g', tk, er) := ⟨_, _, _, rfl⟩
            have HT := Lib.hid hT
            clear hT
            go_enter Try.func24, Try.ntmps24
            go_upto_region 17 with (first
              | (go_at_call 47; refine (check_any A c l _ (Hh.out.below ((Below.refl _ _).alloc (Nat.le_refl _) _))).mono ?_; rintro e w1 ⟨rfl, hb1⟩; obtain ⟨c1, f1, z1, hw1⟩ := keep1 hb1; clear hb1; have c10 := c1 0; have c11 := c1 1; have c12 := c1 2; simp at c10 c11 c12; clear c1)
              | (go_at_call 89; refine (bcheck_any b _).mono ?_; rintro e w2 ⟨rfl, hb2⟩; have c20 := bsome hb2 c10; have c21 := bsome hb2 c11; have c22 := bsome hb2 c12; have hw2 := hw1.trans (hb2.mono hw1.size); have z2 := hb2.size; clear c10 c11 c12)
              | (go_at_call 85; refine (find_any A c l b.id _ (Hh.out.below hw2) hl Hm.out).mono ?_; rintro e w3 ⟨rfl, hb3⟩; have c30 := bsome hb3 c20; have c31 := bsome hb3 c21; have c32 := bsome hb3 c22; have hw3 := hw2.trans (hb3.mono hw2.size); rw [← Hi.out]; have z3 := hb3.size; clear c20 c21 c22)
              | (go_at_call 87; refine (copied_any A c l _ (Hh.out.below hw3) hl Hv.out).mono ?_; rintro e w4 ⟨⟨v4, rfl, vs, ho4⟩, hb4⟩; obtain ⟨g, c4, A', c', rfl, hg1, hg2, hvi, hvl, hvo, p0, p1, p2, p3, p4, p5, p6, pf⟩ := OwnV.at ho4 Hp.out; have Ho4 := Lib.hid ho4; have Hvo := Lib.hid hvo; have c40 := bsome hb4 c30; have c41 := bsome hb4 c31; have c42 := bsome hb4 c32; have hw4 := hw3.trans (hb4.mono hw3.size); clear ho4 hvo c30 c31 c32; have z4 : w.heap.size < g := by omega))
            have z6 : w.heap.size ≤ g := by omega
            go_cut [15] from 52 to 67 (fun t15 wx => t15 = .bool tk ∧ Hid (OwnV wx w3.heap.size (.slice (some ⟨g, 0, none⟩) l.length c4) (l.set i { p with gate := g' }) (vs.set i (.slice A' p.vals.length c'))) ∧ Hid (Below w.heap.size w wx))
            case first =>
              go_region_with
                (first
                  | (go_at_call 90; refine (take_any p.gate b.inc b.seq _).mono ?_; rintro e w6 ⟨rfl, hb6⟩; rw [HT.out]; simp only [takeV]; have q1 := bsome hb6 p1; have q2 := bsome hb6 p2; have q3 := bsome hb6 p3; have qf := fun j => (hb6.frozen (p := ⟨g, j, none⟩) hg2).trans (pf j); have d1 := bsome hb6 c41; have d2 := bsome hb6 c42; have Hb6 := Lib.hid (((Below.refl w4.heap.size w4).drew).trans hb6); clear hb6)
                  | fail)
              all_goals
                go_wp2_with fail
                go_meet
                exact ⟨rfl, hear_gate Ho4.out rfl g' Hp.out hvi Hb6.out, (((hw4.trans (Hb6.out.mono hw4.size)).setCell z6 _).setCell z6 _).setCell z6 _⟩
            case rest =>
              obtain ⟨rfl, HO, HB⟩ := hcut
              have hpi : (l.set i { p with gate := g' })[i]? = some { p with gate := g' } := by rw [List.getElem?_set_self hil]
              obtain ⟨g2, c5, A2, c2, e2, k1, k2, kvi, kvl, kvo, y0, y1, y2, y3, y4, y5, y6, yf⟩ := OwnV.at HO.out hpi
              injection e2 with e2 e3 e4
              injection e2 with e2
              injection e2 with e2
              subst e2
              subst e4
              have Kvi := Lib.hid kvi
              have Kvo := Lib.hid kvo
              have Hpi := Lib.hid hpi
              clear kvi kvo hpi e3 y0 y1 y2 y3
              have zc := HB.out.size
              cases tk with
              | false =>
                go_wp2_with fail
                go_ret3
                have e : heard p b now = { p with gate := g' } := by unfold heard; rw [HT.out]; rfl
                rw [Hyes.out hla, HT.out, e]
                exact ⟨⟨.slice (some ⟨g, 0, none⟩) l.length c4, rfl, HO.out.own.base hw3.size⟩, HB.out⟩
              | true =>
                obtain ⟨m, hm⟩ : ∃ m, m = min (now - p.last) 16777216 := ⟨_, rfl⟩
                have hm2 : (if 16777216 < now - p.last then 16777216 else now - p.last) = m := by rw [hm]; omega
                have Hmm := Lib.hid hm
                have hpk := Ho.out.ok p (List.mem_of_getElem? Hp.out)
                have hpw := hpk.win
                have hplo := hpk.lo
                have hv1 : valOk m = true := by simp [valOk]; omega
                have Hpush : Hid (push p.cap p.vals m = ((p.cap, pushed p.cap p.vals m), 0)) := Lib.hid (by
                  unfold push
                  rw [if_neg (by simp [hpw]), if_neg (by simp [hv1])])
                have hwr : IntKind.i64.wrap (now - p.last) = now - p.last := IntWalk.i64_in _ (by omega)
                have Kr := Lib.hid (own_ints Kvo.out)
                clear hpk hpw hv1 hm
                go_wp2_with fail
                go_region_with
                  (first
                    | (go_at_call 67; refine (push_any p.cap A2 c2 p.vals m _ (Kr.out.below ((Below.refl _ _).drew)) kvl).mono ?_; rintro e w7 ⟨⟨v7, rfl, ho7⟩, hb7⟩; rw [Hpush.out] at ho7; rw [Hpush.out]; dsimp only at ho7; obtain ⟨A7, c7, rfl, -, -⟩ := own_form ho7; have q4 := bsome hb7 y4; have q5 := bsome hb7 y5; have q6 := bsome hb7 y6; have qf := fun j => (hb7.frozen (p := ⟨g, j, none⟩) k2).trans (yf j); have Hb7 := Lib.hid (((Below.refl wc.heap.size wc).drew).trans hb7); have Ho7 := Lib.hid ho7; clear hb7 ho7)
                    | fail)
                all_goals go_wp2_with fail
                all_goals
                  have e : heard p b now = { p with gate := g', vals := pushed p.cap p.vals m, last := now } := by unfold heard; rw [HT.out, ← Hmm.out]; rfl
                  have hk3 : w3.heap.size ≤ wc.drew.heap.size := by simp; omega
                  have hfin := hear_win HO.out (by simp) p.cap (pushed p.cap p.vals m) now Hpi.out Kvi.out Hb7.out rfl (own_base Ho7.out hk3)
                  rw [List.set_set] at hfin
                  go_ret3
                  rw [Hyes.out hla, HT.out, e]
                  exact ⟨⟨.slice (some ⟨g, 0, none⟩) l.length c4, rfl, hfin.own.base hw3.size⟩, (((HB.out.trans (Hb7.out.mono zc)).setCell z6 _).setCell z6 _).setCell z6 _⟩

end Go.Proofs.Ytmclalhjnjghnaa
