/- Plain laws of what is told: of each sub, by turns; and the last that was told is so now. -/
import Derived.Test.YtmclalhjnjghnaaBaseM
namespace Go.Proofs.Ytmclalhjnjghnaa
open Go.RowKit Hw

/-- What was told last to that sub. -/
def saidIn (l : List Sub) (id : ByteArray) (th : Int) : Bool := match l.find? (subIs id th) with
  | some s => s.on
  | none => false

def noteIs (id : ByteArray) (th : Int) (x : Note) : Bool := sq x.id id && x.theta == th

/-- .. behind some notes. -/
def saidN (l : List Sub) (N : List Note) (id : ByteArray) (th : Int) : Bool := match N.find? (noteIs id th) with
  | some x => x.suspect
  | none => saidIn l id th

abbrev Apart (l : List Sub) : Prop := l.Pairwise fun a b => ¬ (a.id = b.id ∧ a.theta = b.theta)

theorem noteIs_iff {id : ByteArray} {th : Int} {x : Note} : noteIs id th x = true ↔ x.id = id ∧ x.theta = th := by
  unfold noteIs
  rw [Bool.and_eq_true, sq_iff, beq_iff_eq]

theorem find_apart : ∀ {l : List Sub} {s : Sub}, Apart l → s ∈ l → l.find? (subIs s.id s.theta) = some s
  | [], _, _, h => by cases h
  | a :: t, s, hd, hs => by
    obtain ⟨h1, h2⟩ := List.pairwise_cons.1 hd
    rw [List.find?_cons]
    rcases List.mem_cons.1 hs with rfl | hs
    · rw [subIs_iff.2 ⟨rfl, rfl⟩]
    · cases hq : subIs s.id s.theta a with
      | true => exact absurd (subIs_iff.1 hq) (h1 s hs)
      | false => exact find_apart h2 hs

theorem saidIn_self {l : List Sub} {s : Sub} (hd : Apart l) (hs : s ∈ l) : saidIn l s.id s.theta = s.on := by
  unfold saidIn
  rw [find_apart hd hs]

theorem saidIn_none {l : List Sub} {id : ByteArray} {th : Int} (h : ∀ s ∈ l, subIs id th s = false) : saidIn l id th = false := by
  unfold saidIn
  rw [List.find?_eq_none.2 fun s hs e => by rw [h s hs] at e; cases e]

/-- What a turn tells. -/
structure Turn (l l' : List Sub) (N : List Note) : Prop where
  fresh : ∀ q (h : q < N.length), ∀ x ∈ N.take q, noteIs (N[q]).id (N[q]).theta x = false
  turns : ∀ x ∈ N, saidIn l x.id x.theta ≠ x.suspect
  now : ∀ s ∈ l', s.on = saidN l N s.id s.theta
  who : ∀ x ∈ N, ∃ s ∈ l', s.id = x.id ∧ s.theta = x.theta
  few : N.length ≤ l'.length

theorem turn_none {l l' : List Sub} (h : ∀ s ∈ l', s.on = saidIn l s.id s.theta) : Turn l l' [] :=
  ⟨fun q hq => (by simp at hq), fun _ hx => (by cases hx), fun s hs => h s hs, fun _ hx => (by cases hx), by simp⟩

theorem notes_apart {n : Hw.Node} : ∀ {l : List Sub}, Apart l → (l.filterMap (fun s => if onNow n s == s.on then none else some (⟨s.id, s.theta, onNow n s⟩ : Note))).Pairwise fun a b => ¬ (a.id = b.id ∧ a.theta = b.theta)
  | [], _ => by simp
  | s :: t, h => by
    obtain ⟨h1, h2⟩ := List.pairwise_cons.1 h
    rw [List.filterMap_cons]
    split
    · exact notes_apart h2
    · rename_i x hx
      refine List.pairwise_cons.2 ⟨fun y hy => ?_, notes_apart h2⟩
      obtain ⟨s', hs', he⟩ := List.mem_filterMap.1 hy
      split at hx
      · cases hx
      · injection hx with hx
        split at he
        · cases he
        · injection he with he
          rw [← hx, ← he]
          exact h1 s' hs'

theorem fresh_of {N : List Note} (h : N.Pairwise fun a b => ¬ (a.id = b.id ∧ a.theta = b.theta)) : ∀ q (hq : q < N.length), ∀ x ∈ N.take q, noteIs (N[q]).id (N[q]).theta x = false := by
  intro q hq x hx
  obtain ⟨j, hj, rfl⟩ := List.mem_iff_getElem.1 hx
  rw [List.getElem_take]
  have hjq : j < q := by simp at hj; omega
  have := List.pairwise_iff_getElem.1 h j q (by omega) hq hjq
  cases hc : noteIs (N[q]).id (N[q]).theta (N[j]'(by omega)) with
  | false => rfl
  | true => exact absurd (noteIs_iff.1 hc) this

theorem turn_told {l : List Sub} {n : Hw.Node} (hd : Apart n.subs) (h : ∀ s ∈ n.subs, s.on = saidIn l s.id s.theta) : Turn l (told n).1.subs (told n).2 := by
  have hap : (told n).2.Pairwise fun a b => ¬ (a.id = b.id ∧ a.theta = b.theta) := notes_apart hd
  refine ⟨fresh_of hap, fun x hx => ?_, fun s' hs' => ?_, fun x hx => ?_, ?_⟩
  · obtain ⟨s, hs, hne, rfl⟩ := told_notes hx
    show saidIn l s.id s.theta ≠ onNow n s
    rw [← h s hs]
    exact Ne.symm hne
  · obtain ⟨s, hs, rfl⟩ := List.mem_map.1 (show s' ∈ n.subs.map _ from hs')
    show onNow n s = saidN l (told n).2 s.id s.theta
    unfold saidN
    cases hf : (told n).2.find? (noteIs s.id s.theta) with
    | some x =>
      obtain ⟨s2, hs2, -, rfl⟩ := told_notes (List.mem_of_find?_eq_some hf)
      have h2 := noteIs_iff.1 (List.find?_some hf)
      have h3 : s2 = s := by
        have a := find_apart hd hs2
        have b := find_apart hd hs
        rw [show s2.id = s.id from h2.1, show s2.theta = s.theta from h2.2, b] at a
        injection a with a
        exact a.symm
      rw [h3]
    | none =>
      show onNow n s = saidIn l s.id s.theta
      rw [← h s hs]
      cases hq : (onNow n s == s.on) with
      | true => simpa using hq
      | false =>
        exfalso
        have hm : (⟨s.id, s.theta, onNow n s⟩ : Note) ∈ (told n).2 := List.mem_filterMap.2 ⟨s, hs, by rw [hq]; rfl⟩
        exact List.find?_eq_none.1 hf _ hm (noteIs_iff.2 ⟨rfl, rfl⟩)
  · obtain ⟨s, hs, -, rfl⟩ := told_notes hx
    exact ⟨{ s with on := onNow n s }, List.mem_map.2 ⟨s, hs, rfl⟩, rfl, rfl⟩
  · have e : (told n).1.subs.length = n.subs.length := by show (toldSubs n).length = _; unfold toldSubs; rw [List.length_map]
    rw [e]
    exact List.length_filterMap_le _ _

theorem turn_same {I : List ByteArray} {n : Hw.Node} (h : Good I n) {l' : List Sub} (hs : ∀ s ∈ l', s ∈ n.subs) : Turn n.subs l' [] :=
  turn_none fun s hm => (saidIn_self h.subs.dup (hs s hm)).symm

theorem turn_asked {I : List ByteArray} {n : Hw.Node} (h : Good I n) (c : List Int) : Turn n.subs (asked n c).1.subs (asked n c).2 := by
  have hself : ∀ s ∈ n.subs, s.on = saidIn n.subs s.id s.theta := fun s hs => (saidIn_self h.subs.dup hs).symm
  have htick : ∀ t, Turn n.subs (tick n t).1.subs (tick n t).2.2.1 := fun t => by
    unfold tick
    split
    · exact turn_same h fun _ hs => hs
    · split
      · exact turn_same h fun _ hs => hs
      · exact turn_told (n := ticked n t) h.subs.dup hself
  have hhear : ∀ s, Turn n.subs (nhear n s).1.subs (nhear n s).2.1 := fun s => by
    unfold nhear
    split
    · exact turn_same h fun _ hs => hs
    · split
      · exact turn_same h fun _ hs => hs
      · split
        · exact turn_same h fun _ hs => hs
        · exact turn_told (n := { n with peers := (hear n.peers (decode s).1 n.now).1 }) h.subs.dup hself
  have hjoin : ∀ id th, Turn n.subs (njoin n id th).1.subs (njoin n id th).2.1 := fun id th => by
    unfold njoin
    split
    · exact turn_same h fun _ hs => hs
    · split
      · exact turn_same h fun _ hs => hs
      · split
        · exact turn_same h fun _ hs => hs
        · rename_i hat
          split
          · exact turn_same h fun _ hs => hs
          · have hno := at_neg (show at? (subIs id th) n.subs < 0 by omega)
            refine turn_told (n := { n with subs := n.subs ++ [(⟨id, th, false⟩ : Sub)] }) ?_ fun s hs => ?_
            · refine List.pairwise_append.2 ⟨h.subs.dup, by simp, fun a ha c hc => ?_⟩
              simp at hc
              rw [hc]
              rintro ⟨e1, e2⟩
              have := hno a ha
              rw [subIs_iff.2 ⟨e1, e2⟩] at this
              cases this
            · rcases List.mem_append.1 hs with hs | hs
              · exact hself s hs
              · simp at hs
                rw [hs]
                exact (saidIn_none hno).symm
  have hpart : ∀ id th, Turn n.subs (npart n id th).1.subs [] := fun id th => by
    unfold npart
    split
    · exact turn_same h fun _ hs => hs
    · exact turn_same h fun s hs => (List.eraseIdx_sublist _ _).subset hs
  unfold asked
  split
  · exact htick _
  · split
    · exact hhear _
    · split
      · exact hjoin _ _
      · split
        · exact hpart _ _
        · exact hhear _

/-- Behind one note more. -/
theorem saidN_take {l l' : List Sub} {N : List Note} (h : Turn l l' N) {q : Nat} (hq : q < N.length) :
    saidN l (N.take q) (N[q]).id (N[q]).theta ≠ (N[q]).suspect ∧ saidN l (N.take (q + 1)) (N[q]).id (N[q]).theta = (N[q]).suspect ∧ ∀ id th, ¬ (id = (N[q]).id ∧ th = (N[q]).theta) → saidN l (N.take (q + 1)) id th = saidN l (N.take q) id th := by
  have hf := h.fresh q hq
  have hnone : (N.take q).find? (noteIs (N[q]).id (N[q]).theta) = none := List.find?_eq_none.2 fun x hx e => by rw [hf x hx] at e; cases e
  refine ⟨?_, ?_, fun id th hne => ?_⟩
  · unfold saidN
    rw [hnone]
    exact h.turns _ (List.getElem_mem hq)
  · unfold saidN
    rw [List.take_succ_eq_append_getElem hq, List.find?_append, hnone, Option.none_or, List.find?_cons, noteIs_iff.2 ⟨rfl, rfl⟩]
  · unfold saidN
    rw [List.take_succ_eq_append_getElem hq, List.find?_append]
    cases hx : (N.take q).find? (noteIs id th) with
    | some x => rfl
    | none =>
      rw [Option.none_or, List.find?_cons]
      cases hq2 : noteIs id th N[q] with
      | false => rfl
      | true =>
        have := noteIs_iff.1 hq2
        exact absurd ⟨this.1.symm, this.2.symm⟩ hne

theorem saidIn_take {l : List Sub} (hd : Apart l) {q : Nat} (hq : q < l.length) :
    saidIn (l.take (q + 1)) (l[q]).id (l[q]).theta = (l[q]).on ∧ ∀ id th, ¬ (id = (l[q]).id ∧ th = (l[q]).theta) → saidIn (l.take (q + 1)) id th = saidIn (l.take q) id th := by
  refine ⟨?_, fun id th hne => ?_⟩
  · have hm : l[q] ∈ l.take (q + 1) := by
      rw [List.take_succ_eq_append_getElem hq]
      exact List.mem_append.2 (.inr (List.mem_singleton.2 rfl))
    exact saidIn_self (hd.sublist (List.take_sublist _ _)) hm
  · unfold saidIn
    rw [List.take_succ_eq_append_getElem hq, List.find?_append]
    cases hx : (l.take q).find? (subIs id th) with
    | some x => rfl
    | none =>
      rw [Option.none_or, List.find?_cons]
      cases hq2 : subIs id th l[q] with
      | false => rfl
      | true =>
        have := subIs_iff.1 hq2
        exact absurd ⟨this.1.symm, this.2.symm⟩ hne

end Go.Proofs.Ytmclalhjnjghnaa
