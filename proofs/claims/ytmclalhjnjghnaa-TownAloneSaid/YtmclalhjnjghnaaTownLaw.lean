/- Plain laws of a town of two. -/
import Derived.Test.YtmclalhjnjghnaaTownNew
import Derived.Test.YtmclalhjnjghnaaGateLaw
import Derived.Test.YtmclalhjnjghnaaHighLaw
namespace Go.Proofs.Ytmclalhjnjghnaa
open Go.RowKit Hw

theorem told_nil {n : Hw.Node} (h : n.subs = []) : told n = (n, []) := by
  obtain ⟨c, now, seq, drops, peers, subs⟩ := n
  simp only at h
  subst h
  rfl

/-- A node that watches I, and whom nobody joined. -/
structure NG (c : Config) (I : List ByteArray) (N M : Int) (n : Hw.Node) : Prop where
  good : Good I n
  inc0 : Inc0 n
  c : n.c = c
  subs : n.subs = []
  now : n.now ≤ N
  vals : ∀ p ∈ n.peers, ∀ x ∈ p.vals, x ≤ M

/-- A text that was sent. -/
def Sent (id : ByteArray) (q : Int) (s : ByteArray) : Prop := ∃ d, s = (encode d).1 ∧ beatCheck d = 0 ∧ d.inc = 0 ∧ d.id = id ∧ d.seq ≤ q

theorem Sent.mono {id : ByteArray} {q q' : Int} {s : ByteArray} (h : Sent id q s) (hq : q ≤ q') : Sent id q' s := by
  obtain ⟨d, h1, h2, h3, h4, h5⟩ := h
  exact ⟨d, h1, h2, h3, h4, by omega⟩

theorem NG.mono {c : Config} {I : List ByteArray} {N M N' : Int} {n : Hw.Node} (h : NG c I N M n) (hN : N ≤ N') : NG c I N' M n := ⟨h.good, h.inc0, h.c, h.subs, by have := h.now; omega, h.vals⟩

theorem texts_sent {c : Config} {I : List ByteArray} {N M : Int} {n : Hw.Node} (h : NG c I N M n) {t : Int} (t1 : 0 ≤ t) (t2 : n.now + t ≤ 1073741824) (hid : idOk c.id = true) (hi : c.inc = 0) : ∀ s ∈ texts n (beats n t), Sent c.id (n.seq + beats n t) s := by
  intro s hs
  obtain ⟨i, hi2, rfl⟩ := List.mem_map.1 hs
  rw [List.mem_range] at hi2
  have h1 := (h.good.inv.ticked t1 t2).ok
  have h2 := h.good.inv.ok
  obtain ⟨-, -, -, -, -, q⟩ := h1
  have q : n.seq + beats n t ≤ 1073741824 := q
  obtain ⟨-, -, -, -, q0, -⟩ := h2
  refine ⟨_, rfl, ?_, by rw [h.c]; exact hi, by rw [h.c], by show n.seq + 1 + (i : Int) ≤ _; omega⟩
  rw [h.c, hi]
  unfold beatCheck
  rw [if_neg (by rw [hid]; simp), if_neg (by show ¬ ((0 : Int) < 0 ∨ 2147483648 ≤ (0 : Int) ∨ n.seq + 1 + (i : Int) < 1 ∨ 2147483648 ≤ n.seq + 1 + (i : Int)); omega)]

theorem NG.ticks {c : Config} {I : List ByteArray} {N M : Int} {n : Hw.Node} (h : NG c I N M n) {t : Int} (t1 : 1 ≤ t) (t2 : t ≤ 1000) (hN : N + t ≤ 1073741824) (hf : t / c.every < 64) :
    NodeTk n t ∧ tick n t = (ticked n t, texts n (beats n t), [], 0) ∧ NG c I (N + t) M (ticked n t) ∧ (ticked n t).seq = n.seq + beats n t := by
  have hnow := h.now
  have hk : NodeTk n t := ⟨h.good.inv.ok, tick_lv h.good (by omega) (by omega), by rw [h.subs]; simp, by omega, by rw [h.c]; exact hf⟩
  have hs : (ticked n t).subs = [] := h.subs
  have hI := h.good.inv.ticked (t := t) (by omega) (by omega)
  refine ⟨hk, by rw [tick_ok hk t1 t2, told_nil hs], ⟨⟨hI, h.good.subs.same rfl, fun s hs2 => ?_⟩, h.inc0, h.c, hs, by show n.now + t ≤ N + t; omega, h.vals⟩, rfl⟩
  rw [hs] at hs2
  simp at hs2

theorem vals_pushed {cap v M : Int} {l : List Int} (h : ∀ x ∈ l, x ≤ M) (hv : v ≤ M) : ∀ x ∈ pushed cap l v, x ≤ M := by
  intro x hx
  unfold pushed at hx
  rcases List.mem_append.1 hx with hx | hx
  · split at hx
    · exact h x (List.mem_of_mem_tail hx)
    · exact h x hx
  · simp at hx
    omega

/-- Hearing of a text that the other sent, or this one. -/
structure Hears (c : Config) (o : ByteArray) (N M : Int) (n : Hw.Node) (q : Int) (s : ByteArray) : Prop where
  good : NG c [o] N M (nhear n s).1
  now : (nhear n s).1.now = n.now
  seq : (nhear n s).1.seq = n.seq
  notes : (nhear n s).2.1 = []
  gate : ((nhear n s).2.2 = 0 ∧ gateSeq n o < gateSeq (nhear n s).1 o ∧ gateSeq (nhear n s).1 o ≤ q) ∨ ((nhear n s).2.2 ≠ 0 ∧ gateSeq (nhear n s).1 o = gateSeq n o)

theorem find_one {o : ByteArray} {n : Hw.Node} (h : Inv [o] n) : ∃ p, n.peers = [p] ∧ p.id = o := by
  have := h.ids
  rcases hp : n.peers with _ | ⟨p, _ | ⟨p2, t⟩⟩
  · rw [hp] at this
    simp at this
  · rw [hp] at this
    simp at this
    exact ⟨p, rfl, this⟩
  · rw [hp] at this
    simp at this

theorem find_mem {o : ByteArray} {n : Hw.Node} (h : Inv [o] n) {p : Peer} (hf : n.peers.find? (fun p => sq p.id o) = some p) : n.peers = [p] := by
  obtain ⟨p', e, hid⟩ := find_one h
  rw [e, List.find?_cons, sq_iff.2 hid] at hf
  injection hf with hf
  rw [e, hf]

theorem hears_foreign {c : Config} {o : ByteArray} {N M : Int} {n : Hw.Node} (h : NG c [o] N M n) {q : Int} {s : ByteArray} (hs : Sent c.id q s) (hne : c.id ≠ o) (q' : Int) : Hears c o N M n q' s ∧ (nhear n s).2.2 = 4 ∧ level (nhear n s).1 o = level n o := by
  obtain ⟨d, rfl, hb, hi, hid, hq⟩ := hs
  have e := nhear_foreign h.good.inv hb (by rw [hid]; simpa using hne)
  have hG := (good_hear h.good (encode d).1).1
  rw [e] at hG
  refine ⟨⟨?_, by rw [e]; rfl, by rw [e]; rfl, by rw [e], .inr ⟨by rw [e]; simp, by rw [e]; rfl⟩⟩, by rw [e], by rw [e]; rfl⟩
  rw [e]
  exact ⟨hG, h.inc0, h.c, h.subs, h.now, h.vals⟩

theorem hears_new {c : Config} {o : ByteArray} {N M : Int} {n : Hw.Node} (h : NG c [o] N M n) (hNM : N ≤ M) {d : Beat} (hb : beatCheck d = 0) (hi : d.inc = 0) (hid : d.id = o) {q : Int} (hq : d.seq ≤ q) (hs : gateSeq n o < d.seq) :
    Hears c o N M n q (encode d).1 ∧ (nhear n (encode d).1).2.2 = 0 ∧ gateSeq (nhear n (encode d).1).1 o = d.seq ∧ ∃ p, n.peers = [p] ∧ (nhear n (encode d).1).1.peers = [{ p with gate := ⟨0, d.seq, p.gate.drops⟩, vals := pushed p.cap p.vals (min (n.now - p.last) 16777216), last := n.now }] := by
  subst hid
  obtain ⟨p, hm, hpi, hf, e1, e2, e3, e4, e5, e6⟩ := nhear_new h.good.inv h.inc0 hb hi (by simp) hs
  have hG := (good_hear h.good (encode d).1).1
  have hnow := h.now
  have hla := (h.good.inv.peer hm).lo
  have hP := find_mem h.good.inv hf
  have hP' := find_mem hG.inv e4
  have hsub : (heardNode n d).subs = [] := h.subs
  refine ⟨⟨⟨hG, e6.inc, e6.c.trans h.c, ?_, by rw [e6.now]; exact hnow, fun p' hp' => ?_⟩, e6.now, e6.seq, ?_, .inl ⟨e1, by rw [e5]; exact hs, by rw [e5]; exact hq⟩⟩, e1, e5, p, hP, hP'⟩
  · rw [e2, told_nil hsub]
    exact hsub
  · rw [hP', List.mem_singleton] at hp'
    subst hp'
    exact vals_pushed (h.vals p hm) (by omega)
  · rw [e3, told_nil hsub]

theorem hears_old {c : Config} {o : ByteArray} {N M : Int} {n : Hw.Node} (h : NG c [o] N M n) {d : Beat} (hb : beatCheck d = 0) (hi : d.inc = 0) (hid : d.id = o) (q : Int) (hs : d.seq ≤ gateSeq n o) :
    Hears c o N M n q (encode d).1 ∧ (nhear n (encode d).1).2.2 = 5 ∧ level (nhear n (encode d).1).1 o = level n o := by
  subst hid
  obtain ⟨p, g, hm, hpi, hf, e1, e2, e3, e4, e5, e6⟩ := nhear_old h.good.inv h.inc0 hb hi (by simp) hs
  have hG := (good_hear h.good (encode d).1).1
  have hP' := find_mem hG.inv e4
  refine ⟨⟨⟨hG, e6.inc, e6.c.trans h.c, by rw [e3]; exact h.subs, by rw [e6.now]; exact h.now, fun p' hp' => ?_⟩, e6.now, e6.seq, e2, .inr ⟨by rw [e1]; decide, e5⟩⟩, e1, level_find e6.c e6.now hf e4 rfl rfl rfl⟩
  rw [hP', List.mem_singleton] at hp'
  subst hp'
  exact h.vals p hm

theorem hears_any {c : Config} {o : ByteArray} {N M : Int} {n : Hw.Node} (h : NG c [o] N M n) (hNM : N ≤ M) {q q0 : Int} {s : ByteArray} (hs : Sent c.id q0 s ∨ Sent o q s) (hne : c.id ≠ o) : Hears c o N M n q s := by
  rcases hs with hs | ⟨d, rfl, hb, hi, hid, hq⟩
  · exact (hears_foreign h hs hne q).1
  · by_cases hg : gateSeq n o < d.seq
    · exact (hears_new h hNM hb hi hid hq hg).1
    · exact (hears_old h hb hi hid q (by omega)).1

/-- The same text again. -/
theorem hears_twice {c : Config} {o : ByteArray} {N M : Int} {n : Hw.Node} (h : NG c [o] N M n) (hNM : N ≤ M) {q q0 : Int} {s : ByteArray} (hs : Sent c.id q0 s ∨ Sent o q s) (hne : c.id ≠ o) :
    (nhear (nhear n s).1 s).2.2 ≠ 0 ∧ ((nhear n s).2.2 = 0 → (nhear (nhear n s).1 s).2.2 = 5) ∧ level (nhear (nhear n s).1 s).1 o = level (nhear n s).1 o := by
  rcases hs with hs | ⟨d, rfl, hb, hi, hid, hq⟩
  · obtain ⟨h1, h2, -⟩ := hears_foreign h hs hne q
    obtain ⟨-, g2, g3⟩ := hears_foreign h1.good hs hne q
    exact ⟨by rw [g2]; decide, fun e => absurd (h2.symm.trans e) (by decide), g3⟩
  · have key : ∀ n', NG c [o] N M n' → d.seq ≤ gateSeq n' o → (nhear n' (encode d).1).2.2 = 5 ∧ level (nhear n' (encode d).1).1 o = level n' o := fun n' hn' hg => (hears_old hn' hb hi hid q hg).2
    by_cases hg : gateSeq n o < d.seq
    · obtain ⟨h1, -, h3, -⟩ := hears_new h hNM hb hi hid hq hg
      obtain ⟨k1, k2⟩ := key _ h1.good (by rw [h3]; exact Int.le_refl _)
      exact ⟨by rw [k1]; decide, fun _ => k1, k2⟩
    · obtain ⟨h1, h2, -⟩ := hears_old h hb hi hid q (by omega)
      have h4 : gateSeq (nhear n (encode d).1).1 o = gateSeq n o := by
        rcases h1.gate with ⟨e, -⟩ | ⟨-, e⟩
        · rw [h2] at e
          cases e
        · exact e
      obtain ⟨k1, k2⟩ := key _ h1.good (by rw [h4]; omega)
      exact ⟨by rw [k1]; decide, fun _ => k1, k2⟩

/-- A town of two, of whom the second one may be stopped. -/
def tw (c0 c1 : Config) (a b : Hw.Node) (d : Bool) (W : List ByteArray) : Hw.Town := ⟨[c0, c1], [a, b], [false, d], W⟩

structure TC (c0 c1 : Config) : Prop where
  k0 : configCheck c0 = 0
  k1 : configCheck c1 = 0
  i0 : idOk c0.id = true
  i1 : idOk c1.id = true
  z0 : c0.inc = 0
  z1 : c1.inc = 0
  ne : c0.id ≠ c1.id

structure TG (c0 c1 : Config) (N M : Int) (a b : Hw.Node) (W : List ByteArray) : Prop where
  na : NG c0 [c1.id] N M a
  nb : NG c1 [c0.id] N M b
  way : ∀ s ∈ W, Sent c0.id a.seq s ∨ Sent c1.id b.seq s
  ga : gateSeq a c1.id ≤ b.seq
  gb : gateSeq b c0.id ≤ a.seq

theorem TG.tk {c0 c1 : Config} {N M : Int} {a b : Hw.Node} {W : List ByteArray} (h : TG c0 c1 N M a b W) (d : Bool) (hW : W.length ≤ 1000) {t : Int} (t1 : 1 ≤ t) (t2 : t ≤ 1000) (hN : N + t ≤ 1073741824) (hf0 : t / c0.every < 64) (hf1 : t / c1.every < 64) : TownTk (tw c0 c1 a b d W) t := by
  refine ⟨t1, t2, by show 2 ≤ 5; omega, hW, fun k c n hc hn => ?_, fun k n hn hd => ?_⟩
  · rcases k with _ | _ | k
    · injection hc with hc
      injection hn with hn
      rw [← hc, ← hn, h.na.c]
    · injection hc with hc
      injection hn with hn
      rw [← hc, ← hn, h.nb.c]
    · cases hn
  · rcases k with _ | _ | k
    · injection hn with hn
      rw [← hn]
      exact (h.na.ticks t1 t2 hN hf0).1
    · injection hn with hn
      rw [← hn]
      exact (h.nb.ticks t1 t2 hN hf1).1
    · cases hn

/-- The town of two behind a tick. -/
def twT (c0 c1 : Config) (a b : Hw.Node) (d : Bool) (W : List ByteArray) (t : Int) : Hw.Town :=
  tw c0 c1 (ticked a t) (if d then b else ticked b t) d (W ++ texts a (beats a t) ++ if d then [] else texts b (beats b t))

theorem TG.ticks {c0 c1 : Config} (hc : TC c0 c1) {N M : Int} {a b : Hw.Node} {W : List ByteArray} (h : TG c0 c1 N M a b W) (d : Bool) {t : Int} (t1 : 1 ≤ t) (t2 : t ≤ 1000) (hN : N + t ≤ 1073741824) (hf0 : t / c0.every < 64) (hf1 : t / c1.every < 64) :
    ttick (tw c0 c1 a b d W) t = (twT c0 c1 a b d W t, []) ∧ TG c0 c1 (N + t) M (ticked a t) (if d then b else ticked b t) (W ++ texts a (beats a t) ++ if d then [] else texts b (beats b t)) := by
  obtain ⟨ka, ea, na, sa⟩ := h.na.ticks t1 t2 hN hf0
  obtain ⟨kb, eb, nb, sb⟩ := h.nb.ticks t1 t2 hN hf1
  have hna := h.na.now
  have hnb := h.nb.now
  have ha := texts_sent h.na (t := t) (by omega) (by omega) hc.i0 hc.z0
  have hb := texts_sent h.nb (t := t) (by omega) (by omega) hc.i1 hc.z1
  have hga := h.ga
  have hgb := h.gb
  cases d with
  | true =>
    refine ⟨by show ({ (tw c0 c1 a b true W) with nodes := [(tick a t).1, b], way := W ++ (tick a t).2.1 }, [] ++ (tick a t).2.2.1) = _; rw [ea]; simp [twT, tw], ⟨na, h.nb.mono (by omega), fun s hs => ?_, hga, by show gateSeq b c0.id ≤ _; rw [sa]; omega⟩⟩
    simp at hs
    rcases hs with hs | hs
    · rcases h.way s hs with e | e
      · exact .inl (e.mono (by rw [sa]; omega))
      · exact .inr e
    · exact .inl (ha s hs)
  | false =>
    refine ⟨by show ({ (tw c0 c1 a b false W) with nodes := [(tick a t).1, (tick b t).1], way := W ++ (tick a t).2.1 ++ (tick b t).2.1 }, [] ++ (tick a t).2.2.1 ++ (tick b t).2.2.1) = _; rw [ea, eb]; simp [twT, tw], ⟨na, nb, fun s hs => ?_, ?_, ?_⟩⟩
    · simp at hs
      rcases hs with hs | hs | hs
      · rcases h.way s hs with e | e
        · exact .inl (e.mono (by rw [sa]; omega))
        · exact .inr (e.mono (by show b.seq ≤ (ticked b t).seq; rw [sb]; omega))
      · exact .inl (ha s hs)
      · exact .inr (hb s hs)
    · show gateSeq a c1.id ≤ (ticked b t).seq
      rw [sb]
      omega
    · show gateSeq b c0.id ≤ (ticked a t).seq
      rw [sa]
      omega

/-- .. that hears, at the first. -/
theorem TG.hear0 {c0 c1 : Config} (hc : TC c0 c1) {N M : Int} {a b : Hw.Node} {W : List ByteArray} (h : TG c0 c1 N M a b W) (hNM : N ≤ M) {s : ByteArray} (hs : s ∈ W) : TG c0 c1 N M (nhear a s).1 b W := by
  have hh := hears_any h.na hNM (h.way s hs) hc.ne
  have hga := h.ga
  refine ⟨hh.good, h.nb, fun x hx => by rw [hh.seq]; exact h.way x hx, ?_, by rw [hh.seq]; exact h.gb⟩
  rcases hh.gate with ⟨-, -, e⟩ | ⟨-, e⟩
  · exact e
  · rw [e]
    exact hga

/-- .. at the second. -/
theorem TG.hear1 {c0 c1 : Config} (hc : TC c0 c1) {N M : Int} {a b : Hw.Node} {W : List ByteArray} (h : TG c0 c1 N M a b W) (hNM : N ≤ M) {s : ByteArray} (hs : s ∈ W) : TG c0 c1 N M a (nhear b s).1 W := by
  have hh := hears_any h.nb hNM (h.way s hs).symm (Ne.symm hc.ne)
  have hgb := h.gb
  refine ⟨h.na, hh.good, fun x hx => by rw [hh.seq]; exact h.way x hx, by rw [hh.seq]; exact h.ga, ?_⟩
  rcases hh.gate with ⟨-, -, e⟩ | ⟨-, e⟩
  · exact e
  · rw [e]
    exact hgb

theorem TG.lose {c0 c1 : Config} {N M : Int} {a b : Hw.Node} {W W' : List ByteArray} (h : TG c0 c1 N M a b W) (hs : ∀ s ∈ W', s ∈ W) : TG c0 c1 N M a b W' := ⟨h.na, h.nb, fun s hx => h.way s (hs s hx), h.ga, h.gb⟩

theorem TG.mono {c0 c1 : Config} {N N' M : Int} {a b : Hw.Node} {W : List ByteArray} (h : TG c0 c1 N M a b W) (hN : N ≤ N') : TG c0 c1 N' M a b W := ⟨h.na.mono hN, h.nb.mono hN, h.way, h.ga, h.gb⟩

theorem ng_watch {id o : ByteArray} {e cap l E M : Int} (hc : configCheck ⟨id, 0, e, cap, l⟩ = 0) (ho : idOk o = true) (hne : id ≠ o) (hE1 : 1 ≤ E) (hE2 : E ≤ 16777216) (hM : E ≤ M) : NG ⟨id, 0, e, cap, l⟩ [o] 0 M (watch (newNode ⟨id, 0, e, cap, l⟩) o E).1 ∧ (watch (newNode ⟨id, 0, e, cap, l⟩) o E).1 = ⟨⟨id, 0, e, cap, l⟩, 0, 0, 0, [addPeer o cap E 0], []⟩ := by
  unfold configCheck at hc
  split at hc
  · cases hc
  · split at hc
    · cases hc
    · rename_i h1 h2
      have hv : valOk e = true ∧ valOk l = true ∧ ¬ (e < 1 ∨ cap < 1 ∨ 64 < cap ∨ l < 1) := by
        refine ⟨?_, ?_, ?_⟩
        · cases h : valOk e with
          | true => rfl
          | false => exact absurd h (by intro h; exact h2 (by simp [h]))
        · cases h : valOk l with
          | true => rfl
          | false => exact absurd h (by intro h; exact h2 (by simp [h]))
        · intro h
          rcases h with h | h | h | h <;> exact h2 (by simp [h])
      obtain ⟨v1, v2, v3⟩ := hv
      have u1 : e ≤ 16777216 := by unfold valOk at v1; simp at v1; omega
      have u2 : l ≤ 16777216 := by unfold valOk at v2; simp at v2; omega
      have hvE : valOk E = true := by unfold valOk; simp; omega
      have hsq : sq o id = false := sq_false.2 (Ne.symm hne)
      have hadd : add [] o cap E 0 = ([addPeer o cap E 0], 0) := by
        rw [add_yes (by decide +kernel) (by rw [ho]; simp) (by rw [hvE]; simp; omega) rfl (by decide)]
        rfl
      have hw : watch (newNode ⟨id, 0, e, cap, l⟩) o E = (⟨⟨id, 0, e, cap, l⟩, 0, 0, 0, [addPeer o cap E 0], []⟩, 0) := by
        rw [watch_eq (l := [addPeer o cap E 0]) hsq hadd]
        rfl
      have hwin : winCheck cap [E] = 0 := by
        refine win_of (by omega) (by omega) (by show (1 : Int) ≤ cap; omega) (listCheck_of (by show 1 ≤ 64; omega) fun x hx => ?_)
        simp at hx
        rw [hx]
        exact hvE
      have hp : PeerOk (addPeer o cap E 0) := ⟨ho, (show gateCheck ⟨0, 0, 0⟩ = 0 by decide +kernel), hwin, by show (0 : Int) ≤ 0; omega, by show (0 : Int) ≤ 1073741824; omega⟩
      refine ⟨?_, by rw [hw]⟩
      rw [hw]
      refine ⟨⟨⟨by show 1 ≤ e; omega, u1, Int.le_refl _, by show (0 : Int) ≤ 1073741824; omega, by show (0 : Int) = 0 / e; simp, Int.le_refl _, by show (0 : Int) ≤ 1073741824; omega, (check_iff _).2 ⟨by simp, hp, fun q hq => (by cases hq), trivial⟩, fun p hp => ?_, fun p hp => ?_, by show 1 ≤ l; omega, u2, rfl⟩, ⟨by simp, by simp, by simp, by simp⟩, fun s hs => by simp at hs⟩, fun p hp => ?_, rfl, rfl, Int.le_refl _, fun p hp x hx => ?_⟩
      all_goals
        simp only [List.mem_singleton] at hp
        subst hp
      · exact Int.le_refl _
      · exact ⟨rfl, Nat.le_refl 1⟩
      · rfl
      · have hx : x ∈ [E] := hx
        simp at hx
        omega

end Go.Proofs.Ytmclalhjnjghnaa
