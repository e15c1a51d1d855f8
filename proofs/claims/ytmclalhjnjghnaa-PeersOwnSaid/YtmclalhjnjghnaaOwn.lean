/- The walk of PeersOwn. -/
import Derived.Test.YtmclalhjnjghnaaBegun
namespace Go.Proofs.Ytmclalhjnjghnaa
open Go.RowKit Hw

/-- Blocks from B on are as they were. -/
def Alike (B : Nat) (w0 w : World) : Prop := ∀ k, B ≤ k → k < w0.heap.size → w.heap[k]? = w0.heap[k]?

theorem Alike.of_below {w0 w : World} (B : Nat) (h : Below w0.heap.size w0 w) : Alike B w0 w := fun k _ hk => h.block k hk

theorem own_alike {w w' : World} {B : Nat} {e : TypeId} {s : Nat} {v : Value} {n : Nat} {xs : List Value} (h : w.ownsRow B e s v n xs) (hb : Alike B w w') : w'.ownsRow B e s v n xs := by
  refine ⟨h.1, ?_⟩
  rcases h.2 with h2 | ⟨g, cap, cur, e1, e2, e3, r⟩
  · exact .inl h2
  · exact .inr ⟨g, cap, cur, e1, e2, (hb g e2 (Array.getElem?_eq_some_iff.1 e3).1).trans e3, r⟩

theorem OwnP.alike {w w' : World} {B : Nat} {v : Value} {l : List Peer} (h : OwnP w B v l) (hb : Alike B w w') : OwnP w' B v l := by
  obtain ⟨vs, h1, h2, h3⟩ := h
  exact ⟨vs, h1, own_alike h2 hb, fun k u p a b => own_alike (h3 k u p a b) hb⟩

theorem InP.alike {w w' : World} {B g : Nat} {l : List Peer} {us : List Value} (h : InP w B g l us) (hb : Alike B w w') : InP w' B g l us := by
  obtain ⟨h1, h2, h3, h4⟩ := h
  refine ⟨h1, h2, (hb g h2 (Array.getElem?_eq_some_iff.1 h3).1).trans h3, fun k u p a b => ?_⟩
  obtain ⟨g', e, hg, hc⟩ := h4 k u p a b
  exact ⟨g', e, hg, (hb g' hg (Array.getElem?_eq_some_iff.1 hc).1).trans hc⟩

theorem rw_of_own {w w' : World} {B : Nat} {t : TypeId} {s : Nat} {v : Value} {n : Nat} {xs : List Value} (h : w.ownsRow B t s v n xs) (hb : Alike B w w') : Rw w' B w.heap.size t s v := by
  rcases h.2 with h2 | ⟨g, cap, cur, e1, e2, e3, e4, e5, e6, _⟩
  · exact .inl h2.1
  · have hg := (Array.getElem?_eq_some_iff.1 e3).1
    exact .inr ⟨g, n, cap, cur, e1, e2, hg, e4, e5, (hb g e2 hg).trans e3, e6⟩

/-- Peers of the call's own may be spoilt. -/
theorem OwnP.sp {w w' : World} {B : Nat} {v : Value} {l : List Peer} (h : OwnP w B v l) (hb : Alike B w w') : SpP w' B w.heap.size v := by
  obtain ⟨vs, h1, h2, h3⟩ := h
  rcases h2.2 with h2' | ⟨g, cap, cur, e1, e2, e3, e4, e5, e6, e7⟩
  · exact .inl h2'.1
  · have hg := (Array.getElem?_eq_some_iff.1 e3).1
    refine .inr ⟨g, l.length, cap, cur, e1, e2, hg, e4, e5, (hb g e2 hg).trans e3, e6, fun k hk => ?_⟩
    have hv : vs[k]? = some (vs[k]'(by omega)) := List.getElem?_eq_getElem (by omega)
    have hp : l[k]? = some l[k] := List.getElem?_eq_getElem hk
    refine ⟨l[k], vs[k]'(by omega), fun j hj => ?_, rw_of_own (h3 k _ _ hv hp) hb⟩
    rw [← cellsOf_get l vs k j h1 hk hj, ← e7, List.getElem?_take, if_pos (by omega)]
    simp

theorem InP.sp {w w' : World} {B g : Nat} {l : List Peer} {us : List Value} (h : InP w B g l us) (hb : Alike B w w') (hl : l.length + 3 ≤ maxLen) (hv : ∀ (k : Nat) (p : Peer), l[k]? = some p → p.vals.length + 3 ≤ maxLen) :
    SpP w' B w.heap.size (.slice (some ⟨g, 0, none⟩) l.length (l.length + 3)) := by
  obtain ⟨h1, h2, h3, h4⟩ := h
  have hg := (Array.getElem?_eq_some_iff.1 h3).1
  have hlen := cellsOf_length l us h1
  refine .inr ⟨g, l.length, l.length + 3, _, rfl, h2, hg, by omega, hl, (hb g h2 hg).trans h3, by simp [hlen]; omega, fun k hk => ?_⟩
  have hu : us[k]? = some (us[k]'(by omega)) := List.getElem?_eq_getElem (by omega)
  have hp : l[k]? = some l[k] := List.getElem?_eq_getElem hk
  refine ⟨l[k], us[k]'(by omega), fun j hj => ?_, ?_⟩
  · rw [← cellsOf_get l us k j h1 hk hj, List.getElem?_toArray, List.getElem?_append_left (by rw [hlen]; omega)]
  · obtain ⟨g', e, hg', hc⟩ := h4 k _ _ hu hp
    have hgl := (Array.getElem?_eq_some_iff.1 hc).1
    exact .inr ⟨g', _, _, _, e, hg', hgl, by omega, hv k _ hp, (hb g' hg' hgl).trans hc, by simp⟩

theorem Spoils.alike {B E : Nat} {w w' w0 : World} (h : Spoils B E w w') (ha : Alike E w0 w) (hs : w0.heap.size ≤ w.heap.size) : Alike E w0 w' := fun k hk hk2 => (h.high k hk (by omega)).trans (ha k hk hk2)

end Go.Proofs.Ytmclalhjnjghnaa
