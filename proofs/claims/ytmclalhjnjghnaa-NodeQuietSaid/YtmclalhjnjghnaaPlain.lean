/- Plain facts on peers that may be: in order, within their bounds. -/
import Derived.Test.YtmclalhjnjghnaaModel2
namespace Go.Proofs.Ytmclalhjnjghnaa.Hw
open Go

theorem bl_trans : ∀ (x y z : List UInt8), Op.bytesLess x y = true → Op.bytesLess y z = true → Op.bytesLess x z = true
  | _, [], _, h, _ => by cases ‹List UInt8› <;> simp [Op.bytesLess] at h
  | _, _ :: _, [], _, h => by simp [Op.bytesLess] at h
  | [], _ :: _, _ :: _, _, _ => by simp [Op.bytesLess]
  | a :: x, b :: y, c :: z, h1, h2 => by
    simp only [Op.bytesLess, Bool.or_eq_true, Bool.and_eq_true, decide_eq_true_eq, beq_iff_eq] at h1 h2 ⊢
    rcases h1 with h1 | ⟨rfl, h1⟩
    · rcases h2 with h2 | ⟨rfl, h2⟩
      · exact .inl (UInt8.lt_trans h1 h2)
      · exact .inl h1
    · rcases h2 with h2 | ⟨rfl, h2⟩
      · exact .inl h2
      · exact .inr ⟨rfl, bl_trans x y z h1 h2⟩

theorem bl_irrefl : ∀ (x : List UInt8), Op.bytesLess x x = false
  | [] => rfl
  | a :: x => by
    simp only [Op.bytesLess, bl_irrefl x, Bool.and_false, Bool.or_false, decide_eq_false_iff_not]
    exact UInt8.lt_irrefl a

theorem slt_trans {a b c : ByteArray} (h1 : slt a b = true) (h2 : slt b c = true) : slt a c = true := bl_trans _ _ _ h1 h2
theorem slt_irrefl (a : ByteArray) : slt a a = false := bl_irrefl _

/-- What 'chk1' says of one peer when it says nothing bad. -/
structure PeerOk (p : Peer) : Prop where
  id : idOk p.id = true
  gate : gateCheck p.gate = 0
  win : winCheck p.cap p.vals = 0
  lo : 0 ≤ p.last
  hi : p.last ≤ 1073741824

theorem chk1_ok {prev : Option ByteArray} {p : Peer} (h : chk1 prev p = 0) : PeerOk p ∧ (∀ q, prev = some q → slt q p.id = true) := by
  unfold chk1 at h
  split at h
  · cases h
  · rename_i h1
    split at h
    · rename_i h2; exact absurd h h2
    · rename_i h2
      split at h
      · rename_i h3; exact absurd h h3
      · rename_i h3
        split at h
        · cases h
        · rename_i h4
          refine ⟨⟨by simpa using h1, by simpa using h2, by simpa using h3, by omega, by omega⟩, fun q hq => ?_⟩
          subst hq
          simp only at h
          split at h
          · assumption
          · cases h

theorem chk1_of {prev : Option ByteArray} {p : Peer} (h : PeerOk p) (hq : ∀ q, prev = some q → slt q p.id = true) : chk1 prev p = 0 := by
  have h1 := h.lo
  have h2 := h.hi
  unfold chk1
  rw [if_neg (by simp [h.id]), if_neg (by simp [h.gate]), if_neg (by simp [h.win]), if_neg (by omega)]
  cases prev with
  | none => rfl
  | some q => simp [hq q rfl]

/-- In order, each as it may be. -/
def Ordered : Option ByteArray → List Peer → Prop
  | _, [] => True
  | prev, p :: t => PeerOk p ∧ (∀ q, prev = some q → slt q p.id = true) ∧ Ordered (some p.id) t

theorem chkFrom_iff : ∀ (l : List Peer) (prev : Option ByteArray), chkFrom prev l = 0 ↔ Ordered prev l
  | [], prev => by simp [chkFrom, Ordered]
  | p :: t, prev => by
    simp only [chkFrom, Ordered]
    constructor
    · intro h
      split at h
      · rename_i h1; exact absurd h h1
      · rename_i h1
        obtain ⟨a, b⟩ := chk1_ok (by simpa using h1)
        exact ⟨a, b, (chkFrom_iff t _).1 h⟩
    · rintro ⟨a, b, c⟩
      rw [if_neg (by rw [chk1_of a b]; simp)]
      exact (chkFrom_iff t _).2 c

theorem check_iff (l : List Peer) : peersCheck l = 0 ↔ l.length ≤ 6 ∧ Ordered none l := by
  unfold peersCheck
  constructor
  · intro h
    split at h
    · cases h
    · exact ⟨by omega, (chkFrom_iff _ _).1 h⟩
  · rintro ⟨a, b⟩
    rw [if_neg (by omega)]
    exact (chkFrom_iff _ _).2 b

theorem Ordered.ok : ∀ {l : List Peer} {prev : Option ByteArray}, Ordered prev l → ∀ p ∈ l, PeerOk p
  | [], _, _, p, hp => by cases hp
  | q :: t, _, h, p, hp => by
    obtain ⟨a, _, c⟩ := h
    rcases List.mem_cons.1 hp with rfl | hp
    · exact a
    · exact Ordered.ok c p hp

theorem Ordered.above : ∀ {l : List Peer} {a : ByteArray}, Ordered (some a) l → ∀ p ∈ l, slt a p.id = true
  | [], _, _, p, hp => by cases hp
  | q :: t, a, h, p, hp => by
    obtain ⟨_, b, c⟩ := h
    rcases List.mem_cons.1 hp with rfl | hp
    · exact b a rfl
    · exact slt_trans (b a rfl) (Ordered.above c p hp)

theorem Ordered.lt : ∀ {l : List Peer} {prev : Option ByteArray}, Ordered prev l → ∀ i j (hi : i < j) (hj : j < l.length), slt (l[i]'(by omega)).id (l[j]).id = true
  | [], _, _, i, j, _, hj => by simp at hj
  | q :: t, _, h, 0, j + 1, _, hj => by
    obtain ⟨_, _, c⟩ := h
    exact Ordered.above c _ (List.getElem_mem (by simpa using hj))
  | q :: t, _, h, i + 1, j + 1, hi, hj => by
    obtain ⟨_, _, c⟩ := h
    exact Ordered.lt c i j (by omega) (by simpa using hj)

theorem win_len {cap : Int} {vals : List Int} (h : winCheck cap vals = 0) : vals.length ≤ 64 := by
  unfold winCheck listCheck at h
  split at h
  · cases h
  · split at h
    · cases h
    · split at h
      · cases h
      · omega

end Go.Proofs.Ytmclalhjnjghnaa.Hw
