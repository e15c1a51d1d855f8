/- The contracts of strings.Compare and peers.find: where a name stands among peers in order. -/
import Derived.Test.YtmclalhjnjghnaaCopied
import Derived.Lib.Bytealg
namespace Go.Proofs.Ytmclalhjnjghnaa
open Go.RowKit Hw

def scmp (a b : ByteArray) : Int := Lib.compareBytes a.data.toList b.data.toList

theorem cmpB_lt : ∀ (x y : List UInt8), decide (Lib.compareBytes x y < 0) = Op.bytesLess x y
  | [], [] => by simp [Lib.compareBytes, Op.bytesLess]
  | _ :: _, [] => by simp [Lib.compareBytes, Op.bytesLess]
  | [], _ :: _ => by simp [Lib.compareBytes, Op.bytesLess]
  | a :: x, b :: y => by
    rw [Op.bytesLess, Lib.compareBytes, ← cmpB_lt x y]
    by_cases h1 : a < b
    · simp [h1]
    · by_cases h2 : b < a
      · have h3 : ¬ a = b := by rintro rfl; exact h1 h2
        simp [h1, h2, h3]
      · have h3 : a = b := by
          apply UInt8.le_antisymm
          · exact UInt8.not_lt.1 h2
          · exact UInt8.not_lt.1 h1
        subst h3
        simp [h1]

theorem cmpB_eq : ∀ (x y : List UInt8), (Lib.compareBytes x y == 0) = (x == y)
  | [], [] => by simp [Lib.compareBytes]
  | _ :: _, [] => by simp [Lib.compareBytes]
  | [], _ :: _ => by simp [Lib.compareBytes]
  | a :: x, b :: y => by
    rw [Lib.compareBytes]
    have ih := cmpB_eq x y
    by_cases h1 : a < b
    · have h3 : ¬ a = b := by rintro rfl; exact UInt8.lt_irrefl _ h1
      simp [h1, h3]
    · by_cases h2 : b < a
      · have h3 : ¬ a = b := by rintro rfl; exact h1 h2
        simp [h1, h2, h3]
      · have h3 : a = b := by
          apply UInt8.le_antisymm
          · exact UInt8.not_lt.1 h2
          · exact UInt8.not_lt.1 h1
        subst h3
        simp only [h1, if_false, ih]
        simp

theorem scmp_lt (a b : ByteArray) : decide (scmp a b < 0) = slt a b := by
  rw [scmp, cmpB_lt, slt, Lib.toList_data, Lib.toList_data]

theorem scmp_eq (a b : ByteArray) : (scmp a b == 0) = sq a b := by
  rw [scmp, cmpB_eq, sq, Lib.toList_data, Lib.toList_data]

set_option maxRecDepth 100000 in
set_option maxHeartbeats 1000000 in
theorem cmpstr_any (a b : ByteArray) (w : World) :
    Calls Try.prog 152 #[.string a, .string b] w fun e w' => e = .returned (.int .i64 (scmp a b)) ∧ w = w' := by
  go_enter Try.func152, Try.ntmps152
  go_wp2
  rw [run_callFunc_extern Try.func162 (by kernel_rfl) (by kernel_rfl) (by kernel_rfl) (e := Extern.BytealgCompare.compare) (by kernel_rfl), Lib.run_compareString]
  simp only [Result.andThen]
  rw [Oper.upon_value]
  go_wp2
  go_ret
  exact ⟨rfl, rfl⟩

theorem compare_any (a b : ByteArray) (w : World) :
    Calls Try.prog 129 #[.string a, .string b] w fun e w' => e = .returned (.int .i64 (scmp a b)) ∧ w = w' := by
  go_enter Try.func129, Try.ntmps129
  go_wp2_with (go_at_call 152; refine (cmpstr_any _ _ _).mono ?_; rintro e w' ⟨rfl, rfl⟩)
  go_ret
  exact ⟨rfl, rfl⟩

theorem findcmp_any (p : Peer) (u : Value) (id : ByteArray) (w : World) :
    Calls Try.prog 128 #[.agg (peerCells p u).toArray, .string id] w fun e w' => e = .returned (.int .i64 (scmp p.id id)) ∧ Below w.heap.size w w' := by
  go_enter Try.func128, Try.ntmps128
  go_wp2_with (go_at_call 129; refine (compare_any _ _ _).mono ?_; rintro e w' ⟨rfl, rfl⟩)
  go_ret
  exact ⟨rfl, (Below.refl _ _).alloc (Nat.le_refl _) _⟩


/-- Who stands behind a lesser name stands behind a lesser name, too. -/
def Mono (l : List Peer) (id : ByteArray) : Prop := ∀ i j (hi : i ≤ j) (hj : j < l.length), slt (l[j]).id id = true → slt (l[i]'(by omega)).id id = true

theorem place_of (l : List Peer) (id : ByteArray) : ∀ (i : Nat), (∀ k (h : k < l.length), k < i → slt (l[k]).id id = true) → (∀ (h : i < l.length), slt (l[i]).id id = false) → i ≤ l.length → place l id = i := by
  induction l with
  | nil => intro i _ _ h; simp at h; subst h; rfl
  | cons p t ih =>
    intro i h1 h2 h3
    rcases i with _ | i
    · have := h2 (by simp)
      simp only [List.getElem_cons_zero] at this
      simp [place, this]
    · have h0 := h1 0 (by simp) (by omega)
      simp only [List.getElem_cons_zero] at h0
      have ih' := ih i (fun k h hk => by have := h1 (k + 1) (by simpa using h) (by omega); simpa using this) (fun h => by have := h2 (by simpa using h); simpa using this) (by simpa using h3)
      simp only [place] at ih' ⊢
      simp [h0, ih']

theorem found_at (l : List Peer) (id : ByteArray) (i : Nat) (h : place l id = i) (hi : i < l.length) : found l id = sq (l[i]).id id := by
  simp [found, h, hi]
theorem found_end (l : List Peer) (id : ByteArray) (h : place l id = l.length) : found l id = false := by
  simp [found, h]

set_option maxHeartbeats 1000000 in
theorem search_any (A : Option Addr) (c : Nat) (l : List Peer) (id : ByteArray) (w : World) (h : PeersR w A l) (hl : l.length ≤ 6) (hm : Mono l id) :
    Calls Try.prog 127 #[.slice A l.length c, .string id, .func (.func 128) #[] #[]] w
      fun e w' => e = .returned (.tuple #[.int .i64 (place l id), .bool (found l id)]) ∧ Below w.heap.size w w' := by
  have Hm := Lib.hid hm
  clear hm
  go_enter Try.func127, Try.ntmps127
  go_wp2_with fail
  go_loopw [9, 10] (fun i j wr => ∃ a b : Nat, a ≤ b ∧ b ≤ l.length ∧ i = .int .i64 a ∧ j = .int .i64 b ∧ Below w.heap.size w wr ∧
    Hid ((∀ k (h : k < l.length), k < a → slt (l[k]).id id = true) ∧ (∀ k (h : k < l.length), b ≤ k → slt (l[k]).id id = false))) (fun i j _ => (intOf j - intOf i).toNat)
  case atStart => exact ⟨0, l.length, Nat.zero_le _, Nat.le_refl _, rfl, rfl, Below.refl _ _, fun k h hk => by omega, fun k h hk => by omega⟩
  case round =>
    obtain ⟨a, b, hab, hbl, rfl, rfl, hb, HH⟩ := hrel
    by_cases hlt : a < b
    · have hr := h.below hb
      obtain ⟨g, off, rfl, hp⟩ := hr (by omega)
      clear hr
      obtain ⟨A', c', h0, h1, h2, h3, h4, h5, h6, -, -⟩ := hp ((a + b) / 2) (by omega)
      clear hp
      have Hb := Lib.hid hb
      clear hb
      have hab' : (a : Int) < (b : Int) := by omega
      go_wp2_with (go_at_call 128; refine (findcmp_any _ _ _ _).mono ?_; rintro e w1 ⟨rfl, hb1⟩)
      · have hs : scmp l[(a + b) / 2].id id < 0 := by assumption
        have hs2 : slt l[(a + b) / 2].id id = true := by rw [← scmp_lt]; simpa using hs
        go_roundw
        case rel => exact ⟨(a + b) / 2 + 1, b, by omega, hbl, congrArg (Value.int IntKind.i64) (by omega), rfl, Hb.out.trans (hb1.mono Hb.out.size),
          fun k hk hk2 => Hm.out k ((a + b) / 2) (by omega) (by omega) hs2, HH.out.2⟩
        case measure => simp [intOf]; omega
      · have hs : 0 ≤ scmp l[(a + b) / 2].id id := by assumption
        have hs2 : slt l[(a + b) / 2].id id = false := by rw [← scmp_lt]; simpa using hs
        go_roundw
        case rel => exact ⟨a, (a + b) / 2, by omega, by omega, rfl, congrArg (Value.int IntKind.i64) (by omega), Hb.out.trans (hb1.mono Hb.out.size), HH.out.1,
          fun k hk hk2 => by
            cases e : slt l[k].id id with
            | false => rfl
            | true => rw [Hm.out ((a + b) / 2) k hk2 hk e] at hs2; cases hs2⟩
        case measure => simp [intOf]; omega
    · have hab2 : b = a := by omega
      subst hab2
      have hpl := place_of l id b HH.out.1 (fun h => HH.out.2 b h (Nat.le_refl _)) hbl
      have Hpl := Lib.hid hpl
      clear hpl
      by_cases hlt2 : b < l.length
      · have hr := h.below hb
        obtain ⟨g, off, rfl, hp⟩ := hr (by omega)
        clear hr
        obtain ⟨A', c', h0, h1, h2, h3, h4, h5, h6, -, -⟩ := hp b hlt2
        have hd : decide (b < l.length) = true := by simpa using hlt2
        have hd2 : (b : Int) < (l.length : Int) := by omega
        have Hb := Lib.hid hb
        clear hp hb
        go_wp2_with (go_at_call 128; refine (findcmp_any _ _ _ _).mono ?_; rintro e w1 ⟨rfl, hb1⟩)
        go_ret2
        exact ⟨ret_val (by rw [Hpl.out, found_at l id b Hpl.out hlt2, ← scmp_eq]; rfl), Hb.out.trans (hb1.mono Hb.out.size)⟩
      · have hd : decide (b < l.length) = false := by simpa using hlt2
        have hd2 : ¬ (b : Int) < (l.length : Int) := by omega
        go_wp2_with fail
        go_ret2
        exact ⟨ret_val (by rw [Hpl.out, found_end l id (by rw [Hpl.out]; omega)]; rfl), hb⟩

set_option maxHeartbeats 400000 in
theorem find_any (A : Option Addr) (c : Nat) (l : List Peer) (id : ByteArray) (w : World) (h : PeersR w A l) (hl : l.length ≤ 6) (hm : Mono l id) :
    Calls Try.prog 85 #[.slice A l.length c, .string id] w fun e w' => e = .returned (.tuple #[.int .i64 (place l id), .bool (found l id)]) ∧ Below w.heap.size w w' := by
  have Hh := Lib.hid h
  have Hm := Lib.hid hm
  clear h hm
  go_enter Try.func85, Try.ntmps85
  go_wp2_with (go_at_call 127; refine (search_any A c l id _ Hh.out hl Hm.out).mono ?_; rintro e w1 ⟨rfl, hb1⟩)
  go_ret2
  exact ⟨rfl, hb1⟩

end Go.Proofs.Ytmclalhjnjghnaa
