/- Contracts of beat.plain and beat.Encode. -/
import Derived.Test.YtmclalhjnjghnaaFour
import Derived.Test.YtmclalhjnjghnaaLeafb
import Derived.Test.YtmclalhjnjghnaaSlots
namespace Go.Proofs.Ytmclalhjnjghnaa
open Go.RowKit Hw

/-- 'beat.plain'. -/
def plain (b : Beat) : ByteArray := ByteArray.mk #[72] ++ strOfNums [(b.id.size : Int)] ++ b.id ++ four b.inc ++ four b.seq

theorem conv1 (w : World) (n : Int) (g : Nat) (hc : w.cell? ⟨g, 0, none⟩ = some (.int .u8 n)) : (convert 208 9 (.slice (some ⟨g, 0, none⟩) 1 1)).run Try.prog w = .ok (.string (strOfNums [n])) w :=
  run_convert_bytes_arg (P := Try.prog) w 208 5 Try.underlying208 Try.underlying5 g 0 1 1 [n] rfl (fun i hi => by
    obtain rfl : i = 0 := by omega
    exact hc) 9 Try.underlying9

def PlainS (w : World) (b : Beat) (w' : World) : Prop := w'.cell? ⟨w.heap.size, 0, none⟩ = some (.string b.id) ∧ w'.cell? ⟨w.heap.size, 1, none⟩ = some (.int .i64 b.inc) ∧ w'.cell? ⟨w.heap.size, 2, none⟩ = some (.int .i64 b.seq) ∧ Below w.heap.size w w'

theorem PlainS.below {w wx wy : World} {b : Beat} (h : PlainS w b wx) (hb : Below wx.heap.size wx wy) : PlainS w b wy :=
  ⟨bsome hb h.1, bsome hb h.2.1, bsome hb h.2.2.1, h.2.2.2.trans (hb.mono h.2.2.2.size)⟩

/-- What each operation yields. -/
def PlainV (g : Nat) (b : Beat) (j : Nat) (v : Value) (w : World) : Prop :=
  match j with
  | 0 => v = .pointer (some ⟨g, 0, none⟩)
  | 1 => v = .string b.id
  | 2 => v = .int .i64 b.id.size
  | 3 => v = .int .u8 b.id.size
  | 4 => ∃ q, v = .slice (some ⟨q, 0, none⟩) 1 1 ∧ w.cell? ⟨q, 0, none⟩ = some (.int .u8 b.id.size)
  | 5 => v = .string (strOfNums [(b.id.size : Int)])
  | 6 => v = .string (ByteArray.mk #[72] ++ strOfNums [(b.id.size : Int)])
  | 7 => v = .pointer (some ⟨g, 0, none⟩)
  | 8 => v = .string b.id
  | 9 => v = .string (ByteArray.mk #[72] ++ strOfNums [(b.id.size : Int)] ++ b.id)
  | 10 => v = .pointer (some ⟨g, 1, none⟩)
  | 11 => v = .int .i64 b.inc
  | 12 => v = .string (four b.inc)
  | 13 => v = .string (ByteArray.mk #[72] ++ strOfNums [(b.id.size : Int)] ++ b.id ++ four b.inc)
  | 14 => v = .pointer (some ⟨g, 2, none⟩)
  | 15 => v = .int .i64 b.seq
  | 16 => v = .string (four b.seq)
  | _ => v = .string (plain b)

theorem PlainV.below {g : Nat} {b : Beat} {j : Nat} {v : Value} {w w' : World} (h : PlainV g b j v w) (hb : Below w.heap.size w w') : PlainV g b j v w' := by
  unfold PlainV at *
  split at h
  all_goals first
    | exact h
    | (obtain ⟨q, e, hc⟩ := h; exact ⟨q, e, bsome hb hc⟩)

set_option maxRecDepth 100000 in
set_option maxHeartbeats 4000000 in
theorem plain_any (b : Beat) (w : World) (hid : b.id.size ≤ 8) (h1 : 0 ≤ b.inc ∧ b.inc ≤ 4294967295) (h2 : 0 ≤ b.seq ∧ b.seq ≤ 4294967295) :
    Calls Try.prog 133 #[.agg #[.string b.id, .int .i64 b.inc, .int .i64 b.seq]] w fun e w' => e = .returned (.string (plain b)) ∧ Below w.heap.size w w' := by
  have H1 := Lib.hid h1
  have H2 := Lib.hid h2
  have hw8 : IntKind.u8.wrap (b.id.size : Int) = (b.id.size : Int) := IntWalk.u8_in _ (by omega)
  have hconv := conv1
  have hz1 : (strOfNums [(b.id.size : Int)]).size = 1 := rfl
  have hz2 := four_size b.inc
  have hz3 := four_size b.seq
  clear h1 h2
  go_enter Try.func133, Try.ntmps133
  go_wp2_with fail
  have HS : PlainS w b (w.alloc (.cells #[.string b.id, .int .i64 b.inc, .int .i64 b.seq] 24)) := by
    refine ⟨?_, ?_, ?_, (Below.refl _ _).alloc (Nat.le_refl _) _⟩ <;> rw [World.cell?_alloc_new] <;> rfl
  generalize w.alloc (.cells #[.string b.id, .int .i64 b.inc, .int .i64 b.seq] 24) = W at HS ⊢
  refine wp_region_told (PlainV w.heap.size b) (PlainS w b) [3, 4, 5, 6, 7, 8, 9, 10, 11, 12, 13, 14, 15, 16, 17, 18, 19, 20, 2] (by kernel_rfl) (by kernel_rfl) (fun j v w w' _ h hb => h.below hb) (HS.below (Below.refl _ _).drew) ?hs ?hd
  case hs =>
    repeat (refine AllOps.cons ?_ ?_; focus (
      intro a w1 hC hk hv K hK
      have h1 := hk 1 (by decide)
      have HC := Lib.hid hC
      obtain ⟨c0, c1, c2, -⟩ := hC
      clear hk
      simp [Region.binds, PlainV] at hv h1
      try obtain ⟨hv, hv'⟩ := hv
      go_simp
      first
        | exact hK _ _ HC.out (Below.refl _ _) rfl
        | (rw [if_neg (by omega)]; exact hK _ _ HC.out (Below.refl _ _) rfl)
        | (refine (four_any _ _ ?q).mono ?_; (case q => first | exact H1.out | exact H2.out); rintro e w2 ⟨rfl, hb2⟩; exact hK _ _ (HC.out.below hb2) hb2 rfl)
        | (have hb2 : Below w1.heap.size w1 (w1.alloc (.cells #[.int .u8 b.id.size] 5)) := (Below.refl _ _).alloc (Nat.le_refl _) _; exact hK _ _ (HC.out.below hb2) hb2 ⟨_, rfl, by rw [World.cell?_alloc_new]; rfl⟩)))
    exact AllOps.nil
  case hd =>
    intro a w1 hC hdf hsz hk hv
    have h18 := hv 18 (by decide)
    clear hk hv
    simp [PlainV] at h18 hdf
    go_wp2_with fail
    exact bodyPost_ret (v := .string (plain b)) (by simp [results, Try.results133, h18]) hdf ⟨rfl, hC.2.2.2⟩

/-- 'beat.Encode'. -/
def encode (b : Beat) : ByteArray × Int := if beatCheck b ≠ 0 then (ByteArray.mk #[], beatCheck b) else (plain b ++ four (crcOf (plain b)).1, 0)

theorem beat_parts {b : Beat} (h : beatCheck b = 0) : idOk b.id = true ∧ 0 ≤ b.inc ∧ b.inc < 2147483648 ∧ 1 ≤ b.seq ∧ b.seq < 2147483648 := by
  unfold beatCheck at h
  split at h
  · cases h
  · split at h
    · cases h
    · rename_i h1 h2
      refine ⟨by simpa using h1, ?_⟩
      omega

theorem id_size {s : ByteArray} (h : idOk s = true) : 0 < s.size ∧ s.size ≤ 8 := by
  unfold idOk at h
  simp at h
  exact ⟨h.1.1, h.1.2⟩

theorem plain_size (b : Beat) : (plain b).size = 10 + b.id.size := by
  have h1 : (strOfNums [(b.id.size : Int)]).size = 1 := rfl
  have h2 := four_size b.inc
  have h3 := four_size b.seq
  unfold plain
  simp only [ByteArray.size_append, h1, h2, h3]
  show 1 + 1 + b.id.size + 4 + 4 = 10 + b.id.size
  omega

set_option maxRecDepth 100000 in
set_option maxHeartbeats 2000000 in
theorem encode_any (b : Beat) (w : World) : Calls Try.prog 94 #[.agg #[.string b.id, .int .i64 b.inc, .int .i64 b.seq]] w fun e w' => e = .returned (.tuple #[.string (encode b).1, .int .i64 (encode b).2]) ∧ Below w.heap.size w w' := by
  by_cases hc : beatCheck b = 0
  · have hcb : (beatCheck b != 0) = false := by simp [hc]
    obtain ⟨h1, h2, h3, h4, h5⟩ := beat_parts hc
    have hid := (id_size h1).2
    have hps := plain_size b
    have hz := crcOf_in (plain b)
    have hz4 := four_size (crcOf (plain b)).1
    have hE : encode b = (plain b ++ four (crcOf (plain b)).1, 0) := by unfold encode; rw [if_neg (by simp [hc])]
    have HE := Lib.hid hE
    have hbig : ¬ 9223372036854775807 < (plain b).size + (four (crcOf (plain b)).1).size := by omega
    clear hc hE h1
    go_enter Try.func94, Try.ntmps94
    go_wp2_with (first
      | (go_at_call 89; refine (bcheck_any b _).mono ?_; rintro e w1 ⟨rfl, hb1⟩; obtain ⟨c1, f1, z1, hw1⟩ := keep1 hb1; have c10 := c1 0; have c11 := c1 1; have c12 := c1 2; simp at c10 c11 c12; clear c1 f1 hb1)
      | (go_at_call 133; refine (plain_any b _ hid (by omega) (by omega)).mono ?_; rintro e w2 ⟨rfl, hb2⟩; have hw2 := hw1.trans (hb2.mono hw1.size); clear hb2)
      | (go_at_call 97; refine (crc_any _ _).mono ?_; rintro e w3 ⟨rfl, hb3⟩; have hw3 := hw2.trans (hb3.mono hw2.size); clear hb3)
      | (go_at_call 134; refine (four_any _ _ hz).mono ?_; rintro e w4 ⟨rfl, hb4⟩; have hw4 := hw3.trans (hb4.mono hw3.size); clear hb4))
    go_ret2
    rw [HE.out]
    exact ⟨rfl, hw4⟩
  · have hcb : (beatCheck b != 0) = true := by simp [hc]
    have hE : encode b = (ByteArray.mk #[], beatCheck b) := by unfold encode; rw [if_pos hc]
    have HE := Lib.hid hE
    clear hc hE
    go_enter Try.func94, Try.ntmps94
    go_wp2_with (first
      | (go_at_call 89; refine (bcheck_any b _).mono ?_; rintro e w1 ⟨rfl, hb1⟩; obtain ⟨c1, f1, z1, hw1⟩ := keep1 hb1; clear c1 f1 hb1))
    go_ret2
    rw [HE.out]
    exact ⟨rfl, hw1⟩

end Go.Proofs.Ytmclalhjnjghnaa
