/- What was written by beat.Encode is read again by beat.Decode. -/
import Derived.Test.YtmclalhjnjghnaaDec
namespace Go.Proofs.Ytmclalhjnjghnaa
open Go.RowKit Hw

theorem bytes_ext {a b : ByteArray} (h : a.data.toList = b.data.toList) : a = b := ByteArray.ext (Array.toList_inj.1 h)

theorem text_list (b : Beat) (c : Int) : (plain b ++ four c).data.toList = 72 :: UInt8.ofNat b.id.size :: (b.id.data.toList ++ ((four b.inc).data.toList ++ ((four b.seq).data.toList ++ (four c).data.toList))) := by
  unfold plain
  simp only [ByteArray.data_append, Array.toList_append, strOfNums_data]
  simp

theorem number_app {s a : ByteArray} {l : List UInt8} (h : s.data.toList = a.data.toList ++ l) (ha : a.size = 4) : number s = number a := by
  have hl : a.data.toList.length = 4 := by simpa using ha
  have e : ∀ k, k < 4 → byteAt s k = byteAt a k := by
    intro k hk
    unfold byteAt
    rw [h, List.getD_eq_getElem?_getD, List.getD_eq_getElem?_getD, List.getElem?_append_left (by omega)]
  unfold number
  rw [e 0 (by omega), e 1 (by omega), e 2 (by omega), e 3 (by omega)]

theorem decode_encode {b : Beat} (h : beatCheck b = 0) : decode (encode b).1 = (b, 0) := by
  obtain ⟨h1, h2, h3, h4, h5⟩ := beat_parts h
  obtain ⟨k1, k8⟩ := id_size h1
  have hE : (encode b).1 = plain b ++ four (crcOf (plain b)).1 := by unfold encode; rw [if_neg (by simp [h])]
  rw [hE]
  generalize hc : (crcOf (plain b)).1 = c
  have hcin := crcOf_in (plain b)
  rw [hc] at hcin
  have hL := text_list b c
  have hps := plain_size b
  have h4c := four_size c
  have hsz : (plain b ++ four c).size = 14 + b.id.size := by rw [ByteArray.size_append, hps, h4c]; omega
  generalize hS : plain b ++ four c = S at hL hsz ⊢
  have hid : b.id.data.toList.length = b.id.size := by simp
  have hli : (four b.inc).data.toList.length = 4 := by have := four_size b.inc; simpa using this
  have hls : (four b.seq).data.toList.length = 4 := by have := four_size b.seq; simpa using this
  have b0 : byteAt S 0 = 72 := by unfold byteAt; rw [hL]; rfl
  have b1 : byteAt S 1 = b.id.size := by
    unfold byteAt
    rw [hL]
    show (UInt8.ofNat b.id.size).toNat = _
    simp
    omega
  have x0 : S.extract 0 (10 + b.id.size) = plain b := by
    rw [← hS]
    refine bytes_ext ?_
    rw [Lib.extract_data, ByteArray.data_append, Array.toList_append]
    have : (plain b).data.toList.length = 10 + b.id.size := by simpa using hps
    simp [this]
  have x1 : number (S.extract (10 + b.id.size) S.size) = c := by
    rw [number_app (a := four c) (l := []) ?_ h4c, number_four c hcin]
    rw [Lib.extract_data, hL, hsz, List.append_nil]
    have : (14 + b.id.size - (10 + b.id.size)) = 4 := by omega
    rw [this, show 10 + b.id.size = (b.id.size + 8) + 1 + 1 by omega, List.drop_succ_cons, List.drop_succ_cons, List.drop_append, List.drop_append, List.drop_append, List.drop_of_length_le (by omega), List.drop_of_length_le (by omega), List.drop_of_length_le (by omega)]
    simp [hid, hli, hls]
    have : (four c).data.toList.length = 4 := by simpa using h4c
    exact List.take_of_length_le (by omega)
  have x2 : S.extract 2 (2 + b.id.size) = b.id := by
    refine bytes_ext ?_
    rw [Lib.extract_data, hL, show 2 + b.id.size - 2 = b.id.size by omega, List.drop_succ_cons, List.drop_succ_cons, List.drop_zero, List.take_append_of_le_length (by omega), List.take_of_length_le (by omega)]
  have x3 : number (S.extract (2 + b.id.size) S.size) = b.inc := by
    rw [number_app (a := four b.inc) (l := (four b.seq).data.toList ++ (four c).data.toList) ?_ (four_size _), number_four _ (by omega)]
    rw [Lib.extract_data, hL, hsz, show 2 + b.id.size = b.id.size + 1 + 1 by omega, List.drop_succ_cons, List.drop_succ_cons, List.drop_append, List.drop_of_length_le (by omega), hid, Nat.sub_self, List.drop_zero, List.nil_append]
    exact List.take_of_length_le (by
      have : (four c).data.toList.length = 4 := by simpa using h4c
      simp only [List.length_append]
      omega)
  have x4 : number (S.extract (6 + b.id.size) S.size) = b.seq := by
    rw [number_app (a := four b.seq) (l := (four c).data.toList) ?_ (four_size _), number_four _ (by omega)]
    rw [Lib.extract_data, hL, hsz, show 6 + b.id.size = (b.id.size + 4) + 1 + 1 by omega, List.drop_succ_cons, List.drop_succ_cons, List.drop_append, List.drop_of_length_le (by omega), List.drop_append, List.drop_of_length_le (by omega), hid, hli,
      show b.id.size + 4 - b.id.size - 4 = 0 by omega, List.drop_zero, List.nil_append, List.nil_append]
    exact List.take_of_length_le (by
      have : (four c).data.toList.length = 4 := by simpa using h4c
      simp only [List.length_append]
      omega)
  have hd : decBeat S b.id.size = b := by
    unfold decBeat
    rw [x2, x3, x4]
  unfold decode
  rw [b0, b1, if_neg (by omega), if_neg (by omega), if_neg (by omega), if_neg (by omega), x0, x1, hc, if_neg (by simp), hd, if_neg (by simp [h])]

end Go.Proofs.Ytmclalhjnjghnaa
