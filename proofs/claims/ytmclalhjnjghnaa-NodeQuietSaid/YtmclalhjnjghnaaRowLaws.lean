/- Laws on rows of cells in memory: the builtin copy over elements of any size, append of so many zeros, a row cut short. -/
import Derived.Test.YtmclalhjnjghnaaFind
import Derived.Lib.AppendZerosOnto
import Derived.Lib.AppendZeros
import Derived.StillTailTactics
import Derived.Laws.CopyOwn
namespace Go.Proofs.Ytmclalhjnjghnaa
open Go.RowKit Hw

theorem spl_take {α : Type} (L cs : List α) (off k : Nat) (h : off ≤ L.length) (hk : k = off + cs.length) : (L.take off ++ cs ++ L.drop (off + cs.length)).take k = L.take off ++ cs := by
  subst hk
  exact List.take_left' (by simp; omega)

theorem spl_len {α : Type} (L cs : List α) (off : Nat) (h : off + cs.length ≤ L.length) : (L.take off ++ cs ++ L.drop (off + cs.length)).length = L.length := by
  simp; omega

/-- What stands in the new row when both copies are made. -/
theorem ins_take {α : Type} (cur rest ys : List α) (i n c : Nat) (hi : i < n) (hcur : cur.length = n * 7) (hy : ys.length = 7) (hr : rest.length = (c - i) * 7) (hc : n + 1 ≤ c) :
    (((((cur.drop 0).take (i * 7) ++ rest).take (i * 7) ++ ys ++ ((cur.drop 0).take (i * 7) ++ rest).drop (i * 7 + ys.length)).take ((i + 1) * 7) ++ (cur.drop (i * 7)).take ((n - i) * 7) ++
      (((cur.drop 0).take (i * 7) ++ rest).take (i * 7) ++ ys ++ ((cur.drop 0).take (i * 7) ++ rest).drop (i * 7 + ys.length)).drop ((i + 1) * 7 + ((cur.drop (i * 7)).take ((n - i) * 7)).length)).take ((n + 1) * 7)) =
      cur.take (i * 7) ++ ys ++ (cur.take (n * 7)).drop (i * 7) := by
  have hl1 : ((cur.drop 0).take (i * 7) ++ rest).length = c * 7 := by simp; omega
  have hl2 := spl_len ((cur.drop 0).take (i * 7) ++ rest) ys (i * 7) (by omega)
  rw [spl_take _ _ _ _ (by omega) (by simp; omega), spl_take _ _ _ _ (by omega) (by omega)]
  have e1 : ((cur.drop 0).take (i * 7) ++ rest).take (i * 7) = cur.take (i * 7) := by
    rw [List.drop_zero]
    exact List.take_left' (by simp; omega)
  rw [e1]
  congr 1
  rw [List.take_of_length_le (by simp; omega), List.take_of_length_le (by omega)]

theorem ins_len {α : Type} (cur rest ys : List α) (i n c : Nat) (hi : i < n) (hcur : cur.length = n * 7) (hy : ys.length = 7) (hr : rest.length = (c - i) * 7) (hc : n + 1 ≤ c) :
    ((((cur.drop 0).take (i * 7) ++ rest).take (i * 7) ++ ys ++ ((cur.drop 0).take (i * 7) ++ rest).drop (i * 7 + ys.length)).take ((i + 1) * 7) ++ (cur.drop (i * 7)).take ((n - i) * 7) ++
      (((cur.drop 0).take (i * 7) ++ rest).take (i * 7) ++ ys ++ ((cur.drop 0).take (i * 7) ++ rest).drop (i * 7 + ys.length)).drop ((i + 1) * 7 + ((cur.drop (i * 7)).take ((n - i) * 7)).length)).length = c * 7 := by
  have hl1 : ((cur.drop 0).take (i * 7) ++ rest).length = c * 7 := by simp; omega
  have hl2 := spl_len ((cur.drop 0).take (i * 7) ++ rest) ys (i * 7) (by omega)
  rw [spl_len _ _ _ (by simp; omega), hl2, hl1]

section
variable {P : Program} {w : World}

theorem run_copy_cells (dT sT ty elem : TypeId) (i : TypeInfo) (hu : P.underlying dT = some (.slice elem)) (hi : P.info? elem = some i)
    (g off dLen dCap : Nat) (ad : Addr) (sLen sCap : Nat) (cur : Array Value) (t : TypeId) (hg : w.heap[g]? = some (.cells cur t (0, 0))) (cs : List Value)
    (hn : cs.length = min sLen dLen * i.size) (hsrc : ∀ j v, cs[j]? = some v → w.cell? (ad.add j) = some v) (hfit : off + cs.length ≤ cur.size) (h1 : ∀ v ∈ cs, v.oneCell' = true) :
    (Builtin.copy_ #[dT, sT] ty #[.slice (some ⟨g, off, none⟩) dLen dCap, .slice (some ad) sLen sCap]).run P w =
      .ok (goInt (min sLen dLen : Nat)) (w.setRow g (cur.toList.take off ++ cs ++ cur.toList.drop (off + cs.length)).toArray) := by
  have hf := run_firstCells_some (P := P) w i.size (min sLen dLen) ad sLen sCap cs hn hsrc
  have hst := run_storeCells_at P g off t cs 0 cur w hg (by simpa using hfit) h1
  simp only [Nat.add_zero] at hst
  have hmin : Nat.min sLen dLen = min sLen dLen := rfl
  simp [Builtin.copy_, run_underlying hu, sizeOf, typeInfo, hi, Builtin.lenOf, hf, hst, hmin]

/-- 'copy' into a row that is known whole, for the walk. -/
theorem wpList_copy_cells {ops : Array Oper} {rest : List Oper} {o : Oper} {a : Act} {Q : Exit → Act → World → Prop} (hgd : o.guard = none) (d s : Operand) (dT sT : TypeId)
    (ho : o.op = .call { callee := .builtin .copy, args := #[d, s], argTypes := #[dT, sT] }) (elem : TypeId) (i : TypeInfo) (hu : P.underlying dT = some (.slice elem)) (hi : P.info? elem = some i)
    (g off dLen dCap : Nat) (ad : Addr) (sLen sCap : Nat) (hd : a.eval d = .slice (some ⟨g, off, none⟩) dLen dCap) (hs : a.eval s = .slice (some ad) sLen sCap)
    (cur : Array Value) (t : TypeId) (hg : w.heap[g]? = some (.cells cur t (0, 0))) (cs : List Value)
    (hn : cs.length = min sLen dLen * i.size) (hsrc : ∀ j v, cs[j]? = some v → w.cell? (ad.add j) = some v) (hfit : off + cs.length ≤ cur.size) (h1 : ∀ v ∈ cs, v.oneCell' = true)
    (h : ∀ w', Hid (w'.heap[g]? = some (.cells (cur.toList.take off ++ cs ++ cur.toList.drop (off + cs.length)).toArray t (0, 0))) → w.grownBy w' (some g) →
      wpList P ops Q rest (a.put o.dst (goInt (min sLen dLen : Nat))) w') : wpList P ops Q (o :: rest) a w := by
  refine wpList_plain hgd fun K hK => ?_
  have hrun := run_copy_cells (P := P) dT sT o.type elem i hu hi g off dLen dCap ad sLen sCap cur t hg cs hn hsrc hfit h1
  unfold Oper.wp execOp
  simp only [ho, resolve, invoke, builtin, Sem.run_bind, Sem.run_pure, Result.andThen_ok, List.map_toArray, List.map_cons, List.map_nil, hd, hs, hrun]
  refine hK _ _ (h _ ?_ ?_)
  · exact setRow_heap w g cur _ t _ hg
  · exact ⟨rfl, rfl, rfl, by simp, fun k _ hk => setRow_other w g k _ (fun e => hk (by rw [e]))⟩

/-- 'append(s, make([]T, m)...)' where it must grow: the new row, whole. -/
theorem wpList_append_zeros {ops : Array Oper} {rest : List Oper} {o : Oper} {a : Act} {Q : Exit → Act → World → Prop} (hgd : o.guard = none) (s x : Operand) (t tn : TypeId)
    (ho : o.op = .call { callee := .builtin .append, args := #[s, x], argTypes := #[t, tn] }) (e : TypeId) (i : TypeInfo) (z : Value) (kn kq : IntKind) (ht : P.underlying t = some (.slice e)) (htn : P.underlying tn = some (.int kn))
    (hi : P.info? e = some i) (hz : i.zero = some z) (hzs : z.cells.size = i.size) (ad : Addr) (sLen sCap m tot : Nat) (q : Int) (hs : a.eval s = .slice (some ad) sLen sCap) (hx : a.eval x = .int kq q) (hq : q = (m : Int)) (htot : sLen + m = tot)
    (olds : List Value) (hl : olds.length = sLen * i.size) (hold : ∀ j v, olds[j]? = some v → w.cell? (ad.add j) = some v)
    (h0 : 0 < m) (hsz : 0 < i.size) (hgrow : sCap < sLen + m) (h63 : sLen + m ≤ 1000) (hby : i.bytes ≤ 1000)
    (h : ∀ w' cap rest', Hid (w'.heap[w.heap.size]? = some (.cells (olds ++ rest').toArray e (0, 0))) → rest'.length = (cap - sLen) * i.size → tot ≤ cap → cap ≤ maxLen → w.grownBy w' none →
      wpList P ops Q rest (a.put o.dst (.slice (some ⟨w.heap.size, 0, none⟩) tot cap)) w') : wpList P ops Q (o :: rest) a w := by
  subst hq
  subst htot
  have hf : (Builtin.firstCells i.size sLen (.slice (some ad) sLen sCap)).run P w.drew = .ok olds.toArray w.drew := run_firstCells_some (P := P) w.drew i.size sLen ad sLen sCap olds hl (by simpa using hold)
  have hb1 : m * i.bytes ≤ 1000 * 1000 := Nat.mul_le_mul (by omega) hby
  have hb2 : (sLen + m) * i.bytes ≤ 1000 * 1000 := Nat.mul_le_mul h63 hby
  have hr := Lib.run_append_grow_zeros (P := P) w t tn o.type e i z kq kn ht htn hi hz (some ad) sLen sCap olds hf m h0 hsz hgrow (by omega) (by omega)
    (growslice_fits (by omega) (by omega))
  have hge := grownCap_ge w (sLen + m) sCap e
  refine Lib.wpList_append_run w hgd s x t tn ho _ _ hs hx _ _ hr (h _ _ (Builtin.zeroCells z.cells m ++ Builtin.zeroCells z.cells (grownCap w (sLen + m) sCap e - (sLen + m))).toList ?_ ?_ hge ?_ ?_)
  · have := heap_alloc_new w.drew (.cells (olds.toArray ++ Builtin.zeroCells z.cells m ++ Builtin.zeroCells z.cells (grownCap w (sLen + m) sCap e - (sLen + m))) e)
    refine this.trans ?_
    congr 2
    simp
  · simp only [Array.toList_append, List.length_append, Array.length_toList, size_zeroCells, hzs, ← Nat.add_mul]
    congr 1
    omega
  · exact grownCap_le_maxLen w (sLen + m) sCap e (by simp only [maxLen]; omega)
  · exact ⟨rfl, rfl, rfl, by simp, fun k hk _ => Below.heap_alloc w.drew _ k hk⟩
end

end Go.Proofs.Ytmclalhjnjghnaa
