/- Laws on rows: append within the room, clear; and the contracts of slices.Delete of one element: peers, subs, strings. -/
import Derived.Test.YtmclalhjnjghnaaAdd
namespace Go.Proofs.Ytmclalhjnjghnaa
open Go.RowKit Hw

theorem info85 : (Try.prog.info? 85).map (fun i => (i.zero, i.size, i.bytes)) = some (some (.agg #[.string ByteArray.empty, .int .i64 0, .bool false]), 3, 32) := by kernel_rfl
theorem info9 : (Try.prog.info? 9).map (fun i => (i.zero, i.size, i.bytes)) = some (some (.string ByteArray.empty), 1, 16) := by kernel_rfl

theorem zeros7 : (Builtin.zeroCells (Value.agg #[.string ByteArray.empty, .int .i64 0, .int .i64 0, .int .i64 0, .int .i64 0, .slice none 0 0, .int .i64 0]).cells 1).toList = [.string ByteArray.empty, .int .i64 0, .int .i64 0, .int .i64 0, .int .i64 0, .slice none 0 0, .int .i64 0] := by kernel_rfl
theorem zeros3 : (Builtin.zeroCells (Value.agg #[.string ByteArray.empty, .int .i64 0, .bool false]).cells 1).toList = [.string ByteArray.empty, .int .i64 0, .bool false] := by kernel_rfl
theorem zeros1 : (Builtin.zeroCells (Value.string ByteArray.empty).cells 1).toList = [.string ByteArray.empty] := by kernel_rfl

/-- One element less, the last place laid zero. -/
theorem del_take {α : Type} (cur zs cs : List α) (a b k : Nat) (hcs : cs.length = b) (hk : k = a + b) (hab : a + b ≤ cur.length) :
    (((cur.take a ++ cs ++ cur.drop (a + cs.length)).take k ++ zs ++ (cur.take a ++ cs ++ cur.drop (a + cs.length)).drop (k + zs.length)).take k) = cur.take a ++ cs := by
  subst hcs
  subst hk
  have hl := spl_len cur cs a hab
  rw [List.append_assoc, List.take_append_of_le_length (by rw [List.length_take, hl]; omega), List.take_take, Nat.min_self]
  exact spl_take cur cs a _ (by omega) rfl

theorem del_len {α : Type} (cur zs cs : List α) (a b k : Nat) (hcs : cs.length = b) (hk : k = a + b) (hab : a + b + zs.length ≤ cur.length) :
    (((cur.take a ++ cs ++ cur.drop (a + cs.length)).take k ++ zs ++ (cur.take a ++ cs ++ cur.drop (a + cs.length)).drop (k + zs.length))).length = cur.length := by
  subst hcs
  subst hk
  have hl := spl_len cur cs a (by omega)
  rw [spl_len _ _ _ (by omega), hl]

section
variable {P : Program} {w : World}

/-- 'append' within the room of a row that is known whole. -/
theorem wpList_append_within {ops : Array Oper} {rest : List Oper} {o : Oper} {a : Act} {Q : Exit → Act → World → Prop} (hgd : o.guard = none) (s x : Operand) (t : TypeId)
    (ho : o.op = .call { callee := .builtin .append, args := #[s, x], argTypes := #[t, t] }) (e : TypeId) (i : TypeInfo) (ht : P.underlying t = some (.slice e)) (hi : P.info? e = some i)
    (g sLen sCap m c tot : Nat) (ad : Addr) (hs : a.eval s = .slice (some ⟨g, 0, none⟩) sLen sCap) (hx : a.eval x = .slice (some ad) m c) (cur : Array Value) (hg : w.heap[g]? = some (.cells cur e (0, 0)))
    (news : List Value) (hl : news.length = m * i.size) (hnews : ∀ j u, news[j]? = some u → w.cell? (ad.add j) = some u) (h1 : ∀ u ∈ news, u.oneCell' = true) (htot : sLen + m = tot) (hroom : tot ≤ sCap)
    (hfit : sLen * i.size + news.length ≤ cur.size)
    (h : ∀ w', Hid (w'.heap[g]? = some (.cells (cur.toList.take (sLen * i.size) ++ news ++ cur.toList.drop (sLen * i.size + news.length)).toArray e (0, 0))) → w.grownBy w' (some g) →
      wpList P ops Q rest (a.put o.dst (.slice (some ⟨g, 0, none⟩) tot sCap)) w') : wpList P ops Q (o :: rest) a w := by
  subst htot
  have hr := run_append_room (P := P) w t o.type e i ht hi g sLen sCap cur hg ad m c news hl hnews h1 hroom hfit
  refine Lib.wpList_append_run w hgd s x t t ho _ _ hs hx _ _ hr (h _ ?_ ?_)
  · exact setRow_heap w g cur _ e _ hg
  · exact ⟨rfl, rfl, rfl, by simp, fun k _ hk => setRow_other w g k _ (fun e => hk (by rw [e]))⟩

theorem run_clear_cells (t ty elem : TypeId) (i : TypeInfo) (z : Value) (ht : P.underlying t = some (.slice elem)) (hi : P.info? elem = some i) (hz : i.zero = some z)
    (g off n c : Nat) (cur : Array Value) (hg : w.heap[g]? = some (.cells cur elem (0, 0))) (hn : 0 < n) (zs : List Value) (hzs : (Builtin.zeroCells z.cells n).toList = zs) (hfit : off + zs.length ≤ cur.size) (h1 : ∀ u ∈ zs, u.oneCell' = true) :
    (Builtin.clear_ #[t] ty #[.slice (some ⟨g, off, none⟩) n c]).run P w = .ok (.tuple #[]) (w.setRow g (cur.toList.take off ++ zs ++ cur.toList.drop (off + zs.length)).toArray) := by
  have hst := run_storeCells_at P g off elem zs 0 cur w hg (by simpa using hfit) h1
  simp only [Nat.add_zero] at hst
  obtain ⟨n, rfl⟩ : ∃ m, n = m + 1 := ⟨n - 1, by omega⟩
  simp [Builtin.clear_, run_underlying ht, zeroValue, typeInfo, hi, hz, hzs, hst]

/-- 'clear' of a part of a row that is known whole. -/
theorem wpList_clear_cells {ops : Array Oper} {rest : List Oper} {o : Oper} {a : Act} {Q : Exit → Act → World → Prop} (hgd : o.guard = none) (x : Operand) (t : TypeId)
    (ho : o.op = .call { callee := .builtin .clear, args := #[x], argTypes := #[t] }) (elem : TypeId) (i : TypeInfo) (z : Value) (ht : P.underlying t = some (.slice elem)) (hi : P.info? elem = some i) (hz : i.zero = some z)
    (g off n c : Nat) (hx : a.eval x = .slice (some ⟨g, off, none⟩) n c) (cur : Array Value) (hg : w.heap[g]? = some (.cells cur elem (0, 0))) (hn : 0 < n) (zs : List Value) (hzs : (Builtin.zeroCells z.cells n).toList = zs)
    (hfit : off + zs.length ≤ cur.size) (h1 : ∀ u ∈ zs, u.oneCell' = true)
    (h : ∀ w', Hid (w'.heap[g]? = some (.cells (cur.toList.take off ++ zs ++ cur.toList.drop (off + zs.length)).toArray elem (0, 0))) → w.grownBy w' (some g) →
      wpList P ops Q rest (a.put o.dst (.tuple #[])) w') : wpList P ops Q (o :: rest) a w := by
  refine wpList_plain hgd fun K hK => ?_
  have hrun := run_clear_cells (P := P) t o.type elem i z ht hi hz g off n c cur hg hn zs hzs hfit h1
  unfold Oper.wp execOp
  simp only [ho, resolve, invoke, builtin, Sem.run_bind, Sem.run_pure, Result.andThen_ok, List.map_toArray, List.map_cons, List.map_nil, hx, hrun]
  refine hK _ _ (h _ ?_ ?_)
  · exact setRow_heap w g cur _ elem _ hg
  · exact ⟨rfl, rfl, rfl, by simp, fun k _ hk => setRow_other w g k _ (fun e => hk (by rw [e]))⟩
end

theorem grown2 {a b c : World} {r : Option Nat} (h : a.grownBy b r) (k : b.grownBy c r) : a.grownBy c r :=
  ⟨k.os.trans h.os, k.tape.trans h.tape, k.output.trans h.output, Nat.le_trans h.size k.size, fun i hi hne => (k.block i (Nat.lt_of_lt_of_le hi h.size) hne).trans (h.block i hi hne)⟩

end Go.Proofs.Ytmclalhjnjghnaa
