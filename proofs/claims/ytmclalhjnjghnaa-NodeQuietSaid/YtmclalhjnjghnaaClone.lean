/- The contracts of slices.Clone for numbers, and of peers.Copied: a copy in new memory that holds the same. -/
import Derived.Test.YtmclalhjnjghnaaCheckp
import Derived.Maps.AppendAt
namespace Go.Proofs.Ytmclalhjnjghnaa
open Go.RowKit Hw

theorem info3 : (Try.prog.info? 3).map (fun i => (i.zero, i.size, i.bytes)) = some (some (.int .i64 0), 1, 8) := by kernel_rfl
theorem info40 : (Try.prog.info? 40).map (fun i => (i.zero, i.size, i.bytes)) = some (some (.agg #[.string ByteArray.empty, .int .i64 0, .int .i64 0, .int .i64 0, .int .i64 0, .slice none 0 0, .int .i64 0]), 7, 80) := by kernel_rfl

abbrev ints (l : List Int) : List Value := l.map (.int .i64)

theorem ints_get (l : List Int) (j : Nat) (u : Value) (h : (ints l)[j]? = some u) : j < l.length ∧ u = .int .i64 (l.getD j 0) := by
  simp only [ints, List.getElem?_map, Option.map_eq_some_iff] at h
  obtain ⟨x, hx, rfl⟩ := h
  have hj := (List.getElem?_eq_some_iff.1 hx).1
  refine ⟨hj, ?_⟩
  rw [List.getD_eq_getElem?_getD, hx]; rfl

theorem ints_one (l : List Int) : ∀ u ∈ ints l, u.oneCell' = true := by
  intro u hu
  simp only [ints, List.mem_map] at hu
  obtain ⟨x, _, rfl⟩ := hu
  rfl

theorem add_lit (b o j : Nat) : (⟨b, o, none⟩ : Addr).add j = ⟨b, o + j, none⟩ := Addr.add_lit b o j

theorem Ints.news {w : World} {A : Option Addr} {xs : List Int} (h : Ints w A xs) (ad : Addr) (hA : A = some ad) :
    ∀ j u, (ints xs)[j]? = some u → w.cell? (ad.add j) = some u := by
  intro j u hu
  obtain ⟨hj, rfl⟩ := ints_get _ _ _ hu
  obtain ⟨b, off, e, hc⟩ := h (by omega)
  rw [hA] at e
  cases e
  rw [add_lit]
  exact hc j hj

/-- A row of numbers that the call owns reads as those. -/
theorem own_ints {w : World} {B : Nat} {A : Option Addr} {c : Nat} {xs : List Int} (h : w.ownsRow B 3 1 (.slice A xs.length c) xs.length (ints xs)) : Ints w A xs := by
  intro h0
  rcases h.2 with ⟨e, e2⟩ | ⟨g, cap, cur, e, _⟩
  · omega
  · injection e with e1 e2 e3
    subst e1
    refine ⟨g, 0, rfl, fun j hj => ?_⟩
    have := h.cells (g := g) rfl j (.int .i64 (xs.getD j 0)) (by
      simp [List.getD_eq_getElem?_getD, hj])
    rwa [add_lit] at this

theorem own_form {w : World} {B : Nat} {e : TypeId} {s : Nat} {v : Value} {n : Nat} {xs : List Value} (h : w.ownsRow B e s v n xs) : ∃ A c, v = .slice A n c ∧ n ≤ c ∧ (A = none → n = 0 ∧ c = 0) := by
  rcases h.2 with ⟨e, e2⟩ | ⟨g, cap, cur, e, _, _, h1, _⟩
  · exact ⟨none, 0, by rw [e, e2], by omega, fun _ => ⟨e2, rfl⟩⟩
  · exact ⟨_, cap, e, h1, fun h => by cases h⟩

theorem block_of_add (a : Addr) (n : Nat) : (a.add n).block = a.block := by unfold Addr.add; split <;> rfl

theorem news_below {w w' : World} (hb : Below w.heap.size w w') {ad : Addr} {news : List Value} (h : ∀ j u, news[j]? = some u → w.cell? (ad.add j) = some u) :
    ∀ j u, news[j]? = some u → w'.cell? (ad.add j) = some u := fun j u hu => (hb.cell (World.block_lt_of_cell? w _ (h j u hu))).trans (h j u hu)

set_option maxHeartbeats 400000 in
theorem clone_any (A : Option Addr) (c : Nat) (l : List Int) (w : World) (h : Ints w A l) (hl : l.length ≤ 17592186044416) :
    Calls Try.prog 78 #[.slice A l.length c] w fun e w' => (∃ v, e = .returned v ∧ w'.ownsRow w.heap.size 3 1 v l.length (ints l)) ∧ Below w.heap.size w w' := by
  obtain ⟨i0, hi0, hz0, hz1, hz2⟩ := info_parts info3
  have hnil := fun (W : World) (a : Option Addr) (n c : Nat) => Lib.run_eql_slice_nil (P := Try.prog) W 36 3 a n c 0 0 Try.underlying36
  rcases A with _ | ad
  · have hl0 : l = [] := by
      rcases l with _ | ⟨x, t⟩
      · rfl
      · obtain ⟨b, off, e, -⟩ := h (by simp)
        cases e
    subst hl0
    go_enter Try.func78, Try.ntmps78
    go_wp2_with fail
    go_ret
    exact ⟨⟨_, rfl, World.ownsRow_nil _ _ _ _⟩, Below.refl _ _⟩
  · have hn := h.news ad rfl
    have Hn := Lib.hid hn
    clear h hn
    go_enter Try.func78, Try.ntmps78
    go_wp2_with ((at_builtin; refine wpList_append_own _ rfl (.tmp 5) (.tmp 6) 36 rfl w.heap.size 3 i0 _ 1 8 Try.underlying36 hi0 hz0 hz1 hz2 rfl (by omega) (.slice (some ⟨w.heap.size, 0, none⟩) 0 0) 0 [] rfl (World.ownsRow_made w #[] 0 (Nat.le_refl _) (by simp) rfl) ad l.length c (ints l) rfl (by simp) (news_below ((Below.refl _ _).alloc (Nat.le_refl _) _) Hn.out) (ints_one l) (by simp only [maxLen]; omega) (by omega) (by simp) ?_; intro v' w1 hown hgrow _))
    go_ret
    exact ⟨⟨_, rfl, by simpa using hown⟩, ((Below.refl _ _).alloc (Nat.le_refl _) _).grown hgrow (by simp) (by simp [Value.ownBlock])⟩

end Go.Proofs.Ytmclalhjnjghnaa
