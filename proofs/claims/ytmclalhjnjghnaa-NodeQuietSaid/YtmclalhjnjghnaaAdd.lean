/- The contract of peers.Add. -/
import Derived.Test.YtmclalhjnjghnaaInsertc
import Derived.Test.YtmclalhjnjghnaaPlain
import Derived.Deep.RegionHeld3
import Derived.Deep.DrawnRows
namespace Go.Proofs.Ytmclalhjnjghnaa
open Go.RowKit Hw
attribute [local go_sem ↓] Go.wp_at_zero Go.wp_at_succ

theorem ordered_mono {l : List Peer} {prev : Option ByteArray} (h : Ordered prev l) (id : ByteArray) : Mono l id := by
  intro i j hi hj hs
  rcases Nat.lt_or_ge i j with hlt | hge
  · exact slt_trans (h.lt i j hlt hj) hs
  · obtain rfl : i = j := by omega
    exact hs

theorem place_le (l : List Peer) (id : ByteArray) : place l id ≤ l.length := (List.takeWhile_sublist _).length_le

theorem add_bad {l : List Peer} {id : ByteArray} {size first now : Int} (h : peersCheck l ≠ 0) : add l id size first now = ([], peersCheck l) := by
  unfold add; rw [if_pos h]
theorem add_id {l : List Peer} {id : ByteArray} {size first now : Int} (h : peersCheck l = 0) (h1 : (!idOk id) = true) : add l id size first now = ([], 3) := by
  unfold add; rw [if_neg (by simp [h]), if_pos (by simpa using h1)]
theorem add_arg {l : List Peer} {id : ByteArray} {size first now : Int} (h : peersCheck l = 0) (h1 : (!idOk id) = false) (h2 : size < 1 ∨ 64 < size ∨ valOk first = false ∨ now < 0 ∨ 1073741824 < now) : add l id size first now = ([], 1) := by
  unfold add; rw [if_neg (by simp [h]), if_neg (by simpa using h1), if_pos h2]
theorem add_there {l : List Peer} {id : ByteArray} {size first now : Int} (h : peersCheck l = 0) (h1 : (!idOk id) = false) (h2 : ¬ (size < 1 ∨ 64 < size ∨ valOk first = false ∨ now < 0 ∨ 1073741824 < now)) (h3 : found l id = true) : add l id size first now = ([], 5) := by
  unfold add; rw [if_neg (by simp [h]), if_neg (by simpa using h1), if_neg h2, if_pos h3]
theorem add_full {l : List Peer} {id : ByteArray} {size first now : Int} (h : peersCheck l = 0) (h1 : (!idOk id) = false) (h2 : ¬ (size < 1 ∨ 64 < size ∨ valOk first = false ∨ now < 0 ∨ 1073741824 < now)) (h3 : found l id = false) (h4 : l.length = 6) : add l id size first now = ([], 10) := by
  unfold add; rw [if_neg (by simp [h]), if_neg (by simpa using h1), if_neg h2, if_neg (by simp [h3]), if_pos h4]
theorem add_yes {l : List Peer} {id : ByteArray} {size first now : Int} (h : peersCheck l = 0) (h1 : (!idOk id) = false) (h2 : ¬ (size < 1 ∨ 64 < size ∨ valOk first = false ∨ now < 0 ∨ 1073741824 < now)) (h3 : found l id = false) (h4 : l.length ≠ 6) :
    add l id size first now = (insertAt l (place l id) (addPeer id size first now), 0) := by
  unfold add; rw [if_neg (by simp [h]), if_neg (by simpa using h1), if_neg h2, if_neg (by simp [h3]), if_neg h4]

theorem heap_alloc2 (w : World) (o o' : Obj) : ((w.alloc o).alloc o').heap[w.heap.size + 1]? = some o' := by
  have := heap_alloc_new (w.alloc o) o'
  rwa [World.size_alloc] at this

theorem OwnP.form {w : World} {B : Nat} {v : Value} {l : List Peer} (h : OwnP w B v l) : ∃ A c, v = .slice A l.length c ∧ ∀ b, A.map (·.block) = some b → B ≤ b ∧ b < w.heap.size := by
  obtain ⟨vs, _, h2, _⟩ := h
  obtain ⟨A, c, e, _, _⟩ := own_form h2
  refine ⟨A, c, e, fun b hb => ?_⟩
  subst e
  exact h2.lt b (by rw [ownBlock_slice]; exact hb)

/-- The new peer laid behind the copy. -/
theorem insert_after (l : List Peer) (p : Peer) (A' : Option Addr) (c' i B : Nat) (w W w4 : World) (A4 : Option Addr) (c4 : Nat) (hl : l.length ≤ 5) (hi : i ≤ l.length) (hW : Below w.heap.size w W) (hB : B = w.heap.size)
    (hu : Hid (W.ownsRow B 3 1 (.slice A' p.vals.length c') p.vals.length (ints p.vals))) (h : OwnP w4 W.heap.size (.slice A4 l.length c4) l) (hb : Below W.heap.size W w4) :
    Calls Try.prog 86 #[.slice A4 l.length c4, .int .i64 i, .slice (some ⟨w4.heap.size, 0, none⟩) 1 1] (w4.alloc (.cells (peerCells p (.slice A' p.vals.length c')).toArray 40))
      fun e w' => (∃ v, e = .returned v ∧ OwnP w' B v (insertAt l i p)) ∧ Below W.heap.size W w' := by
  subst hB
  obtain ⟨A5, c5, e5, hblk⟩ := h.form
  injection e5 with e5
  subst e5
  have hs := hW.size
  have hs4 := hb.size
  refine (insert_any A4 c4 l p A' c' i w4.heap.size w.heap.size _ ((h.base hs).below ((Below.refl _ _).alloc (Nat.le_refl _) _)) hl hi (by simp; omega) (heap_alloc_new _ _) ?_ ?_).mono ?_
  · intro he
    have := hblk w4.heap.size he.symm
    omega
  · exact (own_below hu.out hb).alloc _
  · rintro e w' ⟨⟨v, rfl, ho⟩, hg⟩
    refine ⟨⟨v, rfl, ho⟩, (hb.alloc (by omega) _).grown hg (by simp; omega) (fun k hk => ?_)⟩
    have := hblk k hk
    omega

/-- The new peer laid ahead of the copy. -/
theorem insert_ahead (l : List Peer) (p : Peer) (A' : Option Addr) (c' i B : Nat) (w W w4 : World) (A4 : Option Addr) (c4 : Nat) (hl : l.length ≤ 5) (hi : i ≤ l.length) (hW : Below w.heap.size w W) (hB : B = w.heap.size)
    (hu : Hid (W.ownsRow B 3 1 (.slice A' p.vals.length c') p.vals.length (ints p.vals))) (h : OwnP w4 (W.alloc (.cells (peerCells p (.slice A' p.vals.length c')).toArray 40)).heap.size (.slice A4 l.length c4) l)
    (hb : Below (W.alloc (.cells (peerCells p (.slice A' p.vals.length c')).toArray 40)).heap.size (W.alloc (.cells (peerCells p (.slice A' p.vals.length c')).toArray 40)) w4) :
    Calls Try.prog 86 #[.slice A4 l.length c4, .int .i64 i, .slice (some ⟨W.heap.size, 0, none⟩) 1 1] w4
      fun e w' => (∃ v, e = .returned v ∧ OwnP w' B v (insertAt l i p)) ∧ Below W.heap.size W w' := by
  subst hB
  obtain ⟨A5, c5, e5, hblk⟩ := h.form
  injection e5 with e5
  subst e5
  have hs := hW.size
  have hs4 := hb.size
  simp only [World.size_alloc] at hs4 hblk
  refine (insert_any A4 c4 l p A' c' i W.heap.size w.heap.size _ (h.base (by simp; omega)) hl hi (by omega) ((hb.block _ (by simp)).trans (heap_alloc_new _ _)) ?_ ?_).mono ?_
  · intro he
    have := hblk W.heap.size he.symm
    omega
  · exact own_below (hu.out.alloc _) hb
  · rintro e w' ⟨⟨v, rfl, ho⟩, hg⟩
    refine ⟨⟨v, rfl, ho⟩, (((Below.refl _ _).alloc (Nat.le_refl _) _).trans (hb.mono (by simp))).grown hg (by omega) (fun k hk => ?_)⟩
    have := hblk k hk
    omega

/-- What peers.Add hands back. -/
def AddPost (w0 : World) (r : List Peer × Int) (e : Ending) (w' : World) : Prop :=
  (∃ v, e = .returned (.tuple #[v, .int .i64 r.2]) ∧ OwnP w' w0.heap.size v r.1) ∧ Below w0.heap.size w0 w'

set_option maxHeartbeats 2000000 in
theorem add_any (A : Option Addr) (c : Nat) (l : List Peer) (id : ByteArray) (size first now : Int) (w : World) (h : PeersR w A l) :
    Calls Try.prog 22 #[.slice A l.length c, .string id, .int .i64 size, .int .i64 first, .int .i64 now] w (AddPost w (add l id size first now)) := by
  have Hh := Lib.hid h
  clear h
  by_cases hp : peersCheck l = 0
  · have hpb : (peersCheck l != 0) = false := by simp [hp]
    obtain ⟨hl, ho⟩ := (check_iff l).1 hp
    have Hm := Lib.hid (ordered_mono ho id)
    have Hv := Lib.hid (fun (k : Nat) (p : Peer) (hk : l[k]? = some p) => win_len (ho.ok p (List.mem_of_getElem? hk)).win)
    have Hp := Lib.hid hp
    clear hp ho
    go_enter Try.func22, Try.ntmps22
    go_wp2_with (first
      | (go_at_call 47; refine (check_any A c l _ Hh.out).mono ?_; rintro e w1 ⟨rfl, hb1⟩)
      | (go_at_call 83; refine (id_any _ _).mono ?_; rintro e w2 ⟨rfl, rfl⟩)
      | (go_at_call 84; refine (val_any _ _).mono ?_; rintro e w2 ⟨rfl, rfl⟩)
      | (go_at_call 85; refine (find_any A c l id _ (Hh.out.below hb1) hl Hm.out).mono ?_; rintro e w3 ⟨rfl, hb3⟩))
    · have x1 : (!idOk id) = true := by assumption
      go_ret2
      rw [add_id Hp.out x1]
      exact ⟨⟨_, rfl, OwnP.nil _ _⟩, hb1⟩
    · have x1 : (!idOk id) = false := by assumption
      go_ret2
      rw [add_arg Hp.out x1 (by omega)]
      exact ⟨⟨_, rfl, OwnP.nil _ _⟩, hb1⟩
    · have x1 : (!idOk id) = false := by assumption
      have x2 : found l id = true := by assumption
      have x3 : valOk first = true := by assumption
      go_ret2
      rw [add_there Hp.out x1 (by simp [x3]; omega) x2]
      exact ⟨⟨_, rfl, OwnP.nil _ _⟩, hb1.trans (hb3.mono hb1.size)⟩
    · have x1 : (!idOk id) = false := by assumption
      have x2 : found l id = false := by assumption
      have x3 : valOk first = true := by assumption
      have x4 : ((l.length : Int) == 6) = true := by assumption
      go_ret2
      rw [add_full Hp.out x1 (by simp [x3]; omega) x2 (by simp at x4; omega)]
      exact ⟨⟨_, rfl, OwnP.nil _ _⟩, hb1.trans (hb3.mono hb1.size)⟩
    · have x1 : (!idOk id) = false := by assumption
      have x2 : found l id = false := by assumption
      have x3 : valOk first = true := by assumption
      have x4 : ((l.length : Int) == 6) = false := by assumption
      have x5 : l.length ≠ 6 := by simp at x4; omega
      have X := Lib.hid (add_yes (l := l) (id := id) (size := size) (first := first) (now := now) Hp.out x1 (by simp [x3]; omega) x2 x5)
      have hl5 : l.length ≤ 5 := by omega
      have hb0 := hb1.trans (hb3.mono hb1.size)
      have hr3 := (Hh.out.below hb1).below hb3
      obtain ⟨W, hW⟩ : ∃ W, W = ((w3.alloc (.cells #[.int .i64 first] 3)).alloc (.cells #[.string id, .int .i64 0, .int .i64 0, .int .i64 0, .int .i64 size, .slice (some ⟨w3.heap.size, 0, none⟩) 1 1, .int .i64 now] 40)) := ⟨_, rfl⟩
      have hW3 : Below w3.heap.size w3 W := by rw [hW]; exact ((Below.refl _ _).alloc (Nat.le_refl _) _).alloc (by simp) _
      have Hb := Lib.hid (hb0.trans (hW3.mono hb0.size))
      have Hr := Lib.hid (hr3.below hW3)
      have hz : w3.heap.size + 1 < W.heap.size := by rw [hW]; simp
      have Hu : Hid (W.ownsRow w.heap.size 3 1 (.slice (some ⟨w3.heap.size, 0, none⟩) 1 1) 1 (ints [first])) := by
        rw [hW]
        refine World.ownsRow.alloc ?_ _
        exact ⟨rfl, .inr ⟨w3.heap.size, 1, #[.int .i64 first], rfl, hb0.size, heap_alloc_new _ _, Nat.le_refl _, by simp [maxLen], rfl, rfl⟩⟩
      have hp : W.heap[w3.heap.size + 1]? = some (.cells (peerCells (addPeer id size first now) (.slice (some ⟨w3.heap.size, 0, none⟩) 1 1)).toArray 40 (0, 0)) := by
        rw [hW]
        exact heap_alloc2 _ _ _
      have Hp15 := Lib.hid hp
      have cp : ∀ i, W.cell? ⟨w3.heap.size + 1, i, none⟩ = (peerCells (addPeer id size first now) (.slice (some ⟨w3.heap.size, 0, none⟩) 1 1)).toArray[i]? := fun i => cell_of_row W _ i _ 40 (0, 0) hp
      have c0 := cp 0
      have c1 := cp 1
      have c2 := cp 2
      have c3 := cp 3
      have c4 := cp 4
      have c5 := cp 5
      have c6 := cp 6
      simp [addPeer] at c0 c1 c2 c3 c4 c5 c6
      rw [← hW]
      clear x1 x2 x3 x4 x5 hb1 hb3 hpb hb0 hr3 hW hW3 hp cp
      go_region_held3 (fun w' => w'.cell? ⟨w3.heap.size + 1, 0, none⟩ = some (.string id) ∧ w'.cell? ⟨w3.heap.size + 1, 1, none⟩ = some (.int .i64 0) ∧ w'.cell? ⟨w3.heap.size + 1, 2, none⟩ = some (.int .i64 0) ∧
        w'.cell? ⟨w3.heap.size + 1, 3, none⟩ = some (.int .i64 0) ∧ w'.cell? ⟨w3.heap.size + 1, 4, none⟩ = some (.int .i64 size) ∧ w'.cell? ⟨w3.heap.size + 1, 5, none⟩ = some (.slice (some ⟨w3.heap.size, 0, none⟩) 1 1) ∧
        w'.cell? ⟨w3.heap.size + 1, 6, none⟩ = some (.int .i64 now)) (go_keep)
        (first
          | (go_at_call 87; refine (copied_any A c l _ (Hr.out.below (by first | exact (Below.refl _ _).drew | exact ((Below.refl _ _).drew).alloc (by simp) _)) hl Hv.out).mono ?_; rintro e w4 ⟨⟨v4, rfl, ho4⟩, hb4⟩; obtain ⟨A4, c4, rfl, -⟩ := ho4.form; have Ho4 := Lib.hid ho4; have hk4 := (fun i => hb4.cell (p := ⟨w3.heap.size + 1, i, none⟩) (by simp; omega)); clear ho4)
          | (go_at_call 86; refine (insert_after l (addPeer id size first now) (some ⟨w3.heap.size, 0, none⟩) 1 (place l id) w.heap.size w W.drew _ _ _ hl5 (place_le _ _) Hb.out.drew rfl Hu Ho4.out hb4).mono ?_; rintro e w5 ⟨⟨v5, rfl, ho5⟩, hb5⟩; have Ho5 := Lib.hid ho5; have hk5 := (fun i => hb5.cell (p := ⟨w3.heap.size + 1, i, none⟩) (by simp; omega)); clear ho5)
          | (go_at_call 86; refine (insert_ahead l (addPeer id size first now) (some ⟨w3.heap.size, 0, none⟩) 1 (place l id) w.heap.size w W.drew _ _ _ hl5 (place_le _ _) Hb.out.drew rfl Hu Ho4.out hb4).mono ?_; rintro e w5 ⟨⟨v5, rfl, ho5⟩, hb5⟩; have Ho5 := Lib.hid ho5; have hk5 := (fun i => hb5.cell (p := ⟨w3.heap.size + 1, i, none⟩) (by simp; omega)); clear ho5))
      all_goals
        have hfin : Below w.heap.size w w5 := Hb.out.drew.trans (hb5.mono Hb.out.size)
        go_wp2_with fail
        go_ret2
        rw [X.out]
        exact ⟨⟨_, rfl, Ho5.out⟩, hfin⟩
    · have x1 : (!idOk id) = false := by assumption
      go_ret2
      rw [add_arg Hp.out x1 (by omega)]
      exact ⟨⟨_, rfl, OwnP.nil _ _⟩, hb1⟩
    · have x1 : (!idOk id) = false := by assumption
      have x3 : ¬ valOk first = true := by assumption
      go_ret2
      rw [add_arg Hp.out x1 (by simp [x3])]
      exact ⟨⟨_, rfl, OwnP.nil _ _⟩, hb1⟩
    · have x1 : (!idOk id) = false := by assumption
      go_ret2
      rw [add_arg Hp.out x1 (by omega)]
      exact ⟨⟨_, rfl, OwnP.nil _ _⟩, hb1⟩
    · have x1 : (!idOk id) = false := by assumption
      go_ret2
      rw [add_arg Hp.out x1 (by omega)]
      exact ⟨⟨_, rfl, OwnP.nil _ _⟩, hb1⟩
  · have hpb : (peersCheck l != 0) = true := by simp [hp]
    go_enter Try.func22, Try.ntmps22
    go_wp2_with (go_at_call 47; refine (check_any A c l _ Hh.out).mono ?_; rintro e w1 ⟨rfl, hb1⟩)
    go_ret2
    rw [add_bad hp]
    exact ⟨⟨_, rfl, OwnP.nil _ _⟩, hb1⟩

end Go.Proofs.Ytmclalhjnjghnaa
