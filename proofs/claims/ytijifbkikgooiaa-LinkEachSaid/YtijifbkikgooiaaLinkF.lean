/- Link: New, the reference's New and Copy. -/
import Derived.Test.YtijifbkikgooiaaLinkE
import Derived.Deep.RegionLaw
namespace Go.Proofs.Ytijifbkikgooiaa
open Go.RowKit Go.Shelf

theorem flat_zeroI (n : Nat) : (List.replicate n (0 : Int)).flatMap encI = (madeCells #[.int .i64 0] (n * 1)).toList := by
  rw [Nat.mul_one, toList_madeCells_one, flat_encI, List.map_replicate]
theorem flat_zeroP (n : Nat) : (List.replicate n ((0 : Int), (0 : Int))).flatMap encP = (madeCells #[.int .i64 0, .int .i64 0] (n * 2)).toList := by
  apply List.ext_getElem?
  intro m
  have hl : ((List.replicate n ((0 : Int), (0 : Int))).flatMap encP).length = n * 2 := by rw [flat_length encP_len, List.length_replicate]
  by_cases hm : m < n * 2
  · obtain ⟨u, hu⟩ := at_some (xs := (List.replicate n ((0 : Int), (0 : Int))).flatMap encP) (k := m) (by omega)
    obtain ⟨i, j, x, e, hx, hj⟩ := flat_at encP_len _ m u hu
    have hx0 : x = (0, 0) := by
      have := List.mem_of_getElem? hx
      exact (List.mem_replicate.1 this).2
    subst hx0
    have hu0 : u = .int .i64 0 := by
      have := List.mem_of_getElem? hj
      simpa [encP] using this
    subst hu0
    rw [hu]
    have h2 : m % 2 = 0 ∨ m % 2 = 1 := by omega
    rcases h2 with h2 | h2 <;> simp [madeCells, hm, h2]
  · rw [List.getElem?_eq_none (by omega), List.getElem?_eq_none (by simp [madeCells]; omega)]

def newL (m : Nat) : Lk := ⟨1, List.replicate m 0, List.replicate m (0, 0)⟩
def noL : Lk := ⟨0, [], []⟩

set_option maxHeartbeats 1000000 in
theorem new_good (w : World) (m : Nat) (h1 : 1 ≤ m) (h2 : m ≤ 64) :
    Calls Try.prog 10 #[.int .i64 m] w fun e w' => ∃ r, e = .returned (.tuple #[r, .int .i64 0]) ∧ LkOwn w' w.heap.size r (newL m) ∧ Below w.heap.size w w' := by
  obtain ⟨i0, hi, hz0, hz1, hz2⟩ := info_parts Try.infoI
  obtain ⟨j0, hj, hy0, hy1, hy2⟩ := info_parts Try.infoP
  have m1 : ∀ W : World, (Instr.makeSlice 22 (.int .i64 m) (.int .i64 m)).run Try.prog W = .ok (.slice (some ⟨W.heap.size, 0, none⟩) m m) (W.alloc (.cells (madeCells #[.int .i64 0] (m * 1)) 2)) := fun W => by
    have := run_make W 22 2 i0 _ Try.underlying22 hi hz0 .i64 .i64 m m (by omega) (by omega) (by rw [hz2]; omega) (by omega)
    rw [hz1] at this
    simpa [Value.cells] using this
  have m2 : ∀ W : World, (Instr.makeSlice 23 (.int .i64 m) (.int .i64 m)).run Try.prog W = .ok (.slice (some ⟨W.heap.size, 0, none⟩) m m) (W.alloc (.cells (madeCells #[.int .i64 0, .int .i64 0] (m * 2)) 27)) := fun W => by
    have := run_make W 23 27 j0 _ Try.underlying23 hj hy0 .i64 .i64 m m (by omega) (by omega) (by rw [hy2]; omega) (by omega)
    rw [hy1] at this
    simpa [Value.cells] using this
  have o1 := fun W : World => World.ownsRow_lit (w := W) (base := W.heap.size) (e := 2) (size := 1) (madeCells #[.int .i64 0] (m * 1)) m (Nat.le_refl _) (by unfold maxLen; omega) (size_madeCells _ _)
  have o2 := fun W : World => World.ownsRow_lit (w := W) (base := W.heap.size) (e := 27) (size := 2) (madeCells #[.int .i64 0, .int .i64 0] (m * 2)) m (Nat.le_refl _) (by unfold maxLen; omega) (size_madeCells _ _)
  rw [← flat_zeroI] at o1
  rw [← flat_zeroP] at o2
  obtain ⟨Z1, hZ1⟩ : ∃ Z, Z = madeCells #[.int .i64 0] (m * 1) := ⟨_, rfl⟩
  obtain ⟨Z2, hZ2⟩ : ∃ Z, Z = madeCells #[.int .i64 0, .int .i64 0] (m * 2) := ⟨_, rfl⟩
  rw [← hZ1] at m1 o1
  rw [← hZ2] at m2 o2
  have O1 := Lib.hid o1
  have O2 := Lib.hid o2
  clear o1 o2 hZ1 hZ2 hi hz0 hz1 hz2 hj hy0 hy1 hy2
  go_enter Try.func10, Try.ntmps10
  go_wp2
  go_region_held3 (fun _ => True) (trivial) (fail)
  go_wp2
  · refine bodyPost_ret (v := .tuple #[.agg #[.int .i64 1, .slice (some ⟨w.heap.size + 1, 0, none⟩) m m, .slice (some ⟨w.heap.size + 1 + 1, 0, none⟩) m m], .int .i64 0]) (by simp [results, Try.results10, go_sem]) rfl ⟨_, rfl, ⟨_, _, rfl, ?_, ?_⟩, by (repeat (first | (with_reducible exact Below.refl _ _) | (with_reducible assumption) | (with_reducible refine below_drewN ?_ _) | (with_reducible refine Below.drew ?_) | ((with_reducible refine Below.alloc ?_ ?_ _); rotate_left; focus (first | (with_reducible exact Nat.le_refl _) | omega | (simp; done) | (simp; omega))) | ((with_reducible refine Below.setCell (p := ⟨_, _, _⟩) ?_ ?_ _); rotate_left; focus (first | (with_reducible exact Nat.le_refl _) | omega | (simp; done) | (simp; omega)))))⟩
    · simp only [newL, List.length_replicate]
      have := O1.out (w.alloc (.cells #[.int .i64 1, .slice (some ⟨w.heap.size + 1, 0, none⟩) m m, .slice (some ⟨w.heap.size + 1 + 1, 0, none⟩) m m] 25))
      rw [World.size_alloc] at this
      exact owns_base (this.alloc _) (by omega)
    · simp only [newL, List.length_replicate]
      have := O2.out ((w.alloc (.cells #[.int .i64 1, .slice (some ⟨w.heap.size + 1, 0, none⟩) m m, .slice (some ⟨w.heap.size + 1 + 1, 0, none⟩) m m] 25)).alloc (.cells Z1 2))
      rw [World.size_alloc, World.size_alloc] at this
      exact owns_base this (by omega)
  · refine bodyPost_ret (v := .tuple #[.agg #[.int .i64 1, .slice (some ⟨w.heap.size + 1 + 1, 0, none⟩) m m, .slice (some ⟨w.heap.size + 1, 0, none⟩) m m], .int .i64 0]) (by simp [results, Try.results10, go_sem]) rfl ⟨_, rfl, ⟨_, _, rfl, ?_, ?_⟩, by (repeat (first | (with_reducible exact Below.refl _ _) | (with_reducible assumption) | (with_reducible refine below_drewN ?_ _) | (with_reducible refine Below.drew ?_) | ((with_reducible refine Below.alloc ?_ ?_ _); rotate_left; focus (first | (with_reducible exact Nat.le_refl _) | omega | (simp; done) | (simp; omega))) | ((with_reducible refine Below.setCell (p := ⟨_, _, _⟩) ?_ ?_ _); rotate_left; focus (first | (with_reducible exact Nat.le_refl _) | omega | (simp; done) | (simp; omega)))))⟩
    · simp only [newL, List.length_replicate]
      have := O1.out ((w.alloc (.cells #[.int .i64 1, .slice (some ⟨w.heap.size + 1 + 1, 0, none⟩) m m, .slice (some ⟨w.heap.size + 1, 0, none⟩) m m] 25)).alloc (.cells Z2 27))
      rw [World.size_alloc, World.size_alloc] at this
      exact owns_base this (by omega)
    · simp only [newL, List.length_replicate]
      have := O2.out (w.alloc (.cells #[.int .i64 1, .slice (some ⟨w.heap.size + 1 + 1, 0, none⟩) m m, .slice (some ⟨w.heap.size + 1, 0, none⟩) m m] 25))
      rw [World.size_alloc] at this
      exact owns_base (this.alloc _) (by omega)

set_option maxHeartbeats 1000000 in
theorem refNew_good (w : World) (m : Nat) (h1 : 1 ≤ m) (h2 : m ≤ 64) :
    Calls Try.prog 18 #[.int .i64 m] w fun e w' => ∃ r, e = .returned r ∧ LkOwn w' w.heap.size r (newL m) ∧ Below w.heap.size w w' := by
  obtain ⟨i0, hi, hz0, hz1, hz2⟩ := info_parts Try.infoI
  obtain ⟨j0, hj, hy0, hy1, hy2⟩ := info_parts Try.infoP
  have m1 : ∀ W : World, (Instr.makeSlice 22 (.int .i64 m) (.int .i64 m)).run Try.prog W = .ok (.slice (some ⟨W.heap.size, 0, none⟩) m m) (W.alloc (.cells (madeCells #[.int .i64 0] (m * 1)) 2)) := fun W => by
    have := run_make W 22 2 i0 _ Try.underlying22 hi hz0 .i64 .i64 m m (by omega) (by omega) (by rw [hz2]; omega) (by omega)
    rw [hz1] at this
    simpa [Value.cells] using this
  have m2 : ∀ W : World, (Instr.makeSlice 23 (.int .i64 m) (.int .i64 m)).run Try.prog W = .ok (.slice (some ⟨W.heap.size, 0, none⟩) m m) (W.alloc (.cells (madeCells #[.int .i64 0, .int .i64 0] (m * 2)) 27)) := fun W => by
    have := run_make W 23 27 j0 _ Try.underlying23 hj hy0 .i64 .i64 m m (by omega) (by omega) (by rw [hy2]; omega) (by omega)
    rw [hy1] at this
    simpa [Value.cells] using this
  have o1 := fun W : World => World.ownsRow_lit (w := W) (base := W.heap.size) (e := 2) (size := 1) (madeCells #[.int .i64 0] (m * 1)) m (Nat.le_refl _) (by unfold maxLen; omega) (size_madeCells _ _)
  have o2 := fun W : World => World.ownsRow_lit (w := W) (base := W.heap.size) (e := 27) (size := 2) (madeCells #[.int .i64 0, .int .i64 0] (m * 2)) m (Nat.le_refl _) (by unfold maxLen; omega) (size_madeCells _ _)
  rw [← flat_zeroI] at o1
  rw [← flat_zeroP] at o2
  obtain ⟨Z1, hZ1⟩ : ∃ Z, Z = madeCells #[.int .i64 0] (m * 1) := ⟨_, rfl⟩
  obtain ⟨Z2, hZ2⟩ : ∃ Z, Z = madeCells #[.int .i64 0, .int .i64 0] (m * 2) := ⟨_, rfl⟩
  rw [← hZ1] at m1 o1
  rw [← hZ2] at m2 o2
  have O1 := Lib.hid o1
  have O2 := Lib.hid o2
  clear o1 o2 hZ1 hZ2 hi hz0 hz1 hz2 hj hy0 hy1 hy2
  go_enter Try.func18, Try.ntmps18
  go_wp2
  go_region_held3 (fun _ => True) (trivial) (fail)
  go_wp2
  · refine bodyPost_ret (v := .agg #[.int .i64 1, .slice (some ⟨w.heap.size + 1, 0, none⟩) m m, .slice (some ⟨w.heap.size + 1 + 1, 0, none⟩) m m]) (by simp [results, Try.results18, go_sem]) rfl ⟨_, rfl, ⟨_, _, rfl, ?_, ?_⟩, by (repeat (first | (with_reducible exact Below.refl _ _) | (with_reducible assumption) | (with_reducible refine below_drewN ?_ _) | (with_reducible refine Below.drew ?_) | ((with_reducible refine Below.alloc ?_ ?_ _); rotate_left; focus (first | (with_reducible exact Nat.le_refl _) | omega | (simp; done) | (simp; omega))) | ((with_reducible refine Below.setCell (p := ⟨_, _, _⟩) ?_ ?_ _); rotate_left; focus (first | (with_reducible exact Nat.le_refl _) | omega | (simp; done) | (simp; omega)))))⟩
    · simp only [newL, List.length_replicate]
      have := O1.out (w.alloc (.cells #[.int .i64 1, .slice (some ⟨w.heap.size + 1, 0, none⟩) m m, .slice (some ⟨w.heap.size + 1 + 1, 0, none⟩) m m] 25))
      rw [World.size_alloc] at this
      exact owns_base (this.alloc _) (by omega)
    · simp only [newL, List.length_replicate]
      have := O2.out ((w.alloc (.cells #[.int .i64 1, .slice (some ⟨w.heap.size + 1, 0, none⟩) m m, .slice (some ⟨w.heap.size + 1 + 1, 0, none⟩) m m] 25)).alloc (.cells Z1 2))
      rw [World.size_alloc, World.size_alloc] at this
      exact owns_base this (by omega)
  · refine bodyPost_ret (v := .agg #[.int .i64 1, .slice (some ⟨w.heap.size + 1 + 1, 0, none⟩) m m, .slice (some ⟨w.heap.size + 1, 0, none⟩) m m]) (by simp [results, Try.results18, go_sem]) rfl ⟨_, rfl, ⟨_, _, rfl, ?_, ?_⟩, by (repeat (first | (with_reducible exact Below.refl _ _) | (with_reducible assumption) | (with_reducible refine below_drewN ?_ _) | (with_reducible refine Below.drew ?_) | ((with_reducible refine Below.alloc ?_ ?_ _); rotate_left; focus (first | (with_reducible exact Nat.le_refl _) | omega | (simp; done) | (simp; omega))) | ((with_reducible refine Below.setCell (p := ⟨_, _, _⟩) ?_ ?_ _); rotate_left; focus (first | (with_reducible exact Nat.le_refl _) | omega | (simp; done) | (simp; omega)))))⟩
    · simp only [newL, List.length_replicate]
      have := O1.out ((w.alloc (.cells #[.int .i64 1, .slice (some ⟨w.heap.size + 1 + 1, 0, none⟩) m m, .slice (some ⟨w.heap.size + 1, 0, none⟩) m m] 25)).alloc (.cells Z2 27))
      rw [World.size_alloc, World.size_alloc] at this
      exact owns_base this (by omega)
    · simp only [newL, List.length_replicate]
      have := O2.out (w.alloc (.cells #[.int .i64 1, .slice (some ⟨w.heap.size + 1 + 1, 0, none⟩) m m, .slice (some ⟨w.heap.size + 1, 0, none⟩) m m] 25))
      rw [World.size_alloc] at this
      exact owns_base (this.alloc _) (by omega)

set_option maxHeartbeats 1000000 in
theorem new_bad (w : World) (n : Int) (h : nodesB n = false) :
    Calls Try.prog 10 #[.int .i64 n] w fun e w' => ∃ r, e = .returned (.tuple #[r, .int .i64 2]) ∧ LkOwn w' w.heap.size r noL ∧ Below w.heap.size w w' := by
  have h' : n < 1 ∨ 64 < n := by
    unfold nodesB at h; simp at h; omega
  rcases h' with h1 | h1
  all_goals
    clear h
    go_enter Try.func10, Try.ntmps10
    go_wp2
    refine bodyPost_ret (v := .tuple #[.agg #[.int .i64 0, .slice none 0 0, .slice none 0 0], .int .i64 2]) (by simp [results, Try.results10, go_sem]) rfl ⟨_, rfl, ⟨_, _, rfl, World.ownsRow_nil _ _ _ _, World.ownsRow_nil _ _ _ _⟩, by (repeat (first | (with_reducible exact Below.refl _ _) | (with_reducible assumption) | (with_reducible refine below_drewN ?_ _) | (with_reducible refine Below.drew ?_) | ((with_reducible refine Below.alloc ?_ ?_ _); rotate_left; focus (first | (with_reducible exact Nat.le_refl _) | omega | (simp; done) | (simp; omega))) | ((with_reducible refine Below.setCell (p := ⟨_, _, _⟩) ?_ ?_ _); rotate_left; focus (first | (with_reducible exact Nat.le_refl _) | omega | (simp; done) | (simp; omega)))))⟩

set_option maxHeartbeats 1000000 in
theorem copy_any (w : World) (v : Value) (l : Lk) (ho : l.out.length ≤ 1099511627776) (hi : l.inn.length ≤ 1099511627776) (hl : LkR w v l) :
    Calls Try.prog 19 #[v] w fun e w' => ∃ r, e = .returned r ∧ LkOwn w' w.heap.size r l ∧ Below w.heap.size w w' := by
  obtain ⟨s1, s2, rfl, h1, h2⟩ := hl
  obtain ⟨i0, hi0, hz0, hz1, hz2⟩ := info_parts Try.infoI
  obtain ⟨j0, hj0, hy0, hy1, hy2⟩ := info_parts Try.infoP
  have h1' := h1
  have h2' := h2
  obtain ⟨a1, c1, rfl⟩ := h1'.shape
  obtain ⟨a2, c2, rfl⟩ := h2'.shape
  clear h1' h2'
  go_enter Try.func19, Try.ntmps19
  go_wp2
  obtain ⟨W, hW⟩ : ∃ W, W = ((w.alloc (.cells #[.int .i64 l.inc, .slice a1 l.out.length c1, .slice a2 l.inn.length c2] 25)).alloc (.cells #[.int .i64 0, .slice none 0 0, .slice none 0 0] 25)) := ⟨_, rfl⟩
  have hB : Below w.heap.size w W := by rw [hW]; (repeat (first | (with_reducible exact Below.refl _ _) | (with_reducible assumption) | (with_reducible refine below_drewN ?_ _) | (with_reducible refine Below.drew ?_) | ((with_reducible refine Below.alloc ?_ ?_ _); rotate_left; focus (first | (with_reducible exact Nat.le_refl _) | omega | (simp; done) | (simp; omega))) | ((with_reducible refine Below.setCell (p := ⟨_, _, _⟩) ?_ ?_ _); rotate_left; focus (first | (with_reducible exact Nat.le_refl _) | omega | (simp; done) | (simp; omega)))))
  have hsz : w.heap.size + 1 < W.heap.size := by rw [hW]; simp
  have hszw : w.heap.size < W.heap.size := by omega
  have c0 : W.cell? ⟨w.heap.size, 0, none⟩ = some (.int .i64 l.inc) := by rw [hW, World.cell?_alloc_past _ _ _ (by simp), World.cell?_alloc_at _ _ _ _ rfl]; rfl
  have c1' : W.cell? ⟨w.heap.size, 1, none⟩ = some (.slice a1 l.out.length c1) := by rw [hW, World.cell?_alloc_past _ _ _ (by simp), World.cell?_alloc_at _ _ _ _ rfl]; rfl
  have c2' : W.cell? ⟨w.heap.size, 2, none⟩ = some (.slice a2 l.inn.length c2) := by rw [hW, World.cell?_alloc_past _ _ _ (by simp), World.cell?_alloc_at _ _ _ _ rfl]; rfl
  have d0 : W.cell? ⟨w.heap.size + 1, 0, none⟩ = some (.int .i64 0) := by rw [hW, World.cell?_alloc_at _ _ _ _ (by simp)]; rfl
  have d1 : W.cell? ⟨w.heap.size + 1, 1, none⟩ = some (.slice none 0 0) := by rw [hW, World.cell?_alloc_at _ _ _ _ (by simp)]; rfl
  have d2 : W.cell? ⟨w.heap.size + 1, 2, none⟩ = some (.slice none 0 0) := by rw [hW, World.cell?_alloc_at _ _ _ _ (by simp)]; rfl
  have d3 : ∀ i, W.frozen? ⟨w.heap.size + 1, i, none⟩ = false := fun i => by rw [hW, World.frozen?_alloc_at _ _ _ _ (by simp)]
  rw [← hW]
  clear hW
  have p1 := (owns_new0 W W.heap.size 2 1 (Nat.le_refl _)).drew
  have p2 := ((owns_new0 W W.heap.size 2 1 (Nat.le_refl _)).alloc (.cells #[] 27)).drew
  have p3 := (owns_new0 (W.alloc (.cells #[] 27)) W.heap.size 2 1 (by simp)).drew
  have q1 : ∀ wA : World, W.heap.size ≤ wA.heap.size → (wA.alloc (.cells #[] 27)).ownsRow W.heap.size 27 2 (.slice (some ⟨wA.heap.size, 0, none⟩) 0 0) 0 [] := fun wA h => owns_new0 wA _ _ _ h
  have q2 := (owns_new0 (W.alloc (.cells #[] 2)) W.heap.size 27 2 (by simp)).drew
  have q3 := ((owns_new0 W W.heap.size 27 2 (Nat.le_refl _)).alloc (.cells #[] 2)).drew
  rw [World.size_alloc] at p3 q2
  have P1 := Lib.hid p1
  have P2 := Lib.hid p2
  have P3 := Lib.hid p3
  have Q1 := Lib.hid q1
  have Q2 : Hid (∀ wA : World, World.grownBy _ wA (some W.heap.size) → wA.ownsRow W.heap.size 27 2 _ 0 []) := fun wA hg => q2.kept hg (.inr (by simp [Value.ownBlock]))
  have Q3 : Hid (∀ wA : World, World.grownBy _ wA (some (W.heap.size + 1)) → wA.ownsRow W.heap.size 27 2 _ 0 []) := fun wA hg => q3.kept hg (.inr (by simp [Value.ownBlock]))
  clear p1 p2 p3 q1 q2 q3
  go_region_held3 (fun w' => w'.cell? ⟨w.heap.size, 0, none⟩ = some (.int .i64 l.inc) ∧ w'.cell? ⟨w.heap.size, 1, none⟩ = some (.slice a1 l.out.length c1) ∧ w'.cell? ⟨w.heap.size, 2, none⟩ = some (.slice a2 l.inn.length c2)) (go_keep)
    (first
      | (refine step_copy_sl _ rfl (.tmp 5) (.tmp 7) 22 rfl 2 i0 (.int .i64 0) 1 8 Try.underlying22 hi0 hz0 hz1 hz2 rfl (by decide) encI_len W (W.heap.size) a1 c1 l.out encI_one ho (by decide) ?_ ?_ ?_ ?_ ?_ ?_ ?_
         · rfl
         · rfl
         · first | exact Nat.le_refl _ | exact Nat.le_add_right _ _
         · repeat (first | (with_reducible exact Below.refl _ _) | (with_reducible assumption) | (with_reducible refine below_drewN ?_ _) | (with_reducible refine Below.drew ?_) | ((with_reducible refine Below.alloc ?_ ?_ _); rotate_left; focus (first | (with_reducible exact Nat.le_refl _) | omega | (simp; done) | (simp; omega))) | ((with_reducible refine Below.setCell (p := ⟨_, _, _⟩) ?_ ?_ _); rotate_left; focus (first | (with_reducible exact Nat.le_refl _) | omega | (simp; done) | (simp; omega))))
         · first | exact P1.out | exact P2.out | exact P3.out
         · refine h1.below ?_
           repeat (first | (with_reducible exact Below.refl _ _) | (with_reducible assumption) | (with_reducible refine below_drewN ?_ _) | (with_reducible refine Below.drew ?_) | ((with_reducible refine Below.alloc ?_ ?_ _); rotate_left; focus (first | (with_reducible exact Nat.le_refl _) | omega | (simp; done) | (simp; omega))) | ((with_reducible refine Below.setCell (p := ⟨_, _, _⟩) ?_ ?_ _); rotate_left; focus (first | (with_reducible exact Nat.le_refl _) | omega | (simp; done) | (simp; omega))))
         intro aA cA wA ownA growA hA hszA
         have e0 := (hA.cell (p := ⟨w.heap.size, 0, none⟩) hszw).trans c0
         have e1 := (hA.cell (p := ⟨w.heap.size, 1, none⟩) hszw).trans c1'
         have e2 := (hA.cell (p := ⟨w.heap.size, 2, none⟩) hszw).trans c2'
         have OwnA := Lib.hid ownA
         have GrowA := Lib.hid growA
         clear ownA growA)
      | (refine step_copy_sl _ rfl (.tmp 5) (.tmp 7) 22 rfl 2 i0 (.int .i64 0) 1 8 Try.underlying22 hi0 hz0 hz1 hz2 rfl (by decide) encI_len W (W.heap.size + 1) a1 c1 l.out encI_one ho (by decide) ?_ ?_ ?_ ?_ ?_ ?_ ?_
         · rfl
         · rfl
         · first | exact Nat.le_refl _ | exact Nat.le_add_right _ _
         · repeat (first | (with_reducible exact Below.refl _ _) | (with_reducible assumption) | (with_reducible refine below_drewN ?_ _) | (with_reducible refine Below.drew ?_) | ((with_reducible refine Below.alloc ?_ ?_ _); rotate_left; focus (first | (with_reducible exact Nat.le_refl _) | omega | (simp; done) | (simp; omega))) | ((with_reducible refine Below.setCell (p := ⟨_, _, _⟩) ?_ ?_ _); rotate_left; focus (first | (with_reducible exact Nat.le_refl _) | omega | (simp; done) | (simp; omega))))
         · first | exact P1.out | exact P2.out | exact P3.out
         · refine h1.below ?_
           repeat (first | (with_reducible exact Below.refl _ _) | (with_reducible assumption) | (with_reducible refine below_drewN ?_ _) | (with_reducible refine Below.drew ?_) | ((with_reducible refine Below.alloc ?_ ?_ _); rotate_left; focus (first | (with_reducible exact Nat.le_refl _) | omega | (simp; done) | (simp; omega))) | ((with_reducible refine Below.setCell (p := ⟨_, _, _⟩) ?_ ?_ _); rotate_left; focus (first | (with_reducible exact Nat.le_refl _) | omega | (simp; done) | (simp; omega))))
         intro aA cA wA ownA growA hA hszA
         have e0 := (hA.cell (p := ⟨w.heap.size, 0, none⟩) hszw).trans c0
         have e1 := (hA.cell (p := ⟨w.heap.size, 1, none⟩) hszw).trans c1'
         have e2 := (hA.cell (p := ⟨w.heap.size, 2, none⟩) hszw).trans c2'
         have OwnA := Lib.hid ownA
         have GrowA := Lib.hid growA
         clear ownA growA)
      | (refine step_copy_sl _ rfl (.tmp 9) (.tmp 11) 23 rfl 27 j0 (.agg #[.int .i64 0, .int .i64 0]) 2 16 Try.underlying23 hj0 hy0 hy1 hy2 rfl (by decide) encP_len W (wA.heap.size) a2 c2 l.inn encP_one hi (by decide) ?_ ?_ ?_ ?_ ?_ ?_ ?_
         · rfl
         · rfl
         · first | exact hszA | exact Nat.le_refl _ | exact Nat.le_add_right _ _
         · repeat (first | (with_reducible exact Below.refl _ _) | (with_reducible assumption) | (with_reducible refine below_drewN ?_ _) | (with_reducible refine Below.drew ?_) | ((with_reducible refine Below.alloc ?_ ?_ _); rotate_left; focus (first | (with_reducible exact Nat.le_refl _) | omega | (simp; done) | (simp; omega))) | ((with_reducible refine Below.setCell (p := ⟨_, _, _⟩) ?_ ?_ _); rotate_left; focus (first | (with_reducible exact Nat.le_refl _) | omega | (simp; done) | (simp; omega))))
         · first | exact Q1.out wA hszA | exact Q2.out wA GrowA.out | exact Q3.out wA GrowA.out
         · refine h2.below ?_
           refine hB.trans ?_
           refine Below.mono (B := W.heap.size) ?_ (Nat.le_of_lt hszw)
           repeat (first | (with_reducible exact Below.refl _ _) | (with_reducible assumption) | (with_reducible refine below_drewN ?_ _) | (with_reducible refine Below.drew ?_) | ((with_reducible refine Below.alloc ?_ ?_ _); rotate_left; focus (first | (with_reducible exact Nat.le_refl _) | omega | (simp; done) | (simp; omega))) | ((with_reducible refine Below.setCell (p := ⟨_, _, _⟩) ?_ ?_ _); rotate_left; focus (first | (with_reducible exact Nat.le_refl _) | omega | (simp; done) | (simp; omega))))
         intro aB cB wB ownB growB hD hszB
         have f0 := (hD.cell (p := ⟨w.heap.size, 0, none⟩) hszw).trans c0
         have f1 := (hD.cell (p := ⟨w.heap.size, 1, none⟩) hszw).trans c1'
         have f2 := (hD.cell (p := ⟨w.heap.size, 2, none⟩) hszw).trans c2'
         have g0 := (hD.cell (p := ⟨w.heap.size + 1, 0, none⟩) hsz).trans d0
         have g1 := (hD.cell (p := ⟨w.heap.size + 1, 1, none⟩) hsz).trans d1
         have g2 := (hD.cell (p := ⟨w.heap.size + 1, 2, none⟩) hsz).trans d2
         have g3 := (hD.frozen (p := ⟨w.heap.size + 1, 0, none⟩) hsz).trans (d3 0)
         have g4 := (hD.frozen (p := ⟨w.heap.size + 1, 1, none⟩) hsz).trans (d3 1)
         have g5 := (hD.frozen (p := ⟨w.heap.size + 1, 2, none⟩) hsz).trans (d3 2)
         have OwnA2 := Lib.hid ((OwnA.out.alloc _).kept growB (owns_ne (OwnA.out.alloc _) (Q1.out wA hszA) (by decide)))
         have OwnB := Lib.hid ownB
         clear ownB growB)
      | (refine step_copy_sl _ rfl (.tmp 9) (.tmp 11) 23 rfl 27 j0 (.agg #[.int .i64 0, .int .i64 0]) 2 16 Try.underlying23 hj0 hy0 hy1 hy2 rfl (by decide) encP_len W (W.heap.size + 1) a2 c2 l.inn encP_one hi (by decide) ?_ ?_ ?_ ?_ ?_ ?_ ?_
         · rfl
         · rfl
         · first | exact hszA | exact Nat.le_refl _ | exact Nat.le_add_right _ _
         · repeat (first | (with_reducible exact Below.refl _ _) | (with_reducible assumption) | (with_reducible refine below_drewN ?_ _) | (with_reducible refine Below.drew ?_) | ((with_reducible refine Below.alloc ?_ ?_ _); rotate_left; focus (first | (with_reducible exact Nat.le_refl _) | omega | (simp; done) | (simp; omega))) | ((with_reducible refine Below.setCell (p := ⟨_, _, _⟩) ?_ ?_ _); rotate_left; focus (first | (with_reducible exact Nat.le_refl _) | omega | (simp; done) | (simp; omega))))
         · first | exact Q1.out wA hszA | exact Q2.out wA GrowA.out | exact Q3.out wA GrowA.out
         · refine h2.below ?_
           refine hB.trans ?_
           refine Below.mono (B := W.heap.size) ?_ (Nat.le_of_lt hszw)
           repeat (first | (with_reducible exact Below.refl _ _) | (with_reducible assumption) | (with_reducible refine below_drewN ?_ _) | (with_reducible refine Below.drew ?_) | ((with_reducible refine Below.alloc ?_ ?_ _); rotate_left; focus (first | (with_reducible exact Nat.le_refl _) | omega | (simp; done) | (simp; omega))) | ((with_reducible refine Below.setCell (p := ⟨_, _, _⟩) ?_ ?_ _); rotate_left; focus (first | (with_reducible exact Nat.le_refl _) | omega | (simp; done) | (simp; omega))))
         intro aB cB wB ownB growB hD hszB
         have f0 := (hD.cell (p := ⟨w.heap.size, 0, none⟩) hszw).trans c0
         have f1 := (hD.cell (p := ⟨w.heap.size, 1, none⟩) hszw).trans c1'
         have f2 := (hD.cell (p := ⟨w.heap.size, 2, none⟩) hszw).trans c2'
         have g0 := (hD.cell (p := ⟨w.heap.size + 1, 0, none⟩) hsz).trans d0
         have g1 := (hD.cell (p := ⟨w.heap.size + 1, 1, none⟩) hsz).trans d1
         have g2 := (hD.cell (p := ⟨w.heap.size + 1, 2, none⟩) hsz).trans d2
         have g3 := (hD.frozen (p := ⟨w.heap.size + 1, 0, none⟩) hsz).trans (d3 0)
         have g4 := (hD.frozen (p := ⟨w.heap.size + 1, 1, none⟩) hsz).trans (d3 1)
         have g5 := (hD.frozen (p := ⟨w.heap.size + 1, 2, none⟩) hsz).trans (d3 2)
         have OwnA2 := Lib.hid (OwnA.out.kept growB (owns_ne OwnA.out (Q2.out wA GrowA.out) (by decide)))
         have OwnB := Lib.hid ownB
         clear ownB growB)
      | (refine step_copy_sl _ rfl (.tmp 9) (.tmp 11) 23 rfl 27 j0 (.agg #[.int .i64 0, .int .i64 0]) 2 16 Try.underlying23 hj0 hy0 hy1 hy2 rfl (by decide) encP_len W (W.heap.size) a2 c2 l.inn encP_one hi (by decide) ?_ ?_ ?_ ?_ ?_ ?_ ?_
         · rfl
         · rfl
         · first | exact hszA | exact Nat.le_refl _ | exact Nat.le_add_right _ _
         · repeat (first | (with_reducible exact Below.refl _ _) | (with_reducible assumption) | (with_reducible refine below_drewN ?_ _) | (with_reducible refine Below.drew ?_) | ((with_reducible refine Below.alloc ?_ ?_ _); rotate_left; focus (first | (with_reducible exact Nat.le_refl _) | omega | (simp; done) | (simp; omega))) | ((with_reducible refine Below.setCell (p := ⟨_, _, _⟩) ?_ ?_ _); rotate_left; focus (first | (with_reducible exact Nat.le_refl _) | omega | (simp; done) | (simp; omega))))
         · first | exact Q1.out wA hszA | exact Q2.out wA GrowA.out | exact Q3.out wA GrowA.out
         · refine h2.below ?_
           refine hB.trans ?_
           refine Below.mono (B := W.heap.size) ?_ (Nat.le_of_lt hszw)
           repeat (first | (with_reducible exact Below.refl _ _) | (with_reducible assumption) | (with_reducible refine below_drewN ?_ _) | (with_reducible refine Below.drew ?_) | ((with_reducible refine Below.alloc ?_ ?_ _); rotate_left; focus (first | (with_reducible exact Nat.le_refl _) | omega | (simp; done) | (simp; omega))) | ((with_reducible refine Below.setCell (p := ⟨_, _, _⟩) ?_ ?_ _); rotate_left; focus (first | (with_reducible exact Nat.le_refl _) | omega | (simp; done) | (simp; omega))))
         intro aB cB wB ownB growB hD hszB
         have f0 := (hD.cell (p := ⟨w.heap.size, 0, none⟩) hszw).trans c0
         have f1 := (hD.cell (p := ⟨w.heap.size, 1, none⟩) hszw).trans c1'
         have f2 := (hD.cell (p := ⟨w.heap.size, 2, none⟩) hszw).trans c2'
         have g0 := (hD.cell (p := ⟨w.heap.size + 1, 0, none⟩) hsz).trans d0
         have g1 := (hD.cell (p := ⟨w.heap.size + 1, 1, none⟩) hsz).trans d1
         have g2 := (hD.cell (p := ⟨w.heap.size + 1, 2, none⟩) hsz).trans d2
         have g3 := (hD.frozen (p := ⟨w.heap.size + 1, 0, none⟩) hsz).trans (d3 0)
         have g4 := (hD.frozen (p := ⟨w.heap.size + 1, 1, none⟩) hsz).trans (d3 1)
         have g5 := (hD.frozen (p := ⟨w.heap.size + 1, 2, none⟩) hsz).trans (d3 2)
         have OwnA2 := Lib.hid (OwnA.out.kept growB (owns_ne OwnA.out (Q3.out wA GrowA.out) (by decide)))
         have OwnB := Lib.hid ownB
         clear ownB growB))
  all_goals go_wp2
  all_goals
    refine bodyPost_ret (v := .agg #[.int .i64 l.inc, .slice aA l.out.length cA, .slice aB l.inn.length cB]) (by simp [results, Try.results19, go_sem, g0, g1, g2]) rfl ⟨_, rfl, ⟨_, _, rfl, ?_, ?_⟩, ?_⟩
    · exact owns_base (ownsRow_setCell_below (ownsRow_setCell_below (ownsRow_setCell_below OwnA2.out (by first | omega | (simp; done) | (simp; omega) | (dsimp only; omega)) _) (by first | omega | (simp; done) | (simp; omega) | (dsimp only; omega)) _) (by first | omega | (simp; done) | (simp; omega) | (dsimp only; omega)) _) (by first | omega | (simp; done) | (simp; omega) | (dsimp only; omega))
    · exact owns_base (ownsRow_setCell_below (ownsRow_setCell_below (ownsRow_setCell_below OwnB.out (by first | omega | (simp; done) | (simp; omega) | (dsimp only; omega)) _) (by first | omega | (simp; done) | (simp; omega) | (dsimp only; omega)) _) (by first | omega | (simp; done) | (simp; omega) | (dsimp only; omega)) _) (by first | omega | (simp; done) | (simp; omega) | (dsimp only; omega))
    · exact (((hB.trans (hD.mono (by first | omega | (simp; done) | (simp; omega) | (dsimp only; omega)))).setCell (by simp) _).setCell (by simp) _).setCell (by simp) _

end Go.Proofs.Ytijifbkikgooiaa
