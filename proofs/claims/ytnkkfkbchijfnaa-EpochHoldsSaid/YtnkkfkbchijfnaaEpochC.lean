/- Epochs: Check, Next, the reference's Next; the latest of none. -/
import Derived.Test.YtnkkfkbchijfnaaEpochB
import Derived.RangeFuncNested
import Derived.RangeFuncBound
import Derived.RangeFuncCalls
import Derived.RangeFuncLeaves
import Derived.OwnWalkIn
import Derived.TacticsInMore
import Derived.LoopNIn
import Derived.LoopIn
namespace Go.Proofs.Ytnkkfkbchijfnaa
open Go.RowKit Go.Shelf

set_option maxHeartbeats 400000 in
theorem shape_any (w : World) :
    Calls Try.prog 20 #[] w fun e w' => e = .returned (.agg #[.int .i64 3, .int .i64 1, .int .i64 1]) ∧ Below w.heap.size w w' := by
  go_enter Try.func20, Try.ntmps20
  go_wp2
  refine bodyPost_ret (v := .agg #[.int .i64 3, .int .i64 1, .int .i64 1]) (by simp [results, Try.results20, go_sem]) rfl ⟨rfl, by (repeat (first | (with_reducible exact Below.refl _ _) | (with_reducible assumption) | (with_reducible refine below_drewN ?_ _) | (with_reducible refine Below.drew ?_) | ((with_reducible refine Below.alloc ?_ ?_ _); rotate_left; focus (first | (with_reducible exact Nat.le_refl _) | omega | (simp; done) | (simp; omega))) | ((with_reducible refine Below.setCell (p := ⟨_, _, _⟩) ?_ ?_ _); rotate_left; focus (first | (with_reducible exact Nat.le_refl _) | omega | (simp; done) | (simp; omega)))))⟩

set_option maxHeartbeats 1000000 in
theorem check_is {n l s a b : Int} {r : Bool} (h : epR n l s (a, b) = r) (w : World) :
    Calls Try.prog 15 #[.agg #[.int .i64 n, .int .i64 l, .int .i64 s], .agg #[.int .i64 a, .int .i64 b]] w fun e w' => e = .returned (.int .i64 (if r = true then 0 else 2)) ∧ Below w.heap.size w w' := by
  have HR := Lib.hid (one_of h)
  clear h
  cases r
  all_goals
    go_enter Try.func15, Try.ntmps15
    go_wp2_with fail
    refine (right_is HR.out (by simp) _ _ (Sl.lit1P (by go_simp) (by go_simp))).mono ?_
    rintro e W1 ⟨rfl, hB1⟩
    have hB : Below w.heap.size w W1 := (Below.trans (by (repeat (first | (with_reducible exact Below.refl _ _) | (with_reducible assumption) | (with_reducible refine below_drewN ?_ _) | (with_reducible refine Below.drew ?_) | ((with_reducible refine Below.alloc ?_ ?_ _); rotate_left; focus (first | (with_reducible exact Nat.le_refl _) | omega | (simp; done) | (simp; omega))) | ((with_reducible refine Below.setCell (p := ⟨_, _, _⟩) ?_ ?_ _); rotate_left; focus (first | (with_reducible exact Nat.le_refl _) | omega | (simp; done) | (simp; omega)))))) (hB1.mono (by simp; try omega)))
    go_wp2
    go_ret
    exact ⟨rfl, hB⟩

set_option maxRecDepth 100000 in
set_option maxHeartbeats 1000000 in
theorem next_bad (n l s a b me : Int) (w : World) (h : (epR n l s (a, b) && epR n l s (0, me)) = false) :
    Calls Try.prog 14 #[.agg #[.int .i64 n, .int .i64 l, .int .i64 s], .agg #[.int .i64 a, .int .i64 b], .int .i64 me] w (NextPost w (((0, 0), 2))) := by
  have HR := Lib.hid (two_of h)
  clear h
  go_enter Try.func14, Try.ntmps14
  go_wp2_with fail
  refine (right_is HR.out (by simp) _ _ (Sl.lit2P (by go_simp) (by go_simp) (by go_simp) (by go_simp))).mono ?_
  rintro e W1 ⟨rfl, hB1⟩
  obtain ⟨chB1, fhB1⟩ := bcell hB1
  have zhB1 := hB1.size
  (try simp at zhB1)
  have hB : Below w.heap.size w W1 := (Below.trans (by (repeat (first | (with_reducible exact Below.refl _ _) | (with_reducible assumption) | (with_reducible refine below_drewN ?_ _) | (with_reducible refine Below.drew ?_) | ((with_reducible refine Below.alloc ?_ ?_ _); rotate_left; focus (first | (with_reducible exact Nat.le_refl _) | omega | (simp; done) | (simp; omega))) | ((with_reducible refine Below.setCell (p := ⟨_, _, _⟩) ?_ ?_ _); rotate_left; focus (first | (with_reducible exact Nat.le_refl _) | omega | (simp; done) | (simp; omega)))))) (hB1.mono (by simp; try omega)))
  go_wp2
  refine bodyPost_ret (v := .tuple #[.agg #[.int .i64 0, .int .i64 0], .int .i64 2]) (by simp [results, Try.results14, go_sem, chB1]) rfl ⟨rfl, ?_⟩
  go_light
  (repeat (first | (with_reducible exact Below.refl _ _) | (with_reducible assumption) | (with_reducible refine below_drewN ?_ _) | (with_reducible refine Below.drew ?_) | ((with_reducible refine Below.alloc ?_ ?_ _); rotate_left; focus (first | (with_reducible exact Nat.le_refl _) | omega | (simp; done) | (simp; omega))) | ((with_reducible refine Below.setCell (p := ⟨_, _, _⟩) ?_ ?_ _); rotate_left; focus (first | (with_reducible exact Nat.le_refl _) | omega | (simp; done) | (simp; omega)))))

set_option maxRecDepth 100000 in
set_option maxHeartbeats 1000000 in
theorem next_max (n l s a b me : Int) (w : World) (h : (epR n l s (a, b) && epR n l s (0, me)) = true) (hm : 1099511627776 ≤ a) :
    Calls Try.prog 14 #[.agg #[.int .i64 n, .int .i64 l, .int .i64 s], .agg #[.int .i64 a, .int .i64 b], .int .i64 me] w (NextPost w (((0, 0), 260))) := by
  have HR := Lib.hid (two_of h)
  clear h
  go_enter Try.func14, Try.ntmps14
  go_wp2_with fail
  refine (right_is HR.out (by simp) _ _ (Sl.lit2P (by go_simp) (by go_simp) (by go_simp) (by go_simp))).mono ?_
  rintro e W1 ⟨rfl, hB1⟩
  obtain ⟨chB1, fhB1⟩ := bcell hB1
  have zhB1 := hB1.size
  (try simp at zhB1)
  have hB : Below w.heap.size w W1 := (Below.trans (by (repeat (first | (with_reducible exact Below.refl _ _) | (with_reducible assumption) | (with_reducible refine below_drewN ?_ _) | (with_reducible refine Below.drew ?_) | ((with_reducible refine Below.alloc ?_ ?_ _); rotate_left; focus (first | (with_reducible exact Nat.le_refl _) | omega | (simp; done) | (simp; omega))) | ((with_reducible refine Below.setCell (p := ⟨_, _, _⟩) ?_ ?_ _); rotate_left; focus (first | (with_reducible exact Nat.le_refl _) | omega | (simp; done) | (simp; omega)))))) (hB1.mono (by simp; try omega)))
  go_wp2
  refine bodyPost_ret (v := .tuple #[.agg #[.int .i64 0, .int .i64 0], .int .i64 260]) (by simp [results, Try.results14, go_sem, chB1]) rfl ⟨rfl, ?_⟩
  go_light
  (repeat (first | (with_reducible exact Below.refl _ _) | (with_reducible assumption) | (with_reducible refine below_drewN ?_ _) | (with_reducible refine Below.drew ?_) | ((with_reducible refine Below.alloc ?_ ?_ _); rotate_left; focus (first | (with_reducible exact Nat.le_refl _) | omega | (simp; done) | (simp; omega))) | ((with_reducible refine Below.setCell (p := ⟨_, _, _⟩) ?_ ?_ _); rotate_left; focus (first | (with_reducible exact Nat.le_refl _) | omega | (simp; done) | (simp; omega)))))

set_option maxRecDepth 100000 in
set_option maxHeartbeats 1000000 in
theorem next_ok (n l s a b me : Int) (w : World) (h : (epR n l s (a, b) && epR n l s (0, me)) = true) (hm : a < 1099511627776) (h0 : 0 ≤ a) :
    Calls Try.prog 14 #[.agg #[.int .i64 n, .int .i64 l, .int .i64 s], .agg #[.int .i64 a, .int .i64 b], .int .i64 me] w (NextPost w (((a + 1, me), 0))) := by
  have HR := Lib.hid (two_of h)
  clear h
  go_enter Try.func14, Try.ntmps14
  go_wp2_with fail
  refine (right_is HR.out (by simp) _ _ (Sl.lit2P (by go_simp) (by go_simp) (by go_simp) (by go_simp))).mono ?_
  rintro e W1 ⟨rfl, hB1⟩
  obtain ⟨chB1, fhB1⟩ := bcell hB1
  have zhB1 := hB1.size
  (try simp at zhB1)
  have hB : Below w.heap.size w W1 := (Below.trans (by (repeat (first | (with_reducible exact Below.refl _ _) | (with_reducible assumption) | (with_reducible refine below_drewN ?_ _) | (with_reducible refine Below.drew ?_) | ((with_reducible refine Below.alloc ?_ ?_ _); rotate_left; focus (first | (with_reducible exact Nat.le_refl _) | omega | (simp; done) | (simp; omega))) | ((with_reducible refine Below.setCell (p := ⟨_, _, _⟩) ?_ ?_ _); rotate_left; focus (first | (with_reducible exact Nat.le_refl _) | omega | (simp; done) | (simp; omega)))))) (hB1.mono (by simp; try omega)))
  go_wp2
  refine bodyPost_ret (v := .tuple #[.agg #[.int .i64 (a + 1), .int .i64 me], .int .i64 0]) (by simp [results, Try.results14, go_sem, chB1]) rfl ⟨rfl, ?_⟩
  go_light
  (repeat (first | (with_reducible exact Below.refl _ _) | (with_reducible assumption) | (with_reducible refine below_drewN ?_ _) | (with_reducible refine Below.drew ?_) | ((with_reducible refine Below.alloc ?_ ?_ _); rotate_left; focus (first | (with_reducible exact Nat.le_refl _) | omega | (simp; done) | (simp; omega))) | ((with_reducible refine Below.setCell (p := ⟨_, _, _⟩) ?_ ?_ _); rotate_left; focus (first | (with_reducible exact Nat.le_refl _) | omega | (simp; done) | (simp; omega)))))

set_option maxRecDepth 100000 in
set_option maxHeartbeats 1000000 in
theorem rnext_bad1 (n l s a b me : Int) (w : World) (h : epR n l s (a, b) = false) :
    Calls Try.prog 16 #[.agg #[.int .i64 n, .int .i64 l, .int .i64 s], .agg #[.int .i64 a, .int .i64 b], .int .i64 me] w (NextPost w (((0, 0), 2))) := by
  have HR := Lib.hid h
  clear h
  go_enter Try.func16, Try.ntmps16
  go_wp2_with fail
  refine (refRight_is HR.out _).mono ?_
  rintro e W1 ⟨rfl, hB1⟩
  obtain ⟨chB1, fhB1⟩ := bcell hB1
  have zhB1 := hB1.size
  (try simp at zhB1)
  have hB : Below w.heap.size w W1 := (Below.trans (by (repeat (first | (with_reducible exact Below.refl _ _) | (with_reducible assumption) | (with_reducible refine below_drewN ?_ _) | (with_reducible refine Below.drew ?_) | ((with_reducible refine Below.alloc ?_ ?_ _); rotate_left; focus (first | (with_reducible exact Nat.le_refl _) | omega | (simp; done) | (simp; omega))) | ((with_reducible refine Below.setCell (p := ⟨_, _, _⟩) ?_ ?_ _); rotate_left; focus (first | (with_reducible exact Nat.le_refl _) | omega | (simp; done) | (simp; omega)))))) (hB1.mono (by simp; try omega)))
  go_wp2
  refine bodyPost_ret (v := .tuple #[.agg #[.int .i64 0, .int .i64 0], .int .i64 2]) (by simp [results, Try.results16, go_sem, chB1]) rfl ⟨rfl, ?_⟩
  go_light
  (repeat (first | (with_reducible exact Below.refl _ _) | (with_reducible assumption) | (with_reducible refine below_drewN ?_ _) | (with_reducible refine Below.drew ?_) | ((with_reducible refine Below.alloc ?_ ?_ _); rotate_left; focus (first | (with_reducible exact Nat.le_refl _) | omega | (simp; done) | (simp; omega))) | ((with_reducible refine Below.setCell (p := ⟨_, _, _⟩) ?_ ?_ _); rotate_left; focus (first | (with_reducible exact Nat.le_refl _) | omega | (simp; done) | (simp; omega)))))

set_option maxRecDepth 100000 in
set_option maxHeartbeats 1000000 in
theorem rnext_bad2 (n l s a b me : Int) (w : World) (h : epR n l s (a, b) = true) (h1 : me < 0) :
    Calls Try.prog 16 #[.agg #[.int .i64 n, .int .i64 l, .int .i64 s], .agg #[.int .i64 a, .int .i64 b], .int .i64 me] w (NextPost w (((0, 0), 2))) := by
  have HR := Lib.hid h
  clear h
  go_enter Try.func16, Try.ntmps16
  go_wp2_with fail
  refine (refRight_is HR.out _).mono ?_
  rintro e W1 ⟨rfl, hB1⟩
  obtain ⟨chB1, fhB1⟩ := bcell hB1
  have zhB1 := hB1.size
  (try simp at zhB1)
  have hB : Below w.heap.size w W1 := (Below.trans (by (repeat (first | (with_reducible exact Below.refl _ _) | (with_reducible assumption) | (with_reducible refine below_drewN ?_ _) | (with_reducible refine Below.drew ?_) | ((with_reducible refine Below.alloc ?_ ?_ _); rotate_left; focus (first | (with_reducible exact Nat.le_refl _) | omega | (simp; done) | (simp; omega))) | ((with_reducible refine Below.setCell (p := ⟨_, _, _⟩) ?_ ?_ _); rotate_left; focus (first | (with_reducible exact Nat.le_refl _) | omega | (simp; done) | (simp; omega)))))) (hB1.mono (by simp; try omega)))
  go_wp2
  refine bodyPost_ret (v := .tuple #[.agg #[.int .i64 0, .int .i64 0], .int .i64 2]) (by simp [results, Try.results16, go_sem, chB1]) rfl ⟨rfl, ?_⟩
  go_light
  (repeat (first | (with_reducible exact Below.refl _ _) | (with_reducible assumption) | (with_reducible refine below_drewN ?_ _) | (with_reducible refine Below.drew ?_) | ((with_reducible refine Below.alloc ?_ ?_ _); rotate_left; focus (first | (with_reducible exact Nat.le_refl _) | omega | (simp; done) | (simp; omega))) | ((with_reducible refine Below.setCell (p := ⟨_, _, _⟩) ?_ ?_ _); rotate_left; focus (first | (with_reducible exact Nat.le_refl _) | omega | (simp; done) | (simp; omega)))))

set_option maxRecDepth 100000 in
set_option maxHeartbeats 1000000 in
theorem rnext_bad3 (n l s a b me : Int) (w : World) (h : epR n l s (a, b) = true) (h1 : n ≤ me) (h2 : decide (me < 0) = false) :
    Calls Try.prog 16 #[.agg #[.int .i64 n, .int .i64 l, .int .i64 s], .agg #[.int .i64 a, .int .i64 b], .int .i64 me] w (NextPost w (((0, 0), 2))) := by
  have HR := Lib.hid h
  clear h
  go_enter Try.func16, Try.ntmps16
  go_wp2_with fail
  refine (refRight_is HR.out _).mono ?_
  rintro e W1 ⟨rfl, hB1⟩
  obtain ⟨chB1, fhB1⟩ := bcell hB1
  have zhB1 := hB1.size
  (try simp at zhB1)
  have hB : Below w.heap.size w W1 := (Below.trans (by (repeat (first | (with_reducible exact Below.refl _ _) | (with_reducible assumption) | (with_reducible refine below_drewN ?_ _) | (with_reducible refine Below.drew ?_) | ((with_reducible refine Below.alloc ?_ ?_ _); rotate_left; focus (first | (with_reducible exact Nat.le_refl _) | omega | (simp; done) | (simp; omega))) | ((with_reducible refine Below.setCell (p := ⟨_, _, _⟩) ?_ ?_ _); rotate_left; focus (first | (with_reducible exact Nat.le_refl _) | omega | (simp; done) | (simp; omega)))))) (hB1.mono (by simp; try omega)))
  go_wp2
  refine bodyPost_ret (v := .tuple #[.agg #[.int .i64 0, .int .i64 0], .int .i64 2]) (by simp [results, Try.results16, go_sem, chB1]) rfl ⟨rfl, ?_⟩
  go_light
  (repeat (first | (with_reducible exact Below.refl _ _) | (with_reducible assumption) | (with_reducible refine below_drewN ?_ _) | (with_reducible refine Below.drew ?_) | ((with_reducible refine Below.alloc ?_ ?_ _); rotate_left; focus (first | (with_reducible exact Nat.le_refl _) | omega | (simp; done) | (simp; omega))) | ((with_reducible refine Below.setCell (p := ⟨_, _, _⟩) ?_ ?_ _); rotate_left; focus (first | (with_reducible exact Nat.le_refl _) | omega | (simp; done) | (simp; omega)))))

set_option maxRecDepth 100000 in
set_option maxHeartbeats 1000000 in
theorem rnext_max (n l s a b me : Int) (w : World) (h : epR n l s (a, b) = true) (h2 : decide (me < 0) = false) (h3 : decide (n ≤ me) = false) (hm : a = 1099511627776) :
    Calls Try.prog 16 #[.agg #[.int .i64 n, .int .i64 l, .int .i64 s], .agg #[.int .i64 a, .int .i64 b], .int .i64 me] w (NextPost w (((0, 0), 260))) := by
  subst hm
  have HR := Lib.hid h
  clear h
  go_enter Try.func16, Try.ntmps16
  go_wp2_with fail
  refine (refRight_is HR.out _).mono ?_
  rintro e W1 ⟨rfl, hB1⟩
  obtain ⟨chB1, fhB1⟩ := bcell hB1
  have zhB1 := hB1.size
  (try simp at zhB1)
  have hB : Below w.heap.size w W1 := (Below.trans (by (repeat (first | (with_reducible exact Below.refl _ _) | (with_reducible assumption) | (with_reducible refine below_drewN ?_ _) | (with_reducible refine Below.drew ?_) | ((with_reducible refine Below.alloc ?_ ?_ _); rotate_left; focus (first | (with_reducible exact Nat.le_refl _) | omega | (simp; done) | (simp; omega))) | ((with_reducible refine Below.setCell (p := ⟨_, _, _⟩) ?_ ?_ _); rotate_left; focus (first | (with_reducible exact Nat.le_refl _) | omega | (simp; done) | (simp; omega)))))) (hB1.mono (by simp; try omega)))
  go_wp2
  refine bodyPost_ret (v := .tuple #[.agg #[.int .i64 0, .int .i64 0], .int .i64 260]) (by simp [results, Try.results16, go_sem, chB1]) rfl ⟨rfl, ?_⟩
  go_light
  (repeat (first | (with_reducible exact Below.refl _ _) | (with_reducible assumption) | (with_reducible refine below_drewN ?_ _) | (with_reducible refine Below.drew ?_) | ((with_reducible refine Below.alloc ?_ ?_ _); rotate_left; focus (first | (with_reducible exact Nat.le_refl _) | omega | (simp; done) | (simp; omega))) | ((with_reducible refine Below.setCell (p := ⟨_, _, _⟩) ?_ ?_ _); rotate_left; focus (first | (with_reducible exact Nat.le_refl _) | omega | (simp; done) | (simp; omega)))))

set_option maxRecDepth 100000 in
set_option maxHeartbeats 1000000 in
theorem rnext_ok (n l s a b me : Int) (w : World) (h : epR n l s (a, b) = true) (h2 : decide (me < 0) = false) (h3 : decide (n ≤ me) = false) (hm : a < 1099511627776)  (ha : 0 ≤ a) :
    Calls Try.prog 16 #[.agg #[.int .i64 n, .int .i64 l, .int .i64 s], .agg #[.int .i64 a, .int .i64 b], .int .i64 me] w (NextPost w (((a + 1, me), 0))) := by
  have HR := Lib.hid h
  clear h
  go_enter Try.func16, Try.ntmps16
  go_wp2_with fail
  refine (refRight_is HR.out _).mono ?_
  rintro e W1 ⟨rfl, hB1⟩
  obtain ⟨chB1, fhB1⟩ := bcell hB1
  have zhB1 := hB1.size
  (try simp at zhB1)
  have hB : Below w.heap.size w W1 := (Below.trans (by (repeat (first | (with_reducible exact Below.refl _ _) | (with_reducible assumption) | (with_reducible refine below_drewN ?_ _) | (with_reducible refine Below.drew ?_) | ((with_reducible refine Below.alloc ?_ ?_ _); rotate_left; focus (first | (with_reducible exact Nat.le_refl _) | omega | (simp; done) | (simp; omega))) | ((with_reducible refine Below.setCell (p := ⟨_, _, _⟩) ?_ ?_ _); rotate_left; focus (first | (with_reducible exact Nat.le_refl _) | omega | (simp; done) | (simp; omega)))))) (hB1.mono (by simp; try omega)))
  go_wp2
  refine bodyPost_ret (v := .tuple #[.agg #[.int .i64 (a + 1), .int .i64 me], .int .i64 0]) (by simp [results, Try.results16, go_sem, chB1]) rfl ⟨rfl, ?_⟩
  go_light
  (repeat (first | (with_reducible exact Below.refl _ _) | (with_reducible assumption) | (with_reducible refine below_drewN ?_ _) | (with_reducible refine Below.drew ?_) | ((with_reducible refine Below.alloc ?_ ?_ _); rotate_left; focus (first | (with_reducible exact Nat.le_refl _) | omega | (simp; done) | (simp; omega))) | ((with_reducible refine Below.setCell (p := ⟨_, _, _⟩) ?_ ?_ _); rotate_left; focus (first | (with_reducible exact Nat.le_refl _) | omega | (simp; done) | (simp; omega)))))

theorem next_any (n l s a b me : Int) (w : World) :
    Calls Try.prog 14 #[.agg #[.int .i64 n, .int .i64 l, .int .i64 s], .agg #[.int .i64 a, .int .i64 b], .int .i64 me] w (NextPost w (nextR n l s (a, b) me)) := by
  unfold nextR
  cases h1 : epR n l s (a, b)
  · rw [if_pos (.inl rfl)]; exact next_bad n l s a b me w (by rw [h1]; rfl)
  · cases h2 : epR n l s (0, me)
    · rw [if_pos (.inr rfl)]; exact next_bad n l s a b me w (by rw [h1, h2]; rfl)
    · rw [if_neg (by simp)]
      by_cases hm : 1099511627776 ≤ a
      · rw [if_pos hm]; exact next_max n l s a b me w (by rw [h1, h2]; rfl) hm
      · rw [if_neg hm]; exact next_ok n l s a b me w (by rw [h1, h2]; rfl) (by omega) (epR_count h1).1
theorem refNext_any (n l s a b me : Int) (w : World) :
    Calls Try.prog 16 #[.agg #[.int .i64 n, .int .i64 l, .int .i64 s], .agg #[.int .i64 a, .int .i64 b], .int .i64 me] w (NextPost w (nextR n l s (a, b) me)) := by
  unfold nextR
  cases h1 : epR n l s (a, b)
  · rw [if_pos (.inl rfl)]; exact rnext_bad1 n l s a b me w h1
  · have hs := epR_me (me := me) (epR_shape h1)
    by_cases h2 : me < 0
    · rw [if_pos (.inr (by rw [hs]; simp; omega))]; exact rnext_bad2 n l s a b me w h1 h2
    · by_cases h3 : n ≤ me
      · rw [if_pos (.inr (by rw [hs]; simp; omega))]; exact rnext_bad3 n l s a b me w h1 h3 (by simp; omega)
      · have hc := epR_count h1
        dsimp only at hc
        rw [if_neg (by rw [hs]; simp; omega)]
        by_cases hm : 1099511627776 ≤ a
        · rw [if_pos hm]; exact rnext_max n l s a b me w h1 (by simp; omega) (by simp; omega) (by omega)
        · rw [if_neg hm]; exact rnext_ok n l s a b me w h1 (by simp; omega) (by simp; omega) (by omega) hc.1

end Go.Proofs.Ytnkkfkbchijfnaa
