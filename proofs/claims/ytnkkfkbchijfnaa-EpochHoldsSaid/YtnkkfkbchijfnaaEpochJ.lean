/- Epochs: EpochHolds, for every input. -/
import Derived.Test.YtnkkfkbchijfnaaEpochI
namespace Go.Proofs.Ytnkkfkbchijfnaa
open Go.RowKit Go.Shelf

set_option maxRecDepth 100000 in
set_option maxHeartbeats 2000000 in
theorem holds_big (n l s a1 a2 b1 b2 c1 c2 : Int) (w : World) (ao : Option Addr) (m cap : Nat) (h : shapeB n l s = false ∨ 60 < m) :
    Calls Try.prog 4 #[.agg #[.int .i64 n, .int .i64 l, .int .i64 s], .agg #[.int .i64 a1, .int .i64 a2, .int .i64 b1, .int .i64 b2, .int .i64 c1, .int .i64 c2], .slice ao m cap] w fun e w' => e = .returned (.bool true) ∧ Below w.heap.size w w' := by
  have sc := fun W => refShape_any n l s W
  cases hs : shapeB n l s
  all_goals
    rw [hs] at sc
    have SC := Lib.hid sc
    have H60 := Lib.hid (show shapeB n l s = true → decide (60 < m) = true by intro h'; simp [h'] at h; simpa using h)
    rw [hs] at H60
  · clear sc hs h
    go_enter Try.func4, Try.ntmps4
    go_wp2_with fail
    refine (SC.out _).mono ?_
    rintro e V1 ⟨rfl, hB1⟩
    have E := Below.trans (by (repeat (first | (with_reducible exact Below.refl _ _) | (with_reducible assumption) | (with_reducible refine below_drewN ?_ _) | (with_reducible refine Below.drew ?_) | ((with_reducible refine Below.alloc ?_ ?_ _); rotate_left; focus (first | (with_reducible exact Nat.le_refl _) | omega | (simp; done) | (simp; omega))) | ((with_reducible refine Below.setCell (p := ⟨_, _, _⟩) ?_ ?_ _); rotate_left; focus (first | (with_reducible exact Nat.le_refl _) | omega | (simp; done) | (simp; omega)))))) (hB1.mono (by simp; omega)) (a := w) (B := w.heap.size)
    clear hB1
    go_wp2_with fail
    refine (works_any V1).mono ?_
    rintro e V2 ⟨rfl, hB2⟩
    go_wp2
    go_ret
    exact ⟨rfl, E.trans (hB2.mono E.size)⟩
  · have h60 : 60 < m := by simpa using H60.out rfl
    clear sc hs h H60
    go_enter Try.func4, Try.ntmps4
    go_wp2_with fail
    refine (SC.out _).mono ?_
    rintro e V1 ⟨rfl, hB1⟩
    have E := Below.trans (by (repeat (first | (with_reducible exact Below.refl _ _) | (with_reducible assumption) | (with_reducible refine below_drewN ?_ _) | (with_reducible refine Below.drew ?_) | ((with_reducible refine Below.alloc ?_ ?_ _); rotate_left; focus (first | (with_reducible exact Nat.le_refl _) | omega | (simp; done) | (simp; omega))) | ((with_reducible refine Below.setCell (p := ⟨_, _, _⟩) ?_ ?_ _); rotate_left; focus (first | (with_reducible exact Nat.le_refl _) | omega | (simp; done) | (simp; omega)))))) (hB1.mono (by simp; omega)) (a := w) (B := w.heap.size)
    clear hB1
    go_wp2_with fail
    refine (works_any V1).mono ?_
    rintro e V2 ⟨rfl, hB2⟩
    go_wp2
    go_ret
    exact ⟨rfl, E.trans (hB2.mono E.size)⟩

theorem holds_all (n l s a1 a2 b1 b2 c1 c2 : Int) (w : World) (sv : Value) (xs : List (Bool × Int × Int)) (hS : Sl encA 3 w sv xs) :
    Calls Try.prog 4 #[.agg #[.int .i64 n, .int .i64 l, .int .i64 s], .agg #[.int .i64 a1, .int .i64 a2, .int .i64 b1, .int .i64 b2, .int .i64 c1, .int .i64 c2], sv] w fun e w' => e = .returned (.bool true) ∧ Below w.heap.size w w' := by
  by_cases h : shapeB n l s = true ∧ xs.length ≤ 60
  · exact holds_small n l s a1 a2 b1 b2 c1 c2 w sv xs h.2 hS h.1
  · obtain ⟨a, c, rfl⟩ := hS.shape
    refine holds_big n l s a1 a2 b1 b2 c1 c2 w a _ c ?_
    cases hs : shapeB n l s
    · exact .inl rfl
    · exact .inr (by simp [hs] at h; exact h)

end Go.Proofs.Ytnkkfkbchijfnaa
