/- Link: few. -/
import Derived.Test.YtijifbkikgooiaaLinkO
namespace Go.Proofs.Ytijifbkikgooiaa
open Go.RowKit Go.Shelf

set_option maxHeartbeats 1000000 in
theorem few_any (w : World) (i : Value) (a b : Option Addr) (n m c d : Nat) : Calls Try.prog 8 #[.agg #[i, .slice a n c, .slice b m d]] w fun e w' => e = .returned (.bool (decide (n ≤ 100) && decide (m ≤ 100))) ∧ Below w.heap.size w w' := by
  go_enter Try.func8, Try.ntmps8
  go_wp2
  all_goals (refine bodyPost_ret (v := .bool (decide (n ≤ 100) && decide (m ≤ 100))) ?_ rfl ⟨rfl, by go_light; (repeat (first | (with_reducible exact Below.refl _ _) | (with_reducible assumption) | (with_reducible refine below_drewN ?_ _) | (with_reducible refine Below.drew ?_) | ((with_reducible refine Below.alloc ?_ ?_ _); rotate_left; focus (first | (with_reducible exact Nat.le_refl _) | omega | (simp; done) | (simp; omega))) | ((with_reducible refine Below.setCell (p := ⟨_, _, _⟩) ?_ ?_ _); rotate_left; focus (first | (with_reducible exact Nat.le_refl _) | omega | (simp; done) | (simp; omega)))))⟩)
  all_goals (simp [results, Try.results8, go_sem])
  all_goals (first | omega | (rw [Bool.eq_iff_iff]; simp; omega) | grind)
end Go.Proofs.Ytijifbkikgooiaa
