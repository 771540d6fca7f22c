/- Acts, plain: which are right. -/
import Derived.Test.YthnkjgffahkecaaGreatScV
namespace Go.Proofs.YthnkjgffahkecaaGreat
open Go.RowKit Go.Shelf

def sideP (n l s : Int) (a : Ac) : Prop := (0 ≤ a.node ∧ a.node ≤ n - 1) ∧ (0 ≤ a.at_ ∧ a.at_ ≤ 255) ∧ (0 ≤ a.num ∧ a.num ≤ 255) ∧ (0 ≤ a.k0 ∧ a.k0 ≤ 255) ∧ (0 ≤ a.k1 ∧ a.k1 ≤ 255) ∧ (a.kind = 1 → askB n l s a.ask = true ∧ a.ask.ticks ≤ 255 ∧ a.ask.use ≤ 256 ∧ -128 ≤ a.ask.chg ∧ a.ask.chg ≤ 128)
theorem outBd_f {a b c : Int} : outBd (a, b, c) = false ↔ b ≤ a ∧ a ≤ c := by
  have := outBd_no a b c
  cases h : outBd (a, b, c) <;> rw [h] at this <;> simp at this ⊢ <;> omega
theorem okA_cond {b : Bool} {x : Option Ac} {a : Ac} : okA (bif b then none else x) a = true ↔ b = false ∧ okA x a = true := by cases b <;> simp [okA]
theorem okA_some {x a : Ac} : okA (some x) a = actEq x a := rfl
theorem actEq_iff {x y : Ac} : actEq x y = true ↔ x = y := by
  obtain ⟨k, node, at_, num, ⟨q, lock, mode, prio, ticks, slot, use, chg⟩, k0, k1⟩ := x
  obtain ⟨k', node', at_', num', ⟨q', lock', mode', prio', ticks', slot', use', chg'⟩, k0', k1'⟩ := y
  simp [actEq, and_assoc]
set_option maxHeartbeats 2000000 in
theorem actB_iff {n l s : Int} (hs : shapeB n l s = true) {a : Ac} : actB n l s a = true ↔ (1 ≤ a.kind ∧ a.kind ≤ 8) ∧ a = bareX a ∧ sideP n l s a := by
  have hs2 := shapeB_is hs
  obtain ⟨k, node, at_, num, ⟨q, lock, mode, prio, ticks, slot, use, chg⟩, k0, k1⟩ := a
  simp only [actB, Bool.and_eq_true, inB_iff]
  by_cases hk : 1 ≤ k ∧ k ≤ 8
  rotate_left
  · simp [hk]
  have hz : k = 1 ∨ k = 2 ∨ k = 3 ∨ k = 4 ∨ k = 5 ∨ k = 6 ∨ k = 7 ∨ k = 8 := by omega
  rcases hz with rfl | rfl | rfl | rfl | rfl | rfl | rfl | rfl
  · by_cases hA : askB n l s ⟨q, lock, mode, prio, ticks, slot, use, chg⟩ = true
    rotate_left
    · simp [hA, sideP]
    have hq : 1 ≤ q ∧ q ≤ 7 := by
      unfold askB at hA
      simp only [Bool.and_eq_true, decide_eq_true_eq] at hA
      omega
    have hz : q = 1 ∨ q = 2 ∨ q = 3 ∨ q = 4 ∨ q = 5 ∨ q = 6 ∨ q = 7 := by omega
    have hA2 := hA
    unfold askB at hA2
    rcases hz with rfl | rfl | rfl | rfl | rfl | rfl | rfl
    all_goals simp only [hA, sideP]
    all_goals simp [hs] at hA2
    all_goals simp [namedS, asksS, tickS, runA, okA_cond, outBd_f, okA_some, actEq_iff, sNodes, sKind, sLocks, sModes, sPrios, sTicks, sSlots, sUses, sChanges, act0, bareX, ask0, byP, byG]
    all_goals clear hA hs
    rotate_right
    · by_cases h0 : 0 < chg
      · have h1 : 0 ≤ chg - 1 := by omega
        simp only [if_pos h0, if_pos h1]
        constructor <;> intro h <;> (repeat' apply And.intro) <;> first | trivial | omega
      · have h1 : ¬ 0 ≤ chg := by omega
        simp only [if_neg h0, if_neg h1]
        constructor <;> intro h <;> (repeat' apply And.intro) <;> first | trivial | omega
    all_goals constructor <;> intro h <;> (repeat' apply And.intro) <;> first | trivial | omega
  all_goals simp [namedS, runA, okA_cond, outBd_f, okA_some, actEq_iff, sNodes, sPlaces, sStops, sKept, act0, bareX, sideP, ask0]
  all_goals clear hs
  all_goals constructor <;> intro h <;> (repeat' apply And.intro) <;> first | trivial | omega

end Go.Proofs.YthnkjgffahkecaaGreat
