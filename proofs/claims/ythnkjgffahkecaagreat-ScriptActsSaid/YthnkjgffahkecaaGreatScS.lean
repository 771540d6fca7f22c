/- Acts, plain: the reference's reader reads what the program reads. -/
import Derived.Test.YthnkjgffahkecaaGreatScR
namespace Go.Proofs.YthnkjgffahkecaaGreat
open Go.RowKit Go.Shelf

def outR (p : Rd × Ac) : Option (Ac × List Int) := bif p.1.2 then none else some (p.2, p.1.1)
theorem sub0 (z : Int) : z - 1 - 0 + 1 = z := by omega
theorem byP_of (z : Int) : byP (z - 128) = if 128 ≤ z then z - 127 else z - 128 := by
  unfold byP
  split <;> split <;> omega
set_option maxHeartbeats 2000000 in
theorem refAsk_parse {n l s : Int} (bs : List Int) (hb : ∀ b ∈ bs, 0 ≤ b ∧ b ≤ 255) : outR (if 2 ≤ (0 : Int) ∧ (0 : Int) ≤ 4 then ((nextX 256 (bs, false)).1, ⟨0 + 1, 0, (nextX 256 (bs, false)).2, 0, ask0 0, 0, 0⟩) else
    ((refAskX l s (nextX n (bs, false)).1).1, ⟨0 + 1, (nextX n (bs, false)).2, 0, 0, (refAskX l s (nextX n (bs, false)).1).2, 0, 0⟩)) = stepA n l s 7 0 ⟨0 + 1, 0, 0, 0, ask0 0, 0, 0⟩ bs := by
  rw [if_neg (by decide)]
  rcases bs with _ | ⟨b1, bs⟩
  · simp [outR, refAskX, nextX, stepA, namedS]
  rcases bs with _ | ⟨b2, bs⟩
  · simp [outR, refAskX, nextX, stepA, namedS, sNodes]
  have hb0 := hb b2 (by simp)
  have hz : b2.tmod 7 = 0 ∨ b2.tmod 7 = 1 ∨ b2.tmod 7 = 2 ∨ b2.tmod 7 = 3 ∨ b2.tmod 7 = 4 ∨ b2.tmod 7 = 5 ∨ b2.tmod 7 = 6 := by
    have := Int.tmod_nonneg 7 hb0.1; have := Int.tmod_lt_of_pos b2 (show (0 : Int) < 7 by omega); omega
  have e : nextX n (b1 :: b2 :: bs, false) = ((b2 :: bs, false), b1.tmod n) := rfl
  have e2 : nextX 7 (b2 :: bs, false) = ((bs, false), b2.tmod 7) := rfl
  simp only [e, refAskX, e2]
  rcases hz with hz | hz | hz | hz | hz | hz | hz <;> rw [hz]
  all_goals (rcases bs with _ | ⟨b3, bs⟩ <;> try (rcases bs with _ | ⟨b4, bs⟩ <;> try (rcases bs with _ | ⟨b5, bs⟩ <;> try rcases bs with _ | ⟨b6, bs⟩)))
  all_goals simp [outR, nextX, stepA, namedS, asksS, tickS, sNodes, sKind, sLocks, sModes, sPrios, sTicks, sSlots, sUses, sChanges, ask0, hz]
  rw [show ∀ z : Int, z + -128 = z - 128 from fun z => by omega, byP_of]
  by_cases h : (128 : Int) ≤ b6.tmod 256 <;> simp [h]
theorem refAct_parse {n l s : Int} (bs : List Int) (hb : ∀ b ∈ bs, 0 ≤ b ∧ b ≤ 255) : outR (refActX n l s (bs, false)) = parseA n l s bs := by
  cases bs with
  | nil => simp [outR, refActX, refAskX, nextX, parseA]
  | cons b bs =>
    have hb0 := hb b (List.mem_cons_self ..)
    have hz : b.tmod 8 = 0 ∨ b.tmod 8 = 1 ∨ b.tmod 8 = 2 ∨ b.tmod 8 = 3 ∨ b.tmod 8 = 4 ∨ b.tmod 8 = 5 ∨ b.tmod 8 = 6 ∨ b.tmod 8 = 7 := by
      have := Int.tmod_nonneg 8 hb0.1; have := Int.tmod_lt_of_pos b (show (0 : Int) < 8 by omega); omega
    simp only [outR, refActX, parseA]
    have e : nextX 8 (b :: bs, false) = ((bs, false), b.tmod 8) := rfl
    rw [e]
    rcases hz with hz | hz | hz | hz | hz | hz | hz | hz <;> rw [hz] <;> simp only [act0]
    · exact refAsk_parse bs fun b h => hb b (List.mem_cons_of_mem _ h)
    all_goals (rcases bs with _ | ⟨b1, bs⟩ <;> try rcases bs with _ | ⟨b2, bs⟩)
    all_goals simp [nextX, stepA, namedS, sNodes, sPlaces, sStops, sKept, ask0]
    cases bs <;> rfl

end Go.Proofs.YthnkjgffahkecaaGreat
