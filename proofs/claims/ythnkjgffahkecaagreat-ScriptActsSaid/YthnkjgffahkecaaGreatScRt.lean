/- Acts, plain: bytes of acts read again. -/
import Derived.Test.YthnkjgffahkecaaGreatScStr
namespace Go.Proofs.YthnkjgffahkecaaGreat
open Go.RowKit Go.Shelf

theorem w8_id {z : Int} (h0 : 0 ≤ z) (h1 : z ≤ 255) : w8 z = z := by simp [w8, IntKind.wrap_u8]; omega
theorem tm_id {z m : Int} (h0 : 0 ≤ z) (h1 : z < m) : z.tmod m = z := Int.tmod_eq_of_lt h0 h1
theorem wt {z m : Int} (h0 : 0 ≤ z) (h1 : z < m) (h2 : m ≤ 256) : (w8 z).tmod m = z := by rw [w8_id h0 (by omega), tm_id h0 h1]
set_option maxHeartbeats 2000000 in
theorem parse_bytes {n l s : Int} (hs : shapeB n l s = true) {a : Ac} (h : actB n l s a = true) (r : List Int) : parseA n l s (bytesX a ++ r) = some (a, r) := by
  obtain ⟨hk, hb, h3, h4, h5, h6, h7, h8⟩ := (actB_iff hs).1 h
  have hs2 := shapeB_is hs
  clear h
  obtain ⟨k, node, at_, num, ⟨q, lock, mode, prio, ticks, slot, use, chg⟩, k0, k1⟩ := a
  simp only at hk h3 h4 h5 h6 h7 h8
  have e1 : (w8 node).tmod n = node := wt h3.1 (by omega) (by omega)
  have e2 : (w8 at_).tmod 256 = at_ := wt h4.1 (by omega) (by omega)
  have e3 : (w8 num).tmod 256 = num := wt h5.1 (by omega) (by omega)
  have e4 : (w8 k0).tmod 256 = k0 := wt h6.1 (by omega) (by omega)
  have e5 : (w8 k1).tmod 256 = k1 := wt h7.1 (by omega) (by omega)
  have w : ∀ z : Int, 0 ≤ z → z < 8 → (w8 z).tmod 8 = z := fun z h0 h1 => wt h0 h1 (by omega)
  have v : ∀ z : Int, 0 ≤ z → z < 7 → (w8 z).tmod 7 = z := fun z h0 h1 => wt h0 h1 (by omega)
  have hz : k = 1 ∨ k = 2 ∨ k = 3 ∨ k = 4 ∨ k = 5 ∨ k = 6 ∨ k = 7 ∨ k = 8 := by omega
  rcases hz with rfl | rfl | rfl | rfl | rfl | rfl | rfl | rfl
  · obtain ⟨hA, h9, h10, h11, h12⟩ := h8 rfl
    have hA2 := hA
    unfold askB at hA2
    have hq : (1 ≤ q ∧ q ≤ 7) ∧ 0 ≤ lock ∧ lock < l := by
      simp only [Bool.and_eq_true, decide_eq_true_eq] at hA2
      omega
    have f1 : (w8 lock).tmod l = lock := wt hq.2.1 hq.2.2 (by omega)
    have hz : q = 1 ∨ q = 2 ∨ q = 3 ∨ q = 4 ∨ q = 5 ∨ q = 6 ∨ q = 7 := by omega
    simp [bareX] at hb
    rcases hz with rfl | rfl | rfl | rfl | rfl | rfl | rfl
    all_goals simp [hs] at hA2
    · have f2 : (w8 (mode - 1)).tmod 5 = mode - 1 := wt (by omega) (by omega) (by omega)
      have f3 : (w8 prio).tmod 4 = prio := wt (by omega) (by omega) (by omega)
      have f4 : (w8 ticks).tmod 256 = ticks := wt (by omega) (by omega) (by omega)
      simp [bytesX, parseA, stepA, namedS, asksS, sNodes, sKind, sLocks, sModes, sPrios, sTicks, act0, ask0, w, v, e1, f1, f2, f3, f4, hb, hA2]
    · have f2 : (w8 (mode - 1)).tmod 5 = mode - 1 := wt (by omega) (by omega) (by omega)
      have f3 : (w8 prio).tmod 4 = prio := wt (by omega) (by omega) (by omega)
      simp [bytesX, parseA, stepA, namedS, asksS, sNodes, sKind, sLocks, sModes, sPrios, act0, ask0, w, v, e1, f1, f2, f3, hb, hA2]
    rotate_right
    · have f2 : (w8 slot).tmod s = slot := wt (by omega) (by omega) (by omega)
      have f3 : (w8 (use - 1)).tmod 256 = use - 1 := wt (by omega) (by omega) (by omega)
      have f4 : byP ((byX chg).tmod 256 + -128) = chg := by
        unfold byX byP
        by_cases h0 : chg < 0
        · rw [if_pos h0, wt (by omega) (by omega) (by omega), if_neg (by omega)]; omega
        · rw [if_neg h0, wt (by omega) (by omega) (by omega), if_pos (by omega)]; omega
      simp [bytesX, parseA, stepA, namedS, asksS, tickS, sNodes, sKind, sLocks, sSlots, sUses, sChanges, act0, ask0, w, v, e1, f1, f2, f3, f4, hb, hA2]
    all_goals
      have f2 : (w8 slot).tmod s = slot := wt (by omega) (by omega) (by omega)
      have f3 : (w8 (use - 1)).tmod 256 = use - 1 := wt (by omega) (by omega) (by omega)
      simp [bytesX, parseA, stepA, namedS, asksS, tickS, sNodes, sKind, sLocks, sSlots, sUses, act0, ask0, w, v, e1, f1, f2, f3, hb, hA2]
  all_goals simp [bareX, ask0] at hb
  all_goals simp [bytesX, parseA, stepA, namedS, sNodes, sPlaces, sStops, sKept, act0, ask0, w, e1, e2, e3, e4, e5, hb]
theorem raw_pos {n l s : Int} (la : List Ac) : la.length ≤ (la.flatMap (rawA n l s)).length := by
  induction la with
  | nil => simp
  | cons a la ih =>
    rw [List.flatMap_cons, List.length_append, List.length_cons]
    have : 1 ≤ (rawA n l s a).length := by simp [rawA]
    omega
theorem runN_raw {n l s : Int} (hs : shapeB n l s = true) : ∀ {la : List Ac} {pre : List Int} {f : Nat}, (∀ a ∈ la, actB n l s a = true) → la.length ≤ f → (runN n l s (pre ++ la.flatMap (rawA n l s)) f pre.length).map Prod.snd = la := by
  intro la
  induction la with
  | nil =>
    intro pre f _ _
    cases f with
    | zero => rfl
    | succ f => rw [runN, List.flatMap_nil, List.append_nil, List.drop_length]; rfl
  | cons a la ih =>
    intro pre f h hf
    cases f with
    | zero => simp at hf
    | succ f =>
      have ha := h a (List.mem_cons_self ..)
      rw [runN, List.drop_left, List.flatMap_cons, ← bytes_raw hs ha, parse_bytes hs ha]
      dsimp only
      rw [List.map_cons]
      have e : (pre ++ (bytesX a ++ la.flatMap (rawA n l s))).length - (la.flatMap (rawA n l s)).length = (pre ++ bytesX a).length := by simp only [List.length_append]; omega
      rw [e, ← List.append_assoc, ih (fun b hb => h b (List.mem_cons_of_mem _ hb)) (by simpa using hf)]
theorem acts_raw {c : Cfg} (hc : cfgB c = true) {la : List Ac} (h : la.all (actB c.n c.l c.s) = true) : actsX c (la.flatMap (rawA c.n c.l c.s)) = la := by
  have hs : shapeB c.n c.l c.s = true := by simp only [cfgB, Bool.and_eq_true] at hc; exact hc.1.1.1.1.1.1.1
  have := runN_raw hs (la := la) (pre := []) (f := (la.flatMap (rawA c.n c.l c.s)).length) (fun a ha => List.all_eq_true.1 h a ha) (raw_pos la)
  rw [actsX, eachX, hc]
  exact this
theorem w8_bd (z : Int) : 0 ≤ w8 z ∧ w8 z ≤ 255 := by simp [w8, IntKind.wrap_u8']; omega
theorem raw_bd {n l s : Int} {la : List Ac} : ∀ b ∈ la.flatMap (rawA n l s), 0 ≤ b ∧ b ≤ 255 := by
  intro b hb
  obtain ⟨a, _, ha⟩ := List.mem_flatMap.1 hb
  unfold rawA rawP at ha
  rcases List.mem_cons.1 ha with rfl | ha
  · exact w8_bd _
  · obtain ⟨m, _, rfl⟩ := List.mem_map.1 ha
    exact w8_bd _

end Go.Proofs.YthnkjgffahkecaaGreat
