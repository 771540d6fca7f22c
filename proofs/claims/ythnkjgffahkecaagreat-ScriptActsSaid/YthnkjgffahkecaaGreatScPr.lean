/- Acts, plain: acts that are read are right. -/
import Derived.Test.YthnkjgffahkecaaGreatScRw
namespace Go.Proofs.YthnkjgffahkecaaGreat
open Go.RowKit Go.Shelf

theorem tm_bd {z m : Int} (h0 : 0 ≤ z) (hm : 0 < m) : 0 ≤ z.tmod m ∧ z.tmod m < m := ⟨Int.tmod_nonneg _ h0, Int.tmod_lt_of_pos _ hm⟩
set_option maxHeartbeats 2000000 in
theorem parse_right {n l s : Int} (hs : shapeB n l s = true) {bs : List Int} (hb : ∀ b ∈ bs, 0 ≤ b ∧ b ≤ 255) {x : Ac} {r : List Int} (h : parseA n l s bs = some (x, r)) : actB n l s x = true := by
  have hs2 := shapeB_is hs
  cases bs with
  | nil => simp [parseA] at h
  | cons b bs =>
    have hb0 := hb b (List.mem_cons_self ..)
    have hk := tm_bd (m := 8) hb0.1 (by omega)
    have hz : b.tmod 8 = 0 ∨ b.tmod 8 = 1 ∨ b.tmod 8 = 2 ∨ b.tmod 8 = 3 ∨ b.tmod 8 = 4 ∨ b.tmod 8 = 5 ∨ b.tmod 8 = 6 ∨ b.tmod 8 = 7 := by omega
    rw [actB_iff hs]
    simp only [parseA] at h
    rcases hz with hz | hz | hz | hz | hz | hz | hz | hz <;> rw [hz] at h <;> simp only [act0] at h
    · rcases bs with _ | ⟨b1, bs⟩
      · simp [stepA, namedS] at h
      rcases bs with _ | ⟨b2, bs⟩
      · simp [stepA, namedS, sNodes, ask0] at h
      have t1 := tm_bd (m := n) (hb b1 (by simp)).1 (by omega)
      have t2 := tm_bd (m := 7) (hb b2 (by simp)).1 (by omega)
      have hq : b2.tmod 7 = 0 ∨ b2.tmod 7 = 1 ∨ b2.tmod 7 = 2 ∨ b2.tmod 7 = 3 ∨ b2.tmod 7 = 4 ∨ b2.tmod 7 = 5 ∨ b2.tmod 7 = 6 := by omega
      rcases hq with hq | hq | hq | hq | hq | hq | hq
      all_goals (rcases bs with _ | ⟨b3, bs⟩ <;> try (rcases bs with _ | ⟨b4, bs⟩ <;> try (rcases bs with _ | ⟨b5, bs⟩ <;> try rcases bs with _ | ⟨b6, bs⟩)))
      all_goals simp [stepA, namedS, asksS, tickS, sNodes, sKind, sLocks, sModes, sPrios, sTicks, sSlots, sUses, sChanges, ask0, hq] at h
      all_goals (obtain ⟨rfl, rfl⟩ := h)
      all_goals refine ⟨by simp, by simp [bareX], ?_⟩
      all_goals simp [sideP, askB, hs]
      all_goals (try have t3 := tm_bd (m := l) (hb b3 (by simp)).1 (by omega))
      all_goals (try have t4 := tm_bd (m := 5) (hb b4 (by simp)).1 (by omega))
      all_goals (try have t5 := tm_bd (m := s) (hb b4 (by simp)).1 (by omega))
      all_goals (try have t6 := tm_bd (m := 4) (hb b5 (by simp)).1 (by omega))
      all_goals (try have t7 := tm_bd (m := 256) (hb b5 (by simp)).1 (by omega))
      all_goals (try have t8 := tm_bd (m := 256) (hb b6 (by simp)).1 (by omega))
      all_goals (first | omega | (unfold byP; split <;> (refine ⟨?_, ?_⟩ <;> (try simp) <;> omega)))
    all_goals (rcases bs with _ | ⟨b1, bs⟩ <;> try (rcases bs with _ | ⟨b2, bs⟩ <;> try rcases bs with _ | ⟨b3, bs⟩))
    all_goals simp [stepA, namedS, sNodes, sPlaces, sStops, sKept, ask0] at h
    all_goals (obtain ⟨rfl, rfl⟩ := h)
    all_goals refine ⟨by simp, by simp [bareX, ask0], ?_⟩
    all_goals simp only [sideP]
    all_goals (have t1n := tm_bd (m := n) (hb b1 (by simp)).1 (by omega); have t1 := tm_bd (m := 256) (hb b1 (by simp)).1 (by omega))
    all_goals (try have t2 := tm_bd (m := 256) (hb b2 (by simp)).1 (by omega))
    all_goals (try have t3 := tm_bd (m := 256) (hb b3 (by simp)).1 (by omega))
    all_goals refine ⟨⟨?_, ?_⟩, ⟨?_, ?_⟩, ⟨?_, ?_⟩, ⟨?_, ?_⟩, ⟨?_, ?_⟩, fun e => absurd e (by decide)⟩ <;> omega

theorem runN_right {n l s : Int} (hs : shapeB n l s = true) {bs : List Int} (hb : ∀ b ∈ bs, 0 ≤ b ∧ b ≤ 255) : ∀ {f at_ : Nat} {p : Nat × Ac}, p ∈ runN n l s bs f at_ → actB n l s p.2 = true := by
  intro f
  induction f with
  | zero => intro at_ p hp; simp [runN] at hp
  | succ f ih =>
    intro at_ p hp
    unfold runN at hp
    split at hp
    · simp at hp
    · rename_i x r h
      rcases List.mem_cons.1 hp with rfl | hp
      · exact parse_right hs (fun b hx => hb b (List.mem_of_mem_drop hx)) h
      · exact ih hp
theorem acts_right {c : Cfg} {bs : List Int} (hb : ∀ b ∈ bs, 0 ≤ b ∧ b ≤ 255) {x : Ac} (hx : x ∈ actsX c bs) : cfgB c = true ∧ actB c.n c.l c.s x = true := by
  unfold actsX eachX at hx
  cases hc : cfgB c
  · rw [hc] at hx; simp at hx
  · rw [hc] at hx
    obtain ⟨p, hp, rfl⟩ := List.mem_map.1 hx
    have hs : shapeB c.n c.l c.s = true := by simp only [cfgB, Bool.and_eq_true] at hc; exact hc.1.1.1.1.1.1.1
    exact ⟨rfl, runN_right hs hb hp⟩
theorem actB_ok2 {n l s : Int} (hs : shapeB n l s = true) {a : Ac} (h : actB n l s a = true) : AcOk2 a := by
  have h1 := actB_kind h
  obtain ⟨_, hb, _, _, _, _, _, h7⟩ := (actB_iff hs).1 h
  refine ⟨?_, by omega⟩
  by_cases hk : a.kind = 1
  · have := h7 hk; omega
  · have hc : a.ask.chg = 0 := by
      rw [hb]; unfold bareX
      rw [if_neg hk]
      split
      · rfl
      · split
        · rfl
        · split <;> rfl
    omega
theorem acts_ok2 {c : Cfg} {bs : List Int} (hb : ∀ b ∈ bs, 0 ≤ b ∧ b ≤ 255) : ∀ x ∈ actsX c bs, AcOk2 x := fun x hx => by
  obtain ⟨hc, h⟩ := acts_right hb hx
  have hs : shapeB c.n c.l c.s = true := by simp only [cfgB, Bool.and_eq_true] at hc; exact hc.1.1.1.1.1.1.1
  exact actB_ok2 hs h
theorem deliver_right {n l s : Int} (hs : shapeB n l s = true) : actB n l s ⟨3, 0, 0, 0, ask0 0, 0, 0⟩ = true := by
  have hs2 := shapeB_is hs
  rw [actB_iff hs]
  refine ⟨by simp, by simp [bareX], ?_⟩
  simp only [sideP]
  refine ⟨⟨?_, ?_⟩, ⟨?_, ?_⟩, ⟨?_, ?_⟩, ⟨?_, ?_⟩, ⟨?_, ?_⟩, fun e => absurd e (by decide)⟩ <;> omega

end Go.Proofs.YthnkjgffahkecaaGreat
