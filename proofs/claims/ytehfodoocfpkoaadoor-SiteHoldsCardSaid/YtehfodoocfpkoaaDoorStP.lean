/- Sites: no two tickets have one name, and Order is an order (plain); SiteHolds, by the symbolic run. -/
import Derived.Test.YtehfodoocfpkoaaDoorStO
import Derived.Test.YtehfodoocfpkoaaDoorStN
namespace Go.Proofs.YtehfodoocfpkoaaDoor
open Go.RowKit Go.Shelf

theorem name_inj {n l s : Int} {a b : Tk} (hs : shapeB n l s = true) (ha : tkB n l s a = true) (hb : tkB n l s b = true) : nameL a = nameL b ↔ a = b := by
  constructor
  · intro h
    have h1 := parX_name hs ha
    rw [h, parX_name hs hb] at h1
    exact (Prod.mk.inj h1).1.symm
  · rintro rfl; rfl
theorem ordX_zero (a b : Tk) : ordX a b = 0 ↔ a = b := by
  obtain ⟨a1, a2, a3, a4⟩ := a
  obtain ⟨b1, b2, b3, b4⟩ := b
  simp only [ordX, lexI, Prod.mk.injEq]
  constructor
  · intro h
    repeat' split at h
    all_goals first | omega | (simp at h)
  · rintro ⟨rfl, rfl, rfl, rfl⟩
    simp
theorem ordX_lt (a b c : Tk) : ordX a b < 0 → ordX b c < 0 → ordX a c < 0 := by
  obtain ⟨a1, a2, a3, a4⟩ := a
  obtain ⟨b1, b2, b3, b4⟩ := b
  obtain ⟨c1, c2, c3, c4⟩ := c
  simp only [ordX, lexI]
  intro h1 h2
  repeat' split at h1
  all_goals first | omega | skip
  all_goals (repeat' split at h2)
  all_goals first | omega | skip
  all_goals (repeat' split)
  all_goals omega
theorem ordX_gt (a b c : Tk) (h1 : 0 < ordX a b) (h2 : 0 < ordX b c) : 0 < ordX a c := by
  have e1 := ordX_swap a b
  have e2 := ordX_swap b c
  have e3 := ordX_swap a c
  have := ordX_lt c b a (by omega) (by omega)
  omega
theorem str_same {x y : Bs} {p : Prop} [Decidable p] (h : x = y ↔ p) : ((ByteArray.mk x.toArray).data.toList == (ByteArray.mk y.toArray).data.toList) = decide p := by
  show (x == y) = decide p
  by_cases hp : p
  · rw [decide_eq_true hp, h.2 hp]; exact beq_self_eq_true _
  · rw [decide_eq_false hp]; exact beq_eq_false_iff_ne.2 fun e => hp (h.1 e)
theorem texts_same (n l s : Int) (a b : Tk) : (0 ≤ (textX n l s a).2 ∧ (textX n l s a).2 ≤ 4) ∧ (0 ≤ (textX n l s b).2 ∧ (textX n l s b).2 ≤ 4) ∧ ((textX n l s a).2 + (textX n l s b).2 = 0 → ((textX n l s a).1 = (textX n l s b).1 ↔ a = b)) := by
  rcases textX_cases n l s a with ⟨hs, ha, _, h1⟩ | ⟨e, he, _, h1⟩ <;> rcases textX_cases n l s b with ⟨_, hb, _, h2⟩ | ⟨f, hf, _, h2⟩ <;> rw [h1, h2] <;> dsimp only
  · exact ⟨by omega, by omega, fun _ => name_inj hs ha hb⟩
  · exact ⟨by omega, by omega, fun h => by omega⟩
  · exact ⟨by omega, by omega, fun h => by omega⟩
  · exact ⟨by omega, by omega, fun h => by omega⟩

set_option maxRecDepth 20000 in
set_option maxHeartbeats 4000000 in
theorem holds_law (n l s : Int) (a b c : Tk) : Cm Tryd.prog 8 [.agg #[.int .i64 n, .int .i64 l, .int .i64 s], .agg (encT a ++ encT b ++ encT c).toArray] [] [libF] (rets (.bool true)) := by
  obtain ⟨a1, a2, a3, a4⟩ := a
  obtain ⟨b1, b2, b3, b4⟩ := b
  obtain ⟨c1, c2, c3, c4⟩ := c
  refine cm_of (tab := tb) (ok := tbOk) [.g [.v (.int .i64 n), .v (.int .i64 l), .v (.int .i64 s)], .g [.v (.int .i64 a1), .v (.int .i64 a2), .v (.int .i64 a3), .v (.int .i64 a4), .v (.int .i64 b1), .v (.int .i64 b2), .v (.int .i64 b3), .v (.int .i64 b4), .v (.int .i64 c1), .v (.int .i64 c2), .v (.int .i64 c3), .v (.int .i64 c4)]] Tryd.func8 Tryd.ntmps8 rfl rfl (fun _ _ => rfl) ?_
  intro w0 A0
  have k1 := text_c n l s (a1, a2, a3, a4)
  have k2 := text_c n l s (b1, b2, b3, b4)
  have k3 := order_c (a1, a2, a3, a4) (b1, b2, b3, b4)
  have k4 := order_c (b1, b2, b3, b4) (c1, c2, c3, c4)
  have k5 := order_c (a1, a2, a3, a4) (c1, c2, c3, c4)
  have hT := texts_same n l s (a1, a2, a3, a4) (b1, b2, b3, b4)
  have h0 := ordX_zero (a1, a2, a3, a4) (b1, b2, b3, b4)
  have h1 := ordX_lt (a1, a2, a3, a4) (b1, b2, b3, b4) (c1, c2, c3, c4)
  have h2 := ordX_gt (a1, a2, a3, a4) (b1, b2, b3, b4) (c1, c2, c3, c4)
  generalize textX n l s (a1, a2, a3, a4) = X at *
  generalize textX n l s (b1, b2, b3, b4) = Y at *
  obtain ⟨na, ea⟩ := X
  obtain ⟨nb, eb⟩ := Y
  dsimp only at hT k1 k2
  generalize ordX (a1, a2, a3, a4) (b1, b2, b3, b4) = x at *
  generalize ordX (b1, b2, b3, b4) (c1, c2, c3, c4) = y at *
  generalize ordX (a1, a2, a3, a4) (c1, c2, c3, c4) = z at *
  obtain ⟨⟨u1, u2⟩, ⟨u3, u4⟩, hT⟩ := hT
  refine ojs_indexA (i := 0) rfl (by decide) rfl rfl rfl rfl ?_
  refine ojs_call [] [] rfl rfl rfl rfl rfl rfl rfl (by simp) (fun _ => k1) (by simp) (.inl rfl) ?_
  rintro e cs F1 _ ⟨rfl, rfl⟩
  refine ojs_indexA (i := 1) rfl (by decide) rfl rfl rfl rfl ?_
  refine ojs_call [] [] rfl rfl rfl rfl rfl rfl rfl (by simp) (fun _ => k2) (by simp) (.inl rfl) ?_
  rintro e cs F1 _ ⟨rfl, rfl⟩
  refine ojs_call [] [] rfl rfl rfl rfl rfl rfl rfl (by simp) (fun _ => num_c ea) (by simp) (.inl rfl) ?_
  rintro e cs F1 _ ⟨rfl, rfl⟩
  refine ojs_call [] [] rfl rfl rfl rfl rfl rfl rfl (by simp) (fun _ => num_c eb) (by simp) (.inl rfl) ?_
  rintro e cs F1 _ ⟨rfl, rfl⟩
  refine ojs_arith (z := ea + eb) (by rw [wrap_in] <;> omega) rfl rfl rfl rfl ?_
  refine brB_dec (fun hz => ?_) (fun hz => ?_)
  · refine optK_of (yd_strEq (str_same (hT hz)) rfl rfl rfl) ?_
    refine ojs_indexA (i := 0) rfl (by decide) rfl rfl rfl rfl ?_
    refine ojs_indexA (i := 1) rfl (by decide) rfl rfl rfl rfl ?_
    refine optK_of (yd_binOp (u := tkV (a1, a2, a3, a4)) (v := tkV (b1, b2, b3, b4)) (r := .bool (decide ((a1, a2, a3, a4) = (b1, b2, b3, b4)))) rfl rfl rfl (fun _ => rfl) (fun _ => rfl) (guard_ticket _ _ _ _ _) (fun w => run_eq_ticket _ _ w)) ?_
    refine optK_of (yd_boolNe (r := false) (by kernel_rfl) (bne_self_eq_false _) rfl rfl rfl) ?_
    refine cjs_drawn [4, 9, 14] (.op 0 <| .op 1 <| .op 2 <| .op 3 <| .op 5 <| .op 6 <| .op 7 <| .op 8 <| .op 10 <| .op 11 <| .op 12 <| .op 13 <| .op 4 <| .op 9 <| .op 14 <| .op 15 <| .op 16 <| .op 17 .z) [0, 1] [] [2, 3] [libF] (by kernel_rfl) (by kernel_rfl) rfl (by simp) (by simp) ?_
    intro N
    refine ⟨_, yd_indexA (i := 0) rfl (by decide) rfl rfl rfl rfl, ?_⟩
    refine ⟨_, yd_indexA (i := 1) rfl (by decide) rfl rfl rfl rfl, ?_⟩
    refine ⟨_, yd_indexA (i := 1) rfl (by decide) rfl rfl rfl rfl, ?_⟩
    refine ⟨_, yd_indexA (i := 2) rfl (by decide) rfl rfl rfl rfl, ?_⟩
    refine ⟨_, yd_indexA (i := 0) rfl (by decide) rfl rfl rfl rfl, ?_⟩
    refine ⟨_, yd_indexA (i := 2) rfl (by decide) rfl rfl rfl rfl, ?_⟩
    refine ojs_call [] [] rfl rfl rfl rfl rfl rfl rfl (by simp) (fun _ => k3) (by simp) (.inl rfl) ?_
    rintro e cs F1 _ ⟨rfl, rfl⟩
    refine ⟨⟨(by repeat' (first | exact trivial | refine ⟨Or.inl rfl, ?_⟩ | refine ⟨Or.inr ⟨rfl, Nat.le_of_ble_eq_true rfl, _, rfl, rfl, rfl⟩, ?_⟩)), by simp⟩, ?_⟩
    refine ojs_call [] [] rfl rfl rfl rfl rfl rfl rfl (by simp) (fun _ => k4) (by simp) (.inl rfl) ?_
    rintro e cs F1 _ ⟨rfl, rfl⟩
    refine ⟨⟨(by repeat' (first | exact trivial | refine ⟨Or.inl rfl, ?_⟩ | refine ⟨Or.inr ⟨rfl, Nat.le_of_ble_eq_true rfl, _, rfl, rfl, rfl⟩, ?_⟩)), by simp⟩, ?_⟩
    refine ojs_call [] [] rfl rfl rfl rfl rfl rfl rfl (by simp) (fun _ => k5) (by simp) (.inl rfl) ?_
    rintro e cs F1 _ ⟨rfl, rfl⟩
    refine ⟨⟨(by repeat' (first | exact trivial | refine ⟨Or.inl rfl, ?_⟩ | refine ⟨Or.inr ⟨rfl, Nat.le_of_ble_eq_true rfl, _, rfl, rfl, rfl⟩, ?_⟩)), by simp⟩, ?_⟩
    refine ojs_indexA (i := 0) rfl (by decide) rfl rfl rfl rfl ?_
    refine ojs_indexA (i := 1) rfl (by decide) rfl rfl rfl rfl ?_
    refine optK_of (yd_binOp (u := tkV (a1, a2, a3, a4)) (v := tkV (b1, b2, b3, b4)) (r := .bool (decide ((a1, a2, a3, a4) = (b1, b2, b3, b4)))) rfl rfl rfl (fun _ => rfl) (fun _ => rfl) (guard_ticket _ _ _ _ _) (fun w => run_eq_ticket _ _ w)) ?_
    refine optK_of (yd_boolNe (r := false) (by kernel_rfl) (by rw [show (x == 0) = decide (x = 0) from rfl, decide_eq_decide.2 h0]; exact bne_self_eq_false _) rfl rfl rfl) ?_
    refine brB_dec (fun g1 => ?_) (fun g1 => ?_)
    · refine brB_dec (fun g2 => ?_) (fun g2 => ?_)
      · have g3 := h1 g1 g2
        refine brB_dec (fun g => absurd g (by omega)) (fun _ => ?_)
        refine brB_dec (fun g => absurd g (by omega)) (fun _ => ?_)
        refine ojs_call [] [] rfl rfl rfl rfl rfl rfl rfl (by simp) (fun _ => works_c) (by simp) (.inl rfl) ?_
        rintro e cs F1 _ ⟨rfl, rfl⟩
        exact endR_ok [] rfl rfl ⟨rfl, rfl⟩ rfl (fun _ => ⟨rfl, rfl⟩) (by simp)
      · refine brB_dec (fun g => absurd g (by omega)) (fun _ => ?_)
        refine ojs_call [] [] rfl rfl rfl rfl rfl rfl rfl (by simp) (fun _ => works_c) (by simp) (.inl rfl) ?_
        rintro e cs F1 _ ⟨rfl, rfl⟩
        exact endR_ok [] rfl rfl ⟨rfl, rfl⟩ rfl (fun _ => ⟨rfl, rfl⟩) (by simp)
    · refine brB_dec (fun g3 => ?_) (fun g3 => ?_)
      · refine brB_dec (fun g4 => ?_) (fun g4 => ?_)
        · have g5 := h2 g3 g4
          refine brB_dec (fun g => absurd g (by omega)) (fun _ => ?_)
          refine ojs_call [] [] rfl rfl rfl rfl rfl rfl rfl (by simp) (fun _ => works_c) (by simp) (.inl rfl) ?_
          rintro e cs F1 _ ⟨rfl, rfl⟩
          exact endR_ok [] rfl rfl ⟨rfl, rfl⟩ rfl (fun _ => ⟨rfl, rfl⟩) (by simp)
        · refine ojs_call [] [] rfl rfl rfl rfl rfl rfl rfl (by simp) (fun _ => works_c) (by simp) (.inl rfl) ?_
          rintro e cs F1 _ ⟨rfl, rfl⟩
          exact endR_ok [] rfl rfl ⟨rfl, rfl⟩ rfl (fun _ => ⟨rfl, rfl⟩) (by simp)
      · refine ojs_call [] [] rfl rfl rfl rfl rfl rfl rfl (by simp) (fun _ => works_c) (by simp) (.inl rfl) ?_
        rintro e cs F1 _ ⟨rfl, rfl⟩
        exact endR_ok [] rfl rfl ⟨rfl, rfl⟩ rfl (fun _ => ⟨rfl, rfl⟩) (by simp)
  · refine cjs_drawn [4, 9, 14] (.op 0 <| .op 1 <| .op 2 <| .op 3 <| .op 5 <| .op 6 <| .op 7 <| .op 8 <| .op 10 <| .op 11 <| .op 12 <| .op 13 <| .op 4 <| .op 9 <| .op 14 <| .op 15 <| .op 16 <| .op 17 .z) [0, 1] [] [2, 3] [libF] (by kernel_rfl) (by kernel_rfl) rfl (by simp) (by simp) ?_
    intro N
    refine ⟨_, yd_indexA (i := 0) rfl (by decide) rfl rfl rfl rfl, ?_⟩
    refine ⟨_, yd_indexA (i := 1) rfl (by decide) rfl rfl rfl rfl, ?_⟩
    refine ⟨_, yd_indexA (i := 1) rfl (by decide) rfl rfl rfl rfl, ?_⟩
    refine ⟨_, yd_indexA (i := 2) rfl (by decide) rfl rfl rfl rfl, ?_⟩
    refine ⟨_, yd_indexA (i := 0) rfl (by decide) rfl rfl rfl rfl, ?_⟩
    refine ⟨_, yd_indexA (i := 2) rfl (by decide) rfl rfl rfl rfl, ?_⟩
    refine ojs_call [] [] rfl rfl rfl rfl rfl rfl rfl (by simp) (fun _ => k3) (by simp) (.inl rfl) ?_
    rintro e cs F1 _ ⟨rfl, rfl⟩
    refine ⟨⟨(by repeat' (first | exact trivial | refine ⟨Or.inl rfl, ?_⟩ | refine ⟨Or.inr ⟨rfl, Nat.le_of_ble_eq_true rfl, _, rfl, rfl, rfl⟩, ?_⟩)), by simp⟩, ?_⟩
    refine ojs_call [] [] rfl rfl rfl rfl rfl rfl rfl (by simp) (fun _ => k4) (by simp) (.inl rfl) ?_
    rintro e cs F1 _ ⟨rfl, rfl⟩
    refine ⟨⟨(by repeat' (first | exact trivial | refine ⟨Or.inl rfl, ?_⟩ | refine ⟨Or.inr ⟨rfl, Nat.le_of_ble_eq_true rfl, _, rfl, rfl, rfl⟩, ?_⟩)), by simp⟩, ?_⟩
    refine ojs_call [] [] rfl rfl rfl rfl rfl rfl rfl (by simp) (fun _ => k5) (by simp) (.inl rfl) ?_
    rintro e cs F1 _ ⟨rfl, rfl⟩
    refine ⟨⟨(by repeat' (first | exact trivial | refine ⟨Or.inl rfl, ?_⟩ | refine ⟨Or.inr ⟨rfl, Nat.le_of_ble_eq_true rfl, _, rfl, rfl, rfl⟩, ?_⟩)), by simp⟩, ?_⟩
    refine ojs_indexA (i := 0) rfl (by decide) rfl rfl rfl rfl ?_
    refine ojs_indexA (i := 1) rfl (by decide) rfl rfl rfl rfl ?_
    refine optK_of (yd_binOp (u := tkV (a1, a2, a3, a4)) (v := tkV (b1, b2, b3, b4)) (r := .bool (decide ((a1, a2, a3, a4) = (b1, b2, b3, b4)))) rfl rfl rfl (fun _ => rfl) (fun _ => rfl) (guard_ticket _ _ _ _ _) (fun w => run_eq_ticket _ _ w)) ?_
    refine optK_of (yd_boolNe (r := false) (by kernel_rfl) (by rw [show (x == 0) = decide (x = 0) from rfl, decide_eq_decide.2 h0]; exact bne_self_eq_false _) rfl rfl rfl) ?_
    refine brB_dec (fun g1 => ?_) (fun g1 => ?_)
    · refine brB_dec (fun g2 => ?_) (fun g2 => ?_)
      · have g3 := h1 g1 g2
        refine brB_dec (fun g => absurd g (by omega)) (fun _ => ?_)
        refine brB_dec (fun g => absurd g (by omega)) (fun _ => ?_)
        refine ojs_call [] [] rfl rfl rfl rfl rfl rfl rfl (by simp) (fun _ => works_c) (by simp) (.inl rfl) ?_
        rintro e cs F1 _ ⟨rfl, rfl⟩
        exact endR_ok [] rfl rfl ⟨rfl, rfl⟩ rfl (fun _ => ⟨rfl, rfl⟩) (by simp)
      · refine brB_dec (fun g => absurd g (by omega)) (fun _ => ?_)
        refine ojs_call [] [] rfl rfl rfl rfl rfl rfl rfl (by simp) (fun _ => works_c) (by simp) (.inl rfl) ?_
        rintro e cs F1 _ ⟨rfl, rfl⟩
        exact endR_ok [] rfl rfl ⟨rfl, rfl⟩ rfl (fun _ => ⟨rfl, rfl⟩) (by simp)
    · refine brB_dec (fun g3 => ?_) (fun g3 => ?_)
      · refine brB_dec (fun g4 => ?_) (fun g4 => ?_)
        · have g5 := h2 g3 g4
          refine brB_dec (fun g => absurd g (by omega)) (fun _ => ?_)
          refine ojs_call [] [] rfl rfl rfl rfl rfl rfl rfl (by simp) (fun _ => works_c) (by simp) (.inl rfl) ?_
          rintro e cs F1 _ ⟨rfl, rfl⟩
          exact endR_ok [] rfl rfl ⟨rfl, rfl⟩ rfl (fun _ => ⟨rfl, rfl⟩) (by simp)
        · refine ojs_call [] [] rfl rfl rfl rfl rfl rfl rfl (by simp) (fun _ => works_c) (by simp) (.inl rfl) ?_
          rintro e cs F1 _ ⟨rfl, rfl⟩
          exact endR_ok [] rfl rfl ⟨rfl, rfl⟩ rfl (fun _ => ⟨rfl, rfl⟩) (by simp)
      · refine ojs_call [] [] rfl rfl rfl rfl rfl rfl rfl (by simp) (fun _ => works_c) (by simp) (.inl rfl) ?_
        rintro e cs F1 _ ⟨rfl, rfl⟩
        exact endR_ok [] rfl rfl ⟨rfl, rfl⟩ rfl (fun _ => ⟨rfl, rfl⟩) (by simp)

end Go.Proofs.YtehfodoocfpkoaaDoor
