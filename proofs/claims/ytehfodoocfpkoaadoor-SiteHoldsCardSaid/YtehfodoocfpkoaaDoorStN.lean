/- Sites, by the symbolic run: SiteOrders. -/
import Derived.Test.YtehfodoocfpkoaaDoorStJ
namespace Go.Proofs.YtehfodoocfpkoaaDoor
open Go.RowKit Go.Shelf

theorem ordX_swap (a b : Tk) : ordX b a = -ordX a b := by
  simp only [ordX, lexI]
  by_cases h1 : a.2.1 < b.2.1
  · simp [h1, show ¬ b.2.1 < a.2.1 by omega]
  by_cases g1 : b.2.1 < a.2.1
  · simp [h1, g1]
  by_cases h2 : a.1 < b.1
  · simp [h1, g1, h2, show ¬ b.1 < a.1 by omega]
  by_cases g2 : b.1 < a.1
  · simp [h1, g1, h2, g2]
  by_cases h3 : a.2.2.1 < b.2.2.1
  · simp [h1, g1, h2, g2, h3, show ¬ b.2.2.1 < a.2.2.1 by omega]
  by_cases g3 : b.2.2.1 < a.2.2.1
  · simp [h1, g1, h2, g2, h3, g3]
  by_cases h4 : a.2.2.2 < b.2.2.2
  · simp [h1, g1, h2, g2, h3, g3, h4, show ¬ b.2.2.2 < a.2.2.2 by omega]
  by_cases g4 : b.2.2.2 < a.2.2.2
  · simp [h1, g1, h2, g2, h3, g3, h4, g4]
  simp [h1, g1, h2, g2, h3, g3, h4, g4]
theorem ordX_le (a b : Tk) : -1 ≤ ordX a b ∧ ordX a b ≤ 1 := by
  simp only [ordX, lexI]
  repeat' split
  all_goals omega

theorem yd_neg {X : Fx} {o : Oper} {T : TE} {L : LE} {F : List Fact} {t : TypeId} {x : Operand} {p r : Int} (ho : o.op = .unOp .neg t x) (hx : evS T x = some (.o (.v (.int .i64 p)))) (hr : IntKind.i64.wrap (-p) = r) : Yd X o T L F (.o (.v (.int .i64 r))) := by
  subst hr
  refine ⟨by simp [noDef, ho], fun A ρ a w h0 => ?_⟩
  have e1 := h0.ev hx
  simp only [TV.den, SV.den] at e1
  simp [execOp, ho, e1, Op.unary, Op.intArith, TV.den, SV.den, Int.zero_sub]
set_option maxRecDepth 20000 in
set_option maxHeartbeats 1000000 in
theorem orders_law (a b : Tk) : Cm Tryd.prog 7 [tkV a, tkV b] [] [libF] (rets (.bool true)) := by
  refine cm_of (tab := tb) (ok := tbOk) [.g [.v (.int .i64 a.1), .v (.int .i64 a.2.1), .v (.int .i64 a.2.2.1), .v (.int .i64 a.2.2.2)], .g [.v (.int .i64 b.1), .v (.int .i64 b.2.1), .v (.int .i64 b.2.2.1), .v (.int .i64 b.2.2.2)]] Tryd.func7 Tryd.ntmps7 rfl rfl (fun _ _ => rfl) ?_
  intro w0 A0
  have hl := ordX_le a b
  refine cjs_drawn [2, 5, 10, 13, 18] (.op 0 <| .op 1 <| .op 3 <| .op 4 <| .op 2 <| .op 5 <| .op 6 <| .op 7 <| .op 8 <| .op 9 <| .op 11 <| .op 12 <| .op 10 <| .op 13 <| .op 14 <| .op 15 <| .op 16 <| .op 17 <| .op 18 <| .op 19 <| .op 20 .z) [0, 1] [] [] [libF] (by kernel_rfl) (by kernel_rfl) rfl (by simp) (by simp) ?_
  intro N
  refine ojs_call [] [] rfl rfl rfl rfl rfl rfl rfl (by simp) (fun _ => order_c a b) (by simp) (.inl rfl) ?_
  rintro e cs F1 _ ⟨rfl, rfl⟩
  refine ⟨⟨(by repeat' (first | exact trivial | refine ⟨Or.inl rfl, ?_⟩ | refine ⟨Or.inr ⟨rfl, Nat.le_of_ble_eq_true rfl, _, rfl, rfl, rfl⟩, ?_⟩)), by simp⟩, ?_⟩
  refine ojs_call [] [] rfl rfl rfl rfl rfl rfl rfl (by simp) (fun _ => refOrder_c a b) (by simp) (.inl rfl) ?_
  rintro e cs F1 _ ⟨rfl, rfl⟩
  refine ⟨⟨(by repeat' (first | exact trivial | refine ⟨Or.inl rfl, ?_⟩ | refine ⟨Or.inr ⟨rfl, Nat.le_of_ble_eq_true rfl, _, rfl, rfl, rfl⟩, ?_⟩)), by simp⟩, ?_⟩
  refine brB_true (by exact decide_eq_true rfl) ?_
  refine ojs_call [] [] rfl rfl rfl rfl rfl rfl rfl (by simp) (fun _ => order_c b a) (by simp) (.inl rfl) ?_
  rintro e cs F1 _ ⟨rfl, rfl⟩
  refine ⟨⟨(by repeat' (first | exact trivial | refine ⟨Or.inl rfl, ?_⟩ | refine ⟨Or.inr ⟨rfl, Nat.le_of_ble_eq_true rfl, _, rfl, rfl, rfl⟩, ?_⟩)), by simp⟩, ?_⟩
  refine ojs_call [] [] rfl rfl rfl rfl rfl rfl rfl (by simp) (fun _ => refOrder_c a b) (by simp) (.inl rfl) ?_
  rintro e cs F1 _ ⟨rfl, rfl⟩
  refine ⟨⟨(by repeat' (first | exact trivial | refine ⟨Or.inl rfl, ?_⟩ | refine ⟨Or.inr ⟨rfl, Nat.le_of_ble_eq_true rfl, _, rfl, rfl, rfl⟩, ?_⟩)), by simp⟩, ?_⟩
  refine ⟨_, yd_neg (r := ordX b a) rfl rfl (by rw [ordX_swap a b, wrap_in] <;> omega), ?_⟩
  refine brB_true (by exact decide_eq_true rfl) ?_
  refine ojs_call [] [] rfl rfl rfl rfl rfl rfl rfl (by simp) (fun _ => works_c) (by simp) (.inl rfl) ?_
  rintro e cs F1 _ ⟨rfl, rfl⟩
  refine ⟨⟨(by repeat' (first | exact trivial | refine ⟨Or.inl rfl, ?_⟩ | refine ⟨Or.inr ⟨rfl, Nat.le_of_ble_eq_true rfl, _, rfl, rfl, rfl⟩, ?_⟩)), by simp⟩, ?_⟩
  exact endR_ok [] rfl rfl ⟨rfl, rfl⟩ rfl (fun _ => ⟨rfl, rfl⟩) (by simp)

end Go.Proofs.YtehfodoocfpkoaaDoor
