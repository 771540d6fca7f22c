/- Acts, by the symbolic run: which are right, by the reference. -/
import Derived.Test.YthnkjgffahkecaaGreatScU
namespace Go.Proofs.YthnkjgffahkecaaGreat
open Go.RowKit Go.Shelf

def bareX (a : Ac) : Ac :=
  if a.kind = 1 then ⟨a.kind, a.node, 0, 0, a.ask, 0, 0⟩ else if a.kind = 2 ∨ a.kind = 8 then ⟨a.kind, a.node, 0, 0, ask0 0, 0, 0⟩
  else if a.kind = 6 then ⟨a.kind, a.node, 0, a.num, ask0 0, 0, 0⟩ else if a.kind = 7 then ⟨a.kind, a.node, 0, 0, ask0 0, a.k0, a.k1⟩ else ⟨a.kind, 0, a.at_, 0, ask0 0, 0, 0⟩
set_option maxHeartbeats 2000000 in
theorem refBare_c (a : Ac) (hk : 1 ≤ a.kind ∧ a.kind ≤ 8) : Cm Tryz.prog 35 [.agg (actL a).toArray] [] [] (rets (.agg (actL (bareX a)).toArray)) := by
  obtain ⟨k, node, at_, num, ⟨q, lock, mode, prio, ticks, slot, use, chg⟩, k0, k1⟩ := a
  simp only at hk
  refine cm_of (tab := tb) (ok := tbOk) [.g [.v (.int .i64 k), .v (.int .i64 node), .v (.int .i64 at_), .v (.int .i64 num), .v (.int .i64 q), .v (.int .i64 lock), .v (.int .i64 mode), .v (.int .i64 prio), .v (.int .i64 ticks), .v (.int .i64 slot), .v (.int .i64 use), .v (.int .i64 chg), .v (.int .i64 k0), .v (.int .i64 k1)]] Tryz.func35 Tryz.ntmps35 rfl rfl (fun _ _ => rfl) ?_
  intro w0 A0
  have hz : k = 1 ∨ k = 2 ∨ k = 3 ∨ k = 4 ∨ k = 5 ∨ k = 6 ∨ k = 7 ∨ k = 8 := by omega
  rcases hz with rfl | rfl | rfl | rfl | rfl | rfl | rfl | rfl
  · refine cjs_drawn [5, 7] (.op 0 <| .op 1 <| .op 2 <| .op 3 <| .op 4 <| .op 5 <| .op 6 <| .op 7 .z) [0] [] [] [] (by kernel_rfl) (by kernel_rfl) rfl (by simp) (by simp) ?_
    intro N
    refine ⟨⟨(by repeat' (first | exact trivial | refine ⟨Or.inl rfl, ?_⟩ | refine ⟨Or.inr ⟨rfl, Nat.le_of_ble_eq_true rfl, _, rfl, rfl, rfl⟩, ?_⟩)), by simp⟩, ?_⟩
    refine ⟨⟨(by repeat' (first | exact trivial | refine ⟨Or.inl rfl, ?_⟩ | refine ⟨Or.inr ⟨rfl, Nat.le_of_ble_eq_true rfl, _, rfl, rfl, rfl⟩, ?_⟩)), by simp⟩, ?_⟩
    exact endR_ok [] rfl rfl ⟨rfl, rfl⟩ rfl (fun _ => ⟨rfl, rfl⟩) (by simp)
  · exact endR_ok [] rfl rfl ⟨rfl, rfl⟩ rfl (fun _ => ⟨rfl, rfl⟩) (by simp)
  · exact endR_ok [] rfl rfl ⟨rfl, rfl⟩ rfl (fun _ => ⟨rfl, rfl⟩) (by simp)
  · exact endR_ok [] rfl rfl ⟨rfl, rfl⟩ rfl (fun _ => ⟨rfl, rfl⟩) (by simp)
  · exact endR_ok [] rfl rfl ⟨rfl, rfl⟩ rfl (fun _ => ⟨rfl, rfl⟩) (by simp)
  · refine cjs_drawn [5, 7] (.op 0 <| .op 1 <| .op 2 <| .op 3 <| .op 4 <| .op 5 <| .op 6 <| .op 7 .z) [0] [] [] [] (by kernel_rfl) (by kernel_rfl) rfl (by simp) (by simp) ?_
    intro N
    refine ⟨⟨(by repeat' (first | exact trivial | refine ⟨Or.inl rfl, ?_⟩ | refine ⟨Or.inr ⟨rfl, Nat.le_of_ble_eq_true rfl, _, rfl, rfl, rfl⟩, ?_⟩)), by simp⟩, ?_⟩
    refine ⟨⟨(by repeat' (first | exact trivial | refine ⟨Or.inl rfl, ?_⟩ | refine ⟨Or.inr ⟨rfl, Nat.le_of_ble_eq_true rfl, _, rfl, rfl, rfl⟩, ?_⟩)), by simp⟩, ?_⟩
    exact endR_ok [] rfl rfl ⟨rfl, rfl⟩ rfl (fun _ => ⟨rfl, rfl⟩) (by simp)
  · refine cjs_drawn [5, 7] (.op 0 <| .op 1 <| .op 2 <| .op 3 <| .op 4 <| .op 5 <| .op 6 <| .op 7 .z) [0] [] [] [] (by kernel_rfl) (by kernel_rfl) rfl (by simp) (by simp) ?_
    intro N
    refine ⟨⟨(by repeat' (first | exact trivial | refine ⟨Or.inl rfl, ?_⟩ | refine ⟨Or.inr ⟨rfl, Nat.le_of_ble_eq_true rfl, _, rfl, rfl, rfl⟩, ?_⟩)), by simp⟩, ?_⟩
    refine ⟨⟨(by repeat' (first | exact trivial | refine ⟨Or.inl rfl, ?_⟩ | refine ⟨Or.inr ⟨rfl, Nat.le_of_ble_eq_true rfl, _, rfl, rfl, rfl⟩, ?_⟩)), by simp⟩, ?_⟩
    exact endR_ok [] rfl rfl ⟨rfl, rfl⟩ rfl (fun _ => ⟨rfl, rfl⟩) (by simp)
  · exact endR_ok [] rfl rfl ⟨rfl, rfl⟩ rfl (fun _ => ⟨rfl, rfl⟩) (by simp)
theorem refIn28_c (n a b : Int) : Cm Tryz.prog 36 [.int .i64 n, .int .i64 a, .int .i64 b] [] [] (rets (.bool (inB n a b))) := by
  refine cm_of (tab := tb) (ok := tbOk) [.o (.v (.int .i64 n)), .o (.v (.int .i64 a)), .o (.v (.int .i64 b))] Tryz.func36 Tryz.ntmps36 rfl rfl (fun _ _ => rfl) ?_
  intro w0 A0
  repeat' (first | (refine endR_ok [] rfl rfl ⟨rfl, rfl⟩ rfl (fun _ => ⟨ret_bool ?_, rfl⟩) (by simp); first | (simp [inB, *]; done) | (rw [Bool.eq_iff_iff]; simp [inB]; omega)) | refine brB_dec (fun _ => ?_) (fun _ => ?_))
theorem refIn28_p (n a b : Int) : Cm Tryz.prog 36 [.int .i64 n, .int .i64 a, .int .i64 b] [] [] (retB (a ≤ n ∧ n ≤ b)) := (refIn28_c n a b).retB inB_iff

end Go.Proofs.YthnkjgffahkecaaGreat
