/- Acts, by the symbolic run: the reference's bytes of an act. -/
import Derived.Test.YthnkjgffahkecaaGreatScT
namespace Go.Proofs.YthnkjgffahkecaaGreat
open Go.RowKit Go.Shelf

def byX (z : Int) : Int := if z < 0 then w8 (z + 128) else w8 (z + 127)
theorem by_c (z : Int) (h : -128 ≤ z ∧ z ≤ 128) : Cm Tryz.prog 45 [.int .i64 z] [] [] (rets (.int .u8 (byX z))) := by
  refine cm_of (tab := tb) (ok := tbOk) [.o (.v (.int .i64 z))] Tryz.func45 Tryz.ntmps45 rfl rfl (fun _ _ => rfl) ?_
  intro w0 A0
  refine brB_dec (fun h1 => ?_) (fun h1 => ?_)
  · refine ojs_arith (z := z + 128) (by rw [wrap_in] <;> omega) rfl rfl rfl rfl ?_
    refine ojs_yd (yd_conv (r := w8 (z + 128)) (by kernel_rfl) (by kernel_rfl) rfl rfl rfl) rfl ?_
    have e : byX z = w8 (z + 128) := if_pos h1
    rw [e]
    exact endR_ok [] rfl rfl ⟨rfl, rfl⟩ rfl (fun _ => ⟨rfl, rfl⟩) (by simp)
  · refine ojs_arith (z := z + 127) (by rw [wrap_in] <;> omega) rfl rfl rfl rfl ?_
    refine ojs_yd (yd_conv (r := w8 (z + 127)) (by kernel_rfl) (by kernel_rfl) rfl rfl rfl) rfl ?_
    have e : byX z = w8 (z + 127) := if_neg h1
    rw [e]
    exact endR_ok [] rfl rfl ⟨rfl, rfl⟩ rfl (fun _ => ⟨rfl, rfl⟩) (by simp)
def bytesX (a : Ac) : List Int := w8 (a.kind - 1) ::
  if a.kind = 1 then w8 a.node :: w8 (a.ask.kind - 1) :: w8 a.ask.lock :: (if a.ask.kind = 1 then [w8 (a.ask.mode - 1), w8 a.ask.prio, w8 a.ask.ticks] else if a.ask.kind = 2 then [w8 (a.ask.mode - 1), w8 a.ask.prio] else if a.ask.kind = 7 then [w8 a.ask.slot, w8 (a.ask.use - 1), byX a.ask.chg] else [w8 a.ask.slot, w8 (a.ask.use - 1)])
  else if a.kind = 2 ∨ a.kind = 8 then [w8 a.node] else if a.kind = 6 then [w8 a.node, w8 a.num] else if a.kind = 7 then [w8 a.node, w8 a.k0, w8 a.k1] else [w8 a.at_]
def bytesO (xs : List Int) : OutT := fun e _ F1 => ∃ a c, e = .returned (.slice a xs.length c) ∧ F1 = [slF byE 1 (.slice a xs.length c) xs]
set_option maxHeartbeats 4000000 in
theorem refBytes_c (a : Ac) (hk : 1 ≤ a.kind ∧ a.kind ≤ 8) (hq : a.kind = 1 → (1 ≤ a.ask.kind ∧ a.ask.kind ≤ 7) ∧ (0 ≤ a.ask.mode ∧ a.ask.mode ≤ 1000000) ∧ (0 ≤ a.ask.use ∧ a.ask.use ≤ 1000000) ∧ (-128 ≤ a.ask.chg ∧ a.ask.chg ≤ 128)) :
    Cm Tryz.prog 21 [.agg (actL a).toArray] [] [] (bytesO (bytesX a)) := by
  obtain ⟨k, node, at_, num, ⟨q, lock, mode, prio, ticks, slot, use, chg⟩, k0, k1⟩ := a
  simp only at hk hq
  refine cm_of (tab := tb) (ok := tbOk) [.g [.v (.int .i64 k), .v (.int .i64 node), .v (.int .i64 at_), .v (.int .i64 num), .v (.int .i64 q), .v (.int .i64 lock), .v (.int .i64 mode), .v (.int .i64 prio), .v (.int .i64 ticks), .v (.int .i64 slot), .v (.int .i64 use), .v (.int .i64 chg), .v (.int .i64 k0), .v (.int .i64 k1)]] Tryz.func21 Tryz.ntmps21 rfl rfl (fun _ _ => rfl) ?_
  intro w0 A0
  have hz : k = 1 ∨ k = 2 ∨ k = 3 ∨ k = 4 ∨ k = 5 ∨ k = 6 ∨ k = 7 ∨ k = 8 := by omega
  rcases hz with rfl | rfl | rfl | rfl | rfl | rfl | rfl | rfl
  · obtain ⟨hq1, hq2, hq3, hq4⟩ := hq rfl
    refine ojs_arith (z := 1 - 1) (by rw [wrap_in] <;> omega) rfl rfl rfl rfl ?_
    refine ojs_yd (yd_conv (r := w8 (1 - 1)) (by kernel_rfl) (by kernel_rfl) rfl rfl rfl) rfl ?_
    refine ojs_litOwn (j := 1) 17 1 [.int .u8 (w8 (1 - 1))] rfl rfl rfl (by decide) ?_
    intro g1
    refine ojs_yd (yd_conv (r := w8 (node)) (by kernel_rfl) (by kernel_rfl) rfl rfl rfl) rfl ?_
    refine ojs_arith (z := q - 1) (by rw [wrap_in] <;> omega) rfl rfl rfl rfl ?_
    refine ojs_yd (yd_conv (r := w8 (q - 1)) (by kernel_rfl) (by kernel_rfl) rfl rfl rfl) rfl ?_
    refine ojs_yd (yd_conv (r := w8 (lock)) (by kernel_rfl) (by kernel_rfl) rfl rfl rfl) rfl ?_
    refine ojs_append 1 rfl rfl rfl rfl rfl rfl rfl rfl rfl (by decide) rfl rfl rfl (srcL (news := [.int .u8 (w8 node), .int .u8 (w8 (q - 1)), .int .u8 (w8 lock)]) rfl rfl) rfl (by simp [Value.oneCell']) (by first | omega | (dsimp only; omega)) (by simp only [maxLen]; omega) ?_
    intro a2 c2
    have hz : q = 1 ∨ q = 2 ∨ q = 3 ∨ q = 4 ∨ q = 5 ∨ q = 6 ∨ q = 7 := by omega
    rcases hz with rfl | rfl | rfl | rfl | rfl | rfl | rfl
    · refine ojs_arith (z := mode - 1) (by rw [wrap_in] <;> omega) rfl rfl rfl rfl ?_
      refine ojs_yd (yd_conv (r := w8 (mode - 1)) (by kernel_rfl) (by kernel_rfl) rfl rfl rfl) rfl ?_
      refine ojs_yd (yd_conv (r := w8 (prio)) (by kernel_rfl) (by kernel_rfl) rfl rfl rfl) rfl ?_
      refine ojs_yd (yd_conv (r := w8 (ticks)) (by kernel_rfl) (by kernel_rfl) rfl rfl rfl) rfl ?_
      refine ojs_append 1 rfl rfl rfl rfl rfl rfl rfl rfl rfl (by decide) rfl rfl rfl (srcL (news := [.int .u8 (w8 (mode - 1)), .int .u8 (w8 prio), .int .u8 (w8 ticks)]) rfl rfl) rfl (by simp [Value.oneCell']) (by first | omega | (dsimp only; omega)) (by simp only [maxLen]; omega) ?_
      intro a3 c3
      refine endR_weak (wk_seal (j := 1) (enc := byE) (xs := [w8 (1 - 1), w8 node, w8 (1 - 1), w8 lock, w8 (mode - 1), w8 prio, w8 ticks]) (.inl rfl) byE_len rfl rfl) ?_
      exact endR_ok [slF byE 1 (.slice a3 ([w8 (1 - 1), w8 node, w8 (1 - 1), w8 lock, w8 (mode - 1), w8 prio, w8 ticks]).length c3) ([w8 (1 - 1), w8 node, w8 (1 - 1), w8 lock, w8 (mode - 1), w8 prio, w8 ticks])] rfl rfl ⟨rfl, rfl⟩ rfl (fun _ => ⟨a3, c3, rfl, rfl⟩) (by simp)
    · refine ojs_arith (z := mode - 1) (by rw [wrap_in] <;> omega) rfl rfl rfl rfl ?_
      refine ojs_yd (yd_conv (r := w8 (mode - 1)) (by kernel_rfl) (by kernel_rfl) rfl rfl rfl) rfl ?_
      refine ojs_yd (yd_conv (r := w8 (prio)) (by kernel_rfl) (by kernel_rfl) rfl rfl rfl) rfl ?_
      refine ojs_append 1 rfl rfl rfl rfl rfl rfl rfl rfl rfl (by decide) rfl rfl rfl (srcL (news := [.int .u8 (w8 (mode - 1)), .int .u8 (w8 prio)]) rfl rfl) rfl (by simp [Value.oneCell']) (by first | omega | (dsimp only; omega)) (by simp only [maxLen]; omega) ?_
      intro a3 c3
      refine endR_weak (wk_seal (j := 1) (enc := byE) (xs := [w8 (1 - 1), w8 node, w8 (2 - 1), w8 lock, w8 (mode - 1), w8 prio]) (.inl rfl) byE_len rfl rfl) ?_
      exact endR_ok [slF byE 1 (.slice a3 ([w8 (1 - 1), w8 node, w8 (2 - 1), w8 lock, w8 (mode - 1), w8 prio]).length c3) ([w8 (1 - 1), w8 node, w8 (2 - 1), w8 lock, w8 (mode - 1), w8 prio])] rfl rfl ⟨rfl, rfl⟩ rfl (fun _ => ⟨a3, c3, rfl, rfl⟩) (by simp)
    · refine ojs_yd (yd_conv (r := w8 (slot)) (by kernel_rfl) (by kernel_rfl) rfl rfl rfl) rfl ?_
      refine ojs_arith (z := use - 1) (by rw [wrap_in] <;> omega) rfl rfl rfl rfl ?_
      refine ojs_yd (yd_conv (r := w8 (use - 1)) (by kernel_rfl) (by kernel_rfl) rfl rfl rfl) rfl ?_
      refine ojs_append 1 rfl rfl rfl rfl rfl rfl rfl rfl rfl (by decide) rfl rfl rfl (srcL (news := [.int .u8 (w8 slot), .int .u8 (w8 (use - 1))]) rfl rfl) rfl (by simp [Value.oneCell']) (by first | omega | (dsimp only; omega)) (by simp only [maxLen]; omega) ?_
      intro a3 c3
      refine endR_weak (wk_seal (j := 1) (enc := byE) (xs := [w8 (1 - 1), w8 node, w8 (3 - 1), w8 lock, w8 slot, w8 (use - 1)]) (.inl rfl) byE_len rfl rfl) ?_
      exact endR_ok [slF byE 1 (.slice a3 ([w8 (1 - 1), w8 node, w8 (3 - 1), w8 lock, w8 slot, w8 (use - 1)]).length c3) ([w8 (1 - 1), w8 node, w8 (3 - 1), w8 lock, w8 slot, w8 (use - 1)])] rfl rfl ⟨rfl, rfl⟩ rfl (fun _ => ⟨a3, c3, rfl, rfl⟩) (by simp)
    · refine ojs_yd (yd_conv (r := w8 (slot)) (by kernel_rfl) (by kernel_rfl) rfl rfl rfl) rfl ?_
      refine ojs_arith (z := use - 1) (by rw [wrap_in] <;> omega) rfl rfl rfl rfl ?_
      refine ojs_yd (yd_conv (r := w8 (use - 1)) (by kernel_rfl) (by kernel_rfl) rfl rfl rfl) rfl ?_
      refine ojs_append 1 rfl rfl rfl rfl rfl rfl rfl rfl rfl (by decide) rfl rfl rfl (srcL (news := [.int .u8 (w8 slot), .int .u8 (w8 (use - 1))]) rfl rfl) rfl (by simp [Value.oneCell']) (by first | omega | (dsimp only; omega)) (by simp only [maxLen]; omega) ?_
      intro a3 c3
      refine endR_weak (wk_seal (j := 1) (enc := byE) (xs := [w8 (1 - 1), w8 node, w8 (4 - 1), w8 lock, w8 slot, w8 (use - 1)]) (.inl rfl) byE_len rfl rfl) ?_
      exact endR_ok [slF byE 1 (.slice a3 ([w8 (1 - 1), w8 node, w8 (4 - 1), w8 lock, w8 slot, w8 (use - 1)]).length c3) ([w8 (1 - 1), w8 node, w8 (4 - 1), w8 lock, w8 slot, w8 (use - 1)])] rfl rfl ⟨rfl, rfl⟩ rfl (fun _ => ⟨a3, c3, rfl, rfl⟩) (by simp)
    · refine ojs_yd (yd_conv (r := w8 (slot)) (by kernel_rfl) (by kernel_rfl) rfl rfl rfl) rfl ?_
      refine ojs_arith (z := use - 1) (by rw [wrap_in] <;> omega) rfl rfl rfl rfl ?_
      refine ojs_yd (yd_conv (r := w8 (use - 1)) (by kernel_rfl) (by kernel_rfl) rfl rfl rfl) rfl ?_
      refine ojs_append 1 rfl rfl rfl rfl rfl rfl rfl rfl rfl (by decide) rfl rfl rfl (srcL (news := [.int .u8 (w8 slot), .int .u8 (w8 (use - 1))]) rfl rfl) rfl (by simp [Value.oneCell']) (by first | omega | (dsimp only; omega)) (by simp only [maxLen]; omega) ?_
      intro a3 c3
      refine endR_weak (wk_seal (j := 1) (enc := byE) (xs := [w8 (1 - 1), w8 node, w8 (5 - 1), w8 lock, w8 slot, w8 (use - 1)]) (.inl rfl) byE_len rfl rfl) ?_
      exact endR_ok [slF byE 1 (.slice a3 ([w8 (1 - 1), w8 node, w8 (5 - 1), w8 lock, w8 slot, w8 (use - 1)]).length c3) ([w8 (1 - 1), w8 node, w8 (5 - 1), w8 lock, w8 slot, w8 (use - 1)])] rfl rfl ⟨rfl, rfl⟩ rfl (fun _ => ⟨a3, c3, rfl, rfl⟩) (by simp)
    · refine ojs_yd (yd_conv (r := w8 (slot)) (by kernel_rfl) (by kernel_rfl) rfl rfl rfl) rfl ?_
      refine ojs_arith (z := use - 1) (by rw [wrap_in] <;> omega) rfl rfl rfl rfl ?_
      refine ojs_yd (yd_conv (r := w8 (use - 1)) (by kernel_rfl) (by kernel_rfl) rfl rfl rfl) rfl ?_
      refine ojs_append 1 rfl rfl rfl rfl rfl rfl rfl rfl rfl (by decide) rfl rfl rfl (srcL (news := [.int .u8 (w8 slot), .int .u8 (w8 (use - 1))]) rfl rfl) rfl (by simp [Value.oneCell']) (by first | omega | (dsimp only; omega)) (by simp only [maxLen]; omega) ?_
      intro a3 c3
      refine endR_weak (wk_seal (j := 1) (enc := byE) (xs := [w8 (1 - 1), w8 node, w8 (6 - 1), w8 lock, w8 slot, w8 (use - 1)]) (.inl rfl) byE_len rfl rfl) ?_
      exact endR_ok [slF byE 1 (.slice a3 ([w8 (1 - 1), w8 node, w8 (6 - 1), w8 lock, w8 slot, w8 (use - 1)]).length c3) ([w8 (1 - 1), w8 node, w8 (6 - 1), w8 lock, w8 slot, w8 (use - 1)])] rfl rfl ⟨rfl, rfl⟩ rfl (fun _ => ⟨a3, c3, rfl, rfl⟩) (by simp)
    · refine cjs_drawn [10, 11, 12] (.op 0 <| .op 1 <| .op 2 <| .op 3 <| .op 4 <| .op 5 <| .op 6 <| .op 7 <| .op 8 <| .op 9 <| .op 10 <| .op 11 <| .op 12 <| .op 13 .z) [2] [] [] [] (by kernel_rfl) (by kernel_rfl) rfl (by simp) (by simp) ?_
      intro N
      refine ⟨_, yd_conv (r := w8 slot) (by kernel_rfl) (by kernel_rfl) rfl rfl rfl, ?_⟩
      refine ⟨_, yd_arith (z := use - 1) (by rw [wrap_in] <;> omega) rfl rfl rfl rfl, ?_⟩
      refine ⟨_, yd_conv (r := w8 (use - 1)) (by kernel_rfl) (by kernel_rfl) rfl rfl rfl, ?_⟩
      refine ojs_call [] [] rfl rfl rfl rfl rfl rfl rfl (by simp) (fun _ => by_c chg hq4) (by simp) (.inl rfl) ?_
      rintro e cs F1 _ ⟨rfl, rfl⟩
      refine ⟨⟨(by repeat' (first | exact trivial | refine ⟨Or.inl rfl, ?_⟩ | refine ⟨Or.inr ⟨rfl, Nat.le_of_ble_eq_true rfl, _, rfl, rfl, rfl⟩, ?_⟩)), by simp⟩, ?_⟩
      refine ⟨⟨(by repeat' (first | exact trivial | refine ⟨Or.inl rfl, ?_⟩ | refine ⟨Or.inr ⟨rfl, Nat.le_of_ble_eq_true rfl, _, rfl, rfl, rfl⟩, ?_⟩)), by simp⟩, ?_⟩
      refine ojs_append 1 rfl rfl rfl rfl rfl rfl rfl rfl rfl (by decide) rfl rfl rfl (srcL (news := [.int .u8 (w8 slot), .int .u8 (w8 (use - 1)), .int .u8 (byX chg)]) rfl rfl) rfl (by simp [Value.oneCell']) (by first | omega | (dsimp only; omega)) (by simp only [maxLen]; omega) ?_
      intro a3 c3
      refine ⟨⟨(by repeat' (first | exact trivial | refine ⟨Or.inl rfl, ?_⟩ | refine ⟨Or.inr ⟨rfl, Nat.le_of_ble_eq_true rfl, _, rfl, rfl, rfl⟩, ?_⟩)), by simp⟩, ?_⟩
      refine endR_weak (wk_seal (j := 1) (enc := byE) (xs := [w8 (1 - 1), w8 node, w8 (7 - 1), w8 lock, w8 slot, w8 (use - 1), byX chg]) (.inl rfl) byE_len rfl rfl) ?_
      exact endR_ok [slF byE 1 (.slice a3 ([w8 (1 - 1), w8 node, w8 (7 - 1), w8 lock, w8 slot, w8 (use - 1), byX chg]).length c3) ([w8 (1 - 1), w8 node, w8 (7 - 1), w8 lock, w8 slot, w8 (use - 1), byX chg])] rfl rfl ⟨rfl, rfl⟩ rfl (fun _ => ⟨a3, c3, rfl, rfl⟩) (by simp)
  · skip
    refine ojs_arith (z := 2 - 1) (by rw [wrap_in] <;> omega) rfl rfl rfl rfl ?_
    refine ojs_yd (yd_conv (r := w8 (2 - 1)) (by kernel_rfl) (by kernel_rfl) rfl rfl rfl) rfl ?_
    refine ojs_litOwn (j := 1) 87 1 [.int .u8 (w8 (2 - 1))] rfl rfl rfl (by decide) ?_
    intro g1
    refine ojs_yd (yd_conv (r := w8 (node)) (by kernel_rfl) (by kernel_rfl) rfl rfl rfl) rfl ?_
    refine ojs_append 1 rfl rfl rfl rfl rfl rfl rfl rfl rfl (by decide) rfl rfl rfl (srcL (news := [.int .u8 (w8 node)]) rfl rfl) rfl (by simp [Value.oneCell']) (by first | omega | (dsimp only; omega)) (by simp only [maxLen]; omega) ?_
    intro a2 c2
    refine endR_weak (wk_seal (j := 1) (enc := byE) (xs := [w8 (2 - 1), w8 node]) (.inl rfl) byE_len rfl rfl) ?_
    exact endR_ok [slF byE 1 (.slice a2 ([w8 (2 - 1), w8 node]).length c2) ([w8 (2 - 1), w8 node])] rfl rfl ⟨rfl, rfl⟩ rfl (fun _ => ⟨a2, c2, rfl, rfl⟩) (by simp)
  · skip
    refine ojs_arith (z := 3 - 1) (by rw [wrap_in] <;> omega) rfl rfl rfl rfl ?_
    refine ojs_yd (yd_conv (r := w8 (3 - 1)) (by kernel_rfl) (by kernel_rfl) rfl rfl rfl) rfl ?_
    refine ojs_litOwn (j := 1) 120 1 [.int .u8 (w8 (3 - 1))] rfl rfl rfl (by decide) ?_
    intro g1
    refine ojs_yd (yd_conv (r := w8 (at_)) (by kernel_rfl) (by kernel_rfl) rfl rfl rfl) rfl ?_
    refine ojs_append 1 rfl rfl rfl rfl rfl rfl rfl rfl rfl (by decide) rfl rfl rfl (srcL (news := [.int .u8 (w8 at_)]) rfl rfl) rfl (by simp [Value.oneCell']) (by first | omega | (dsimp only; omega)) (by simp only [maxLen]; omega) ?_
    intro a2 c2
    refine endR_weak (wk_seal (j := 1) (enc := byE) (xs := [w8 (3 - 1), w8 at_]) (.inl rfl) byE_len rfl rfl) ?_
    exact endR_ok [slF byE 1 (.slice a2 ([w8 (3 - 1), w8 at_]).length c2) ([w8 (3 - 1), w8 at_])] rfl rfl ⟨rfl, rfl⟩ rfl (fun _ => ⟨a2, c2, rfl, rfl⟩) (by simp)
  · skip
    refine ojs_arith (z := 4 - 1) (by rw [wrap_in] <;> omega) rfl rfl rfl rfl ?_
    refine ojs_yd (yd_conv (r := w8 (4 - 1)) (by kernel_rfl) (by kernel_rfl) rfl rfl rfl) rfl ?_
    refine ojs_litOwn (j := 1) 120 1 [.int .u8 (w8 (4 - 1))] rfl rfl rfl (by decide) ?_
    intro g1
    refine ojs_yd (yd_conv (r := w8 (at_)) (by kernel_rfl) (by kernel_rfl) rfl rfl rfl) rfl ?_
    refine ojs_append 1 rfl rfl rfl rfl rfl rfl rfl rfl rfl (by decide) rfl rfl rfl (srcL (news := [.int .u8 (w8 at_)]) rfl rfl) rfl (by simp [Value.oneCell']) (by first | omega | (dsimp only; omega)) (by simp only [maxLen]; omega) ?_
    intro a2 c2
    refine endR_weak (wk_seal (j := 1) (enc := byE) (xs := [w8 (4 - 1), w8 at_]) (.inl rfl) byE_len rfl rfl) ?_
    exact endR_ok [slF byE 1 (.slice a2 ([w8 (4 - 1), w8 at_]).length c2) ([w8 (4 - 1), w8 at_])] rfl rfl ⟨rfl, rfl⟩ rfl (fun _ => ⟨a2, c2, rfl, rfl⟩) (by simp)
  · skip
    refine ojs_arith (z := 5 - 1) (by rw [wrap_in] <;> omega) rfl rfl rfl rfl ?_
    refine ojs_yd (yd_conv (r := w8 (5 - 1)) (by kernel_rfl) (by kernel_rfl) rfl rfl rfl) rfl ?_
    refine ojs_litOwn (j := 1) 120 1 [.int .u8 (w8 (5 - 1))] rfl rfl rfl (by decide) ?_
    intro g1
    refine ojs_yd (yd_conv (r := w8 (at_)) (by kernel_rfl) (by kernel_rfl) rfl rfl rfl) rfl ?_
    refine ojs_append 1 rfl rfl rfl rfl rfl rfl rfl rfl rfl (by decide) rfl rfl rfl (srcL (news := [.int .u8 (w8 at_)]) rfl rfl) rfl (by simp [Value.oneCell']) (by first | omega | (dsimp only; omega)) (by simp only [maxLen]; omega) ?_
    intro a2 c2
    refine endR_weak (wk_seal (j := 1) (enc := byE) (xs := [w8 (5 - 1), w8 at_]) (.inl rfl) byE_len rfl rfl) ?_
    exact endR_ok [slF byE 1 (.slice a2 ([w8 (5 - 1), w8 at_]).length c2) ([w8 (5 - 1), w8 at_])] rfl rfl ⟨rfl, rfl⟩ rfl (fun _ => ⟨a2, c2, rfl, rfl⟩) (by simp)
  · skip
    refine ojs_arith (z := 6 - 1) (by rw [wrap_in] <;> omega) rfl rfl rfl rfl ?_
    refine ojs_yd (yd_conv (r := w8 (6 - 1)) (by kernel_rfl) (by kernel_rfl) rfl rfl rfl) rfl ?_
    refine ojs_litOwn (j := 1) 95 1 [.int .u8 (w8 (6 - 1))] rfl rfl rfl (by decide) ?_
    intro g1
    refine ojs_yd (yd_conv (r := w8 (node)) (by kernel_rfl) (by kernel_rfl) rfl rfl rfl) rfl ?_
    refine ojs_yd (yd_conv (r := w8 (num)) (by kernel_rfl) (by kernel_rfl) rfl rfl rfl) rfl ?_
    refine ojs_append 1 rfl rfl rfl rfl rfl rfl rfl rfl rfl (by decide) rfl rfl rfl (srcL (news := [.int .u8 (w8 node), .int .u8 (w8 num)]) rfl rfl) rfl (by simp [Value.oneCell']) (by first | omega | (dsimp only; omega)) (by simp only [maxLen]; omega) ?_
    intro a2 c2
    refine endR_weak (wk_seal (j := 1) (enc := byE) (xs := [w8 (6 - 1), w8 node, w8 num]) (.inl rfl) byE_len rfl rfl) ?_
    exact endR_ok [slF byE 1 (.slice a2 ([w8 (6 - 1), w8 node, w8 num]).length c2) ([w8 (6 - 1), w8 node, w8 num])] rfl rfl ⟨rfl, rfl⟩ rfl (fun _ => ⟨a2, c2, rfl, rfl⟩) (by simp)
  · skip
    refine ojs_arith (z := 7 - 1) (by rw [wrap_in] <;> omega) rfl rfl rfl rfl ?_
    refine ojs_yd (yd_conv (r := w8 (7 - 1)) (by kernel_rfl) (by kernel_rfl) rfl rfl rfl) rfl ?_
    refine ojs_litOwn (j := 1) 106 1 [.int .u8 (w8 (7 - 1))] rfl rfl rfl (by decide) ?_
    intro g1
    refine ojs_yd (yd_conv (r := w8 (node)) (by kernel_rfl) (by kernel_rfl) rfl rfl rfl) rfl ?_
    refine ojs_indexA (i := 0) rfl (by decide) rfl rfl rfl rfl ?_
    refine ojs_yd (yd_conv (r := w8 (k0)) (by kernel_rfl) (by kernel_rfl) rfl rfl rfl) rfl ?_
    refine ojs_indexA (i := 1) rfl (by decide) rfl rfl rfl rfl ?_
    refine ojs_yd (yd_conv (r := w8 (k1)) (by kernel_rfl) (by kernel_rfl) rfl rfl rfl) rfl ?_
    refine ojs_append 1 rfl rfl rfl rfl rfl rfl rfl rfl rfl (by decide) rfl rfl rfl (srcL (news := [.int .u8 (w8 node), .int .u8 (w8 k0), .int .u8 (w8 k1)]) rfl rfl) rfl (by simp [Value.oneCell']) (by first | omega | (dsimp only; omega)) (by simp only [maxLen]; omega) ?_
    intro a2 c2
    refine endR_weak (wk_seal (j := 1) (enc := byE) (xs := [w8 (7 - 1), w8 node, w8 k0, w8 k1]) (.inl rfl) byE_len rfl rfl) ?_
    exact endR_ok [slF byE 1 (.slice a2 ([w8 (7 - 1), w8 node, w8 k0, w8 k1]).length c2) ([w8 (7 - 1), w8 node, w8 k0, w8 k1])] rfl rfl ⟨rfl, rfl⟩ rfl (fun _ => ⟨a2, c2, rfl, rfl⟩) (by simp)
  · skip
    refine ojs_arith (z := 8 - 1) (by rw [wrap_in] <;> omega) rfl rfl rfl rfl ?_
    refine ojs_yd (yd_conv (r := w8 (8 - 1)) (by kernel_rfl) (by kernel_rfl) rfl rfl rfl) rfl ?_
    refine ojs_litOwn (j := 1) 87 1 [.int .u8 (w8 (8 - 1))] rfl rfl rfl (by decide) ?_
    intro g1
    refine ojs_yd (yd_conv (r := w8 (node)) (by kernel_rfl) (by kernel_rfl) rfl rfl rfl) rfl ?_
    refine ojs_append 1 rfl rfl rfl rfl rfl rfl rfl rfl rfl (by decide) rfl rfl rfl (srcL (news := [.int .u8 (w8 node)]) rfl rfl) rfl (by simp [Value.oneCell']) (by first | omega | (dsimp only; omega)) (by simp only [maxLen]; omega) ?_
    intro a2 c2
    refine endR_weak (wk_seal (j := 1) (enc := byE) (xs := [w8 (8 - 1), w8 node]) (.inl rfl) byE_len rfl rfl) ?_
    exact endR_ok [slF byE 1 (.slice a2 ([w8 (8 - 1), w8 node]).length c2) ([w8 (8 - 1), w8 node])] rfl rfl ⟨rfl, rfl⟩ rfl (fun _ => ⟨a2, c2, rfl, rfl⟩) (by simp)

end Go.Proofs.YthnkjgffahkecaaGreat
