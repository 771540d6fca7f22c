/- Part 35 of the proof of LockBacks: contracts of functions that the law reaches, or the rules by which they are walked. No condition. -/
import Derived.Test.YtmhnlkakbadkgaaGreatPkbh
import Derived.Test.YtmhnlkakbadkgaaGreatPkbb
import Derived.Lib.AppendZerosOnto
import Derived.Lib.Overlaps
namespace Go.Proofs.YtmhnlkakbadkgaaGreat
open Go.RowKit Go.Shelf
set_option maxRecDepth 100000
attribute [local irreducible] OJs CJs RLs EndR EndP Lv LvR EndX EndPX Yd Wk
theorem may0_c (use mode prio due v f vn : Int) : Cm Tryz.prog 116 [.agg (sltL ⟨use, 0, mode, prio, due, ⟨v, f, vn⟩⟩).toArray] [] [] (rets (.bool (sltB ⟨use, 0, mode, prio, due, ⟨v, f, vn⟩⟩))) := by
  have hS := sltB_iff (x := ⟨use, 0, mode, prio, due, ⟨v, f, vn⟩⟩)
  have hL : sltL ⟨use, 0, mode, prio, due, ⟨v, f, vn⟩⟩ = [.int .i64 use, .int .i64 0, .int .i64 mode, .int .i64 prio, .int .i64 due, .int .i64 v, .int .i64 f, .int .u64 vn] := rfl
  rw [hL]
  dsimp only at hS
  have hT := refTick_c due
  have hT0 : due = 0 → tickB due = true := by rintro rfl; rfl
  have hC := refCtr_c ⟨v, f, vn⟩
  have hW := refWants_c mode prio
  obtain ⟨r0, hr0⟩ : ∃ r0, fitL [4, 4, 8] [.int .i64 v, .int .i64 f, .int .u64 vn] [.int .i64 0, .int .i64 0, .int .u64 0] = some r0 := ⟨_, rfl⟩
  have hr1 : r0 = true ↔ v = 0 ∧ f = 0 ∧ vn = 0 := by
    have : some r0 = some (v == 0 && (f == 0 && (vn == 0 && true))) := hr0.symm.trans rfl
    cases this
    simp
  generalize sltB ⟨use, 0, mode, prio, due, ⟨v, f, vn⟩⟩ = S at hS ⊢
  generalize tickB due = t0 at hT hS hT0
  generalize ctrB ⟨v, f, vn⟩ = c0 at hC hS
  generalize wantB mode prio = q0 at hW hS
  refine cm_of (tab := tb) (ok := tbOk) [.g [.v (.int .i64 use), .v (.int .i64 0), .v (.int .i64 mode), .v (.int .i64 prio), .v (.int .i64 due), .v (.int .i64 v), .v (.int .i64 f), .v (.int .u64 vn)]] Tryz.func116 Tryz.ntmps116 rfl rfl (fun _ _ => rfl) ?_
  intro w0 A0
  refine brB_dec (fun h1 => ?_) (fun h1 => ?_)
  · obtain rfl : S = false := Bool.eq_false_iff.2 fun h => by have := hS.1 h; omega
    exact endR_ok [] rfl rfl ⟨rfl, rfl⟩ rfl (fun _ => ⟨rfl, rfl⟩) (by simp)
  refine brB_dec (fun h2 => ?_) (fun h2 => ?_)
  · obtain rfl : S = false := Bool.eq_false_iff.2 fun h => by have := hS.1 h; omega
    exact endR_ok [] rfl rfl ⟨rfl, rfl⟩ rfl (fun _ => ⟨rfl, rfl⟩) (by simp)
  refine ojs_yd (yd_boolNe (by kernel_rfl) rfl rfl rfl rfl) rfl ?_
  generalize hq : (((0 : Int) == 0) != (use == 0)) = q
  have hq1 : q = true ↔ use ≠ 0 := by rw [← hq]; simp
  clear hq
  cases q
  rotate_left
  · obtain rfl : S = false := Bool.eq_false_iff.2 fun h => by have := hS.1 h; simp at hq1; omega
    exact endR_ok [] rfl rfl ⟨rfl, rfl⟩ rfl (fun _ => ⟨rfl, rfl⟩) (by simp)
  conv => whnf
  refine brB_split (fun h6 => ?_) (fun h6 => ?_)
  · obtain rfl : S = false := Bool.eq_false_iff.2 fun h => by have := hS.1 h; simp at h6; omega
    exact endR_ok [] rfl rfl ⟨rfl, rfl⟩ rfl (fun _ => ⟨rfl, rfl⟩) (by simp)
  refine ojs_yd (yd_neF (xs := [.int .i64 v, .int .i64 f, .int .u64 vn]) (ys := [.int .i64 0, .int .i64 0, .int .u64 0]) (r := _) (ks := [4, 4, 8]) flatCtr okCtr rfl rfl rfl (fun _ => rfl) (fun _ => rfl) hr0) rfl ?_
  cases r0
  · obtain rfl : S = false := Bool.eq_false_iff.2 fun h => by have := hS.1 h; simp at hr1; omega
    exact endR_ok [] rfl rfl ⟨rfl, rfl⟩ rfl (fun _ => ⟨rfl, rfl⟩) (by simp)
  conv => whnf
  refine brB_split (fun h7 => ?_) (fun h7 => ?_)
  · obtain rfl : S = (prio == 0) := by rw [Bool.eq_iff_iff, hS]; simp at *; omega
    exact endR_ok [] rfl rfl ⟨rfl, rfl⟩ rfl (fun _ => ⟨rfl, rfl⟩) (by simp)
  · obtain rfl : S = false := Bool.eq_false_iff.2 fun h => by have := hS.1 h; simp at h7; omega
    exact endR_ok [] rfl rfl ⟨rfl, rfl⟩ rfl (fun _ => ⟨rfl, rfl⟩) (by simp)
theorem may1_c (use mode prio due v f vn : Int) : Cm Tryz.prog 116 [.agg (sltL ⟨use, 1, mode, prio, due, ⟨v, f, vn⟩⟩).toArray] [] [] (rets (.bool (sltB ⟨use, 1, mode, prio, due, ⟨v, f, vn⟩⟩))) := by
  have hS := sltB_iff (x := ⟨use, 1, mode, prio, due, ⟨v, f, vn⟩⟩)
  have hL : sltL ⟨use, 1, mode, prio, due, ⟨v, f, vn⟩⟩ = [.int .i64 use, .int .i64 1, .int .i64 mode, .int .i64 prio, .int .i64 due, .int .i64 v, .int .i64 f, .int .u64 vn] := rfl
  rw [hL]
  dsimp only at hS
  have hT := refTick_c due
  have hT0 : due = 0 → tickB due = true := by rintro rfl; rfl
  have hC := refCtr_c ⟨v, f, vn⟩
  have hW := refWants_c mode prio
  obtain ⟨r0, hr0⟩ : ∃ r0, fitL [4, 4, 8] [.int .i64 v, .int .i64 f, .int .u64 vn] [.int .i64 0, .int .i64 0, .int .u64 0] = some r0 := ⟨_, rfl⟩
  have hr1 : r0 = true ↔ v = 0 ∧ f = 0 ∧ vn = 0 := by
    have : some r0 = some (v == 0 && (f == 0 && (vn == 0 && true))) := hr0.symm.trans rfl
    cases this
    simp
  generalize sltB ⟨use, 1, mode, prio, due, ⟨v, f, vn⟩⟩ = S at hS ⊢
  generalize tickB due = t0 at hT hS hT0
  generalize ctrB ⟨v, f, vn⟩ = c0 at hC hS
  generalize wantB mode prio = q0 at hW hS
  refine cm_of (tab := tb) (ok := tbOk) [.g [.v (.int .i64 use), .v (.int .i64 1), .v (.int .i64 mode), .v (.int .i64 prio), .v (.int .i64 due), .v (.int .i64 v), .v (.int .i64 f), .v (.int .u64 vn)]] Tryz.func116 Tryz.ntmps116 rfl rfl (fun _ _ => rfl) ?_
  intro w0 A0
  refine brB_dec (fun h1 => ?_) (fun h1 => ?_)
  · obtain rfl : S = false := Bool.eq_false_iff.2 fun h => by have := hS.1 h; omega
    exact endR_ok [] rfl rfl ⟨rfl, rfl⟩ rfl (fun _ => ⟨rfl, rfl⟩) (by simp)
  refine brB_dec (fun h2 => ?_) (fun h2 => ?_)
  · obtain rfl : S = false := Bool.eq_false_iff.2 fun h => by have := hS.1 h; omega
    exact endR_ok [] rfl rfl ⟨rfl, rfl⟩ rfl (fun _ => ⟨rfl, rfl⟩) (by simp)
  refine ojs_yd (yd_boolNe (by kernel_rfl) rfl rfl rfl rfl) rfl ?_
  generalize hq : (((1 : Int) == 0) != (use == 0)) = q
  have hq1 : q = true ↔ use = 0 := by rw [← hq]; simp
  clear hq
  cases q
  rotate_left
  · obtain rfl : S = false := Bool.eq_false_iff.2 fun h => by have := hS.1 h; simp at hq1; omega
    exact endR_ok [] rfl rfl ⟨rfl, rfl⟩ rfl (fun _ => ⟨rfl, rfl⟩) (by simp)
  refine ojs_call [] [] rfl rfl rfl rfl rfl rfl rfl (by simp) (fun _ => hT) (by simp) (.inl rfl) ?_
  rintro e cs F1 _ ⟨rfl, rfl⟩
  cases t0
  · obtain rfl : S = false := Bool.eq_false_iff.2 fun h => by have := hS.1 h; grind
    exact endR_ok [] rfl rfl ⟨rfl, rfl⟩ rfl (fun _ => ⟨rfl, rfl⟩) (by simp)
  refine ojs_yd (yd_neF (xs := [.int .i64 v, .int .i64 f, .int .u64 vn]) (ys := [.int .i64 0, .int .i64 0, .int .u64 0]) (r := _) (ks := [4, 4, 8]) flatCtr okCtr rfl rfl rfl (fun _ => rfl) (fun _ => rfl) hr0) rfl ?_
  cases r0
  · obtain rfl : S = false := Bool.eq_false_iff.2 fun h => by have := hS.1 h; simp at hr1; omega
    exact endR_ok [] rfl rfl ⟨rfl, rfl⟩ rfl (fun _ => ⟨rfl, rfl⟩) (by simp)
  refine ojs_call [] [] rfl rfl rfl rfl rfl rfl rfl (by simp) (fun _ => hW) (by simp) (.inl rfl) ?_
  rintro e cs F1 _ ⟨rfl, rfl⟩
  obtain rfl : S = q0 := by rw [Bool.eq_iff_iff, hS]; grind
  exact endR_ok [] rfl rfl ⟨rfl, rfl⟩ rfl (fun _ => ⟨rfl, rfl⟩) (by simp)
theorem may2_c (use mode prio due v f vn : Int) : Cm Tryz.prog 116 [.agg (sltL ⟨use, 2, mode, prio, due, ⟨v, f, vn⟩⟩).toArray] [] [] (rets (.bool (sltB ⟨use, 2, mode, prio, due, ⟨v, f, vn⟩⟩))) := by
  have hS := sltB_iff (x := ⟨use, 2, mode, prio, due, ⟨v, f, vn⟩⟩)
  have hL : sltL ⟨use, 2, mode, prio, due, ⟨v, f, vn⟩⟩ = [.int .i64 use, .int .i64 2, .int .i64 mode, .int .i64 prio, .int .i64 due, .int .i64 v, .int .i64 f, .int .u64 vn] := rfl
  rw [hL]
  dsimp only at hS
  have hT := refTick_c due
  have hT0 : due = 0 → tickB due = true := by rintro rfl; rfl
  have hC := refCtr_c ⟨v, f, vn⟩
  have hW := refWants_c mode prio
  obtain ⟨r0, hr0⟩ : ∃ r0, fitL [4, 4, 8] [.int .i64 v, .int .i64 f, .int .u64 vn] [.int .i64 0, .int .i64 0, .int .u64 0] = some r0 := ⟨_, rfl⟩
  have hr1 : r0 = true ↔ v = 0 ∧ f = 0 ∧ vn = 0 := by
    have : some r0 = some (v == 0 && (f == 0 && (vn == 0 && true))) := hr0.symm.trans rfl
    cases this
    simp
  generalize sltB ⟨use, 2, mode, prio, due, ⟨v, f, vn⟩⟩ = S at hS ⊢
  generalize tickB due = t0 at hT hS hT0
  generalize ctrB ⟨v, f, vn⟩ = c0 at hC hS
  generalize wantB mode prio = q0 at hW hS
  refine cm_of (tab := tb) (ok := tbOk) [.g [.v (.int .i64 use), .v (.int .i64 2), .v (.int .i64 mode), .v (.int .i64 prio), .v (.int .i64 due), .v (.int .i64 v), .v (.int .i64 f), .v (.int .u64 vn)]] Tryz.func116 Tryz.ntmps116 rfl rfl (fun _ _ => rfl) ?_
  intro w0 A0
  refine brB_dec (fun h1 => ?_) (fun h1 => ?_)
  · obtain rfl : S = false := Bool.eq_false_iff.2 fun h => by have := hS.1 h; omega
    exact endR_ok [] rfl rfl ⟨rfl, rfl⟩ rfl (fun _ => ⟨rfl, rfl⟩) (by simp)
  refine brB_dec (fun h2 => ?_) (fun h2 => ?_)
  · obtain rfl : S = false := Bool.eq_false_iff.2 fun h => by have := hS.1 h; omega
    exact endR_ok [] rfl rfl ⟨rfl, rfl⟩ rfl (fun _ => ⟨rfl, rfl⟩) (by simp)
  refine ojs_yd (yd_boolNe (by kernel_rfl) rfl rfl rfl rfl) rfl ?_
  generalize hq : (((2 : Int) == 0) != (use == 0)) = q
  have hq1 : q = true ↔ use = 0 := by rw [← hq]; simp
  clear hq
  cases q
  rotate_left
  · obtain rfl : S = false := Bool.eq_false_iff.2 fun h => by have := hS.1 h; simp at hq1; omega
    exact endR_ok [] rfl rfl ⟨rfl, rfl⟩ rfl (fun _ => ⟨rfl, rfl⟩) (by simp)
  conv => whnf
  refine brB_split (fun h6 => ?_) (fun h6 => ?_)
  · obtain rfl : S = false := Bool.eq_false_iff.2 fun h => by have := hS.1 h; simp at h6; omega
    exact endR_ok [] rfl rfl ⟨rfl, rfl⟩ rfl (fun _ => ⟨rfl, rfl⟩) (by simp)
  refine ojs_call [] [] rfl rfl rfl rfl rfl rfl rfl (by simp) (fun _ => hC) (by simp) (.inl rfl) ?_
  rintro e cs F1 _ ⟨rfl, rfl⟩
  cases c0
  · obtain rfl : S = false := Bool.eq_false_iff.2 fun h => by have := hS.1 h; grind
    exact endR_ok [] rfl rfl ⟨rfl, rfl⟩ rfl (fun _ => ⟨rfl, rfl⟩) (by simp)
  refine ojs_call [] [] rfl rfl rfl rfl rfl rfl rfl (by simp) (fun _ => hW) (by simp) (.inl rfl) ?_
  rintro e cs F1 _ ⟨rfl, rfl⟩
  obtain rfl : S = q0 := by rw [Bool.eq_iff_iff, hS]; grind
  exact endR_ok [] rfl rfl ⟨rfl, rfl⟩ rfl (fun _ => ⟨rfl, rfl⟩) (by simp)
theorem may3_c (use mode prio due v f vn : Int) : Cm Tryz.prog 116 [.agg (sltL ⟨use, 3, mode, prio, due, ⟨v, f, vn⟩⟩).toArray] [] [] (rets (.bool (sltB ⟨use, 3, mode, prio, due, ⟨v, f, vn⟩⟩))) := by
  have hS := sltB_iff (x := ⟨use, 3, mode, prio, due, ⟨v, f, vn⟩⟩)
  have hL : sltL ⟨use, 3, mode, prio, due, ⟨v, f, vn⟩⟩ = [.int .i64 use, .int .i64 3, .int .i64 mode, .int .i64 prio, .int .i64 due, .int .i64 v, .int .i64 f, .int .u64 vn] := rfl
  rw [hL]
  dsimp only at hS
  have hT := refTick_c due
  have hT0 : due = 0 → tickB due = true := by rintro rfl; rfl
  have hC := refCtr_c ⟨v, f, vn⟩
  have hW := refWants_c mode prio
  obtain ⟨r0, hr0⟩ : ∃ r0, fitL [4, 4, 8] [.int .i64 v, .int .i64 f, .int .u64 vn] [.int .i64 0, .int .i64 0, .int .u64 0] = some r0 := ⟨_, rfl⟩
  have hr1 : r0 = true ↔ v = 0 ∧ f = 0 ∧ vn = 0 := by
    have : some r0 = some (v == 0 && (f == 0 && (vn == 0 && true))) := hr0.symm.trans rfl
    cases this
    simp
  generalize sltB ⟨use, 3, mode, prio, due, ⟨v, f, vn⟩⟩ = S at hS ⊢
  generalize tickB due = t0 at hT hS hT0
  generalize ctrB ⟨v, f, vn⟩ = c0 at hC hS
  generalize wantB mode prio = q0 at hW hS
  refine cm_of (tab := tb) (ok := tbOk) [.g [.v (.int .i64 use), .v (.int .i64 3), .v (.int .i64 mode), .v (.int .i64 prio), .v (.int .i64 due), .v (.int .i64 v), .v (.int .i64 f), .v (.int .u64 vn)]] Tryz.func116 Tryz.ntmps116 rfl rfl (fun _ _ => rfl) ?_
  intro w0 A0
  refine brB_dec (fun h1 => ?_) (fun h1 => ?_)
  · obtain rfl : S = false := Bool.eq_false_iff.2 fun h => by have := hS.1 h; omega
    exact endR_ok [] rfl rfl ⟨rfl, rfl⟩ rfl (fun _ => ⟨rfl, rfl⟩) (by simp)
  refine brB_dec (fun h2 => ?_) (fun h2 => ?_)
  · obtain rfl : S = false := Bool.eq_false_iff.2 fun h => by have := hS.1 h; omega
    exact endR_ok [] rfl rfl ⟨rfl, rfl⟩ rfl (fun _ => ⟨rfl, rfl⟩) (by simp)
  refine ojs_yd (yd_boolNe (by kernel_rfl) rfl rfl rfl rfl) rfl ?_
  generalize hq : (((3 : Int) == 0) != (use == 0)) = q
  have hq1 : q = true ↔ use = 0 := by rw [← hq]; simp
  clear hq
  cases q
  rotate_left
  · obtain rfl : S = false := Bool.eq_false_iff.2 fun h => by have := hS.1 h; simp at hq1; omega
    exact endR_ok [] rfl rfl ⟨rfl, rfl⟩ rfl (fun _ => ⟨rfl, rfl⟩) (by simp)
  conv => whnf
  refine brB_split (fun h6 => ?_) (fun h6 => ?_)
  · obtain rfl : S = false := Bool.eq_false_iff.2 fun h => by have := hS.1 h; simp at h6; omega
    exact endR_ok [] rfl rfl ⟨rfl, rfl⟩ rfl (fun _ => ⟨rfl, rfl⟩) (by simp)
  refine ojs_yd (yd_neF (xs := [.int .i64 v, .int .i64 f, .int .u64 vn]) (ys := [.int .i64 0, .int .i64 0, .int .u64 0]) (r := _) (ks := [4, 4, 8]) flatCtr okCtr rfl rfl rfl (fun _ => rfl) (fun _ => rfl) hr0) rfl ?_
  cases r0
  · obtain rfl : S = false := Bool.eq_false_iff.2 fun h => by have := hS.1 h; simp at hr1; omega
    exact endR_ok [] rfl rfl ⟨rfl, rfl⟩ rfl (fun _ => ⟨rfl, rfl⟩) (by simp)
  conv => whnf
  refine brB_split (fun h7 => ?_) (fun h7 => ?_)
  · obtain rfl : S = (prio == 0) := by rw [Bool.eq_iff_iff, hS]; simp at *; omega
    exact endR_ok [] rfl rfl ⟨rfl, rfl⟩ rfl (fun _ => ⟨rfl, rfl⟩) (by simp)
  · obtain rfl : S = false := Bool.eq_false_iff.2 fun h => by have := hS.1 h; simp at h7; omega
    exact endR_ok [] rfl rfl ⟨rfl, rfl⟩ rfl (fun _ => ⟨rfl, rfl⟩) (by simp)
theorem may4_c (use mode prio due v f vn : Int) : Cm Tryz.prog 116 [.agg (sltL ⟨use, 4, mode, prio, due, ⟨v, f, vn⟩⟩).toArray] [] [] (rets (.bool (sltB ⟨use, 4, mode, prio, due, ⟨v, f, vn⟩⟩))) := by
  have hS := sltB_iff (x := ⟨use, 4, mode, prio, due, ⟨v, f, vn⟩⟩)
  have hL : sltL ⟨use, 4, mode, prio, due, ⟨v, f, vn⟩⟩ = [.int .i64 use, .int .i64 4, .int .i64 mode, .int .i64 prio, .int .i64 due, .int .i64 v, .int .i64 f, .int .u64 vn] := rfl
  rw [hL]
  dsimp only at hS
  have hT := refTick_c due
  have hT0 : due = 0 → tickB due = true := by rintro rfl; rfl
  have hC := refCtr_c ⟨v, f, vn⟩
  have hW := refWants_c mode prio
  obtain ⟨r0, hr0⟩ : ∃ r0, fitL [4, 4, 8] [.int .i64 v, .int .i64 f, .int .u64 vn] [.int .i64 0, .int .i64 0, .int .u64 0] = some r0 := ⟨_, rfl⟩
  have hr1 : r0 = true ↔ v = 0 ∧ f = 0 ∧ vn = 0 := by
    have : some r0 = some (v == 0 && (f == 0 && (vn == 0 && true))) := hr0.symm.trans rfl
    cases this
    simp
  generalize sltB ⟨use, 4, mode, prio, due, ⟨v, f, vn⟩⟩ = S at hS ⊢
  generalize tickB due = t0 at hT hS hT0
  generalize ctrB ⟨v, f, vn⟩ = c0 at hC hS
  generalize wantB mode prio = q0 at hW hS
  refine cm_of (tab := tb) (ok := tbOk) [.g [.v (.int .i64 use), .v (.int .i64 4), .v (.int .i64 mode), .v (.int .i64 prio), .v (.int .i64 due), .v (.int .i64 v), .v (.int .i64 f), .v (.int .u64 vn)]] Tryz.func116 Tryz.ntmps116 rfl rfl (fun _ _ => rfl) ?_
  intro w0 A0
  refine brB_dec (fun h1 => ?_) (fun h1 => ?_)
  · obtain rfl : S = false := Bool.eq_false_iff.2 fun h => by have := hS.1 h; omega
    exact endR_ok [] rfl rfl ⟨rfl, rfl⟩ rfl (fun _ => ⟨rfl, rfl⟩) (by simp)
  refine brB_dec (fun h2 => ?_) (fun h2 => ?_)
  · obtain rfl : S = false := Bool.eq_false_iff.2 fun h => by have := hS.1 h; omega
    exact endR_ok [] rfl rfl ⟨rfl, rfl⟩ rfl (fun _ => ⟨rfl, rfl⟩) (by simp)
  refine ojs_yd (yd_boolNe (by kernel_rfl) rfl rfl rfl rfl) rfl ?_
  generalize hq : (((4 : Int) == 0) != (use == 0)) = q
  have hq1 : q = true ↔ use = 0 := by rw [← hq]; simp
  clear hq
  cases q
  rotate_left
  · obtain rfl : S = false := Bool.eq_false_iff.2 fun h => by have := hS.1 h; simp at hq1; omega
    exact endR_ok [] rfl rfl ⟨rfl, rfl⟩ rfl (fun _ => ⟨rfl, rfl⟩) (by simp)
  conv => whnf
  refine brB_split (fun h6 => ?_) (fun h6 => ?_)
  · obtain rfl : S = false := Bool.eq_false_iff.2 fun h => by have := hS.1 h; simp at h6; omega
    exact endR_ok [] rfl rfl ⟨rfl, rfl⟩ rfl (fun _ => ⟨rfl, rfl⟩) (by simp)
  refine ojs_yd (yd_neF (xs := [.int .i64 v, .int .i64 f, .int .u64 vn]) (ys := [.int .i64 0, .int .i64 0, .int .u64 0]) (r := _) (ks := [4, 4, 8]) flatCtr okCtr rfl rfl rfl (fun _ => rfl) (fun _ => rfl) hr0) rfl ?_
  cases r0
  · obtain rfl : S = false := Bool.eq_false_iff.2 fun h => by have := hS.1 h; simp at hr1; omega
    exact endR_ok [] rfl rfl ⟨rfl, rfl⟩ rfl (fun _ => ⟨rfl, rfl⟩) (by simp)
  conv => whnf
  refine brB_split (fun h7 => ?_) (fun h7 => ?_)
  · obtain rfl : S = (prio == 0) := by rw [Bool.eq_iff_iff, hS]; simp at *; omega
    exact endR_ok [] rfl rfl ⟨rfl, rfl⟩ rfl (fun _ => ⟨rfl, rfl⟩) (by simp)
  · obtain rfl : S = false := Bool.eq_false_iff.2 fun h => by have := hS.1 h; simp at h7; omega
    exact endR_ok [] rfl rfl ⟨rfl, rfl⟩ rfl (fun _ => ⟨rfl, rfl⟩) (by simp)
theorem may5_c (use mode prio due v f vn : Int) : Cm Tryz.prog 116 [.agg (sltL ⟨use, 5, mode, prio, due, ⟨v, f, vn⟩⟩).toArray] [] [] (rets (.bool (sltB ⟨use, 5, mode, prio, due, ⟨v, f, vn⟩⟩))) := by
  have hS := sltB_iff (x := ⟨use, 5, mode, prio, due, ⟨v, f, vn⟩⟩)
  have hL : sltL ⟨use, 5, mode, prio, due, ⟨v, f, vn⟩⟩ = [.int .i64 use, .int .i64 5, .int .i64 mode, .int .i64 prio, .int .i64 due, .int .i64 v, .int .i64 f, .int .u64 vn] := rfl
  rw [hL]
  dsimp only at hS
  have hT := refTick_c due
  have hT0 : due = 0 → tickB due = true := by rintro rfl; rfl
  have hC := refCtr_c ⟨v, f, vn⟩
  have hW := refWants_c mode prio
  obtain ⟨r0, hr0⟩ : ∃ r0, fitL [4, 4, 8] [.int .i64 v, .int .i64 f, .int .u64 vn] [.int .i64 0, .int .i64 0, .int .u64 0] = some r0 := ⟨_, rfl⟩
  have hr1 : r0 = true ↔ v = 0 ∧ f = 0 ∧ vn = 0 := by
    have : some r0 = some (v == 0 && (f == 0 && (vn == 0 && true))) := hr0.symm.trans rfl
    cases this
    simp
  generalize sltB ⟨use, 5, mode, prio, due, ⟨v, f, vn⟩⟩ = S at hS ⊢
  generalize tickB due = t0 at hT hS hT0
  generalize ctrB ⟨v, f, vn⟩ = c0 at hC hS
  generalize wantB mode prio = q0 at hW hS
  refine cm_of (tab := tb) (ok := tbOk) [.g [.v (.int .i64 use), .v (.int .i64 5), .v (.int .i64 mode), .v (.int .i64 prio), .v (.int .i64 due), .v (.int .i64 v), .v (.int .i64 f), .v (.int .u64 vn)]] Tryz.func116 Tryz.ntmps116 rfl rfl (fun _ _ => rfl) ?_
  intro w0 A0
  refine brB_dec (fun h1 => ?_) (fun h1 => ?_)
  · obtain rfl : S = false := Bool.eq_false_iff.2 fun h => by have := hS.1 h; omega
    exact endR_ok [] rfl rfl ⟨rfl, rfl⟩ rfl (fun _ => ⟨rfl, rfl⟩) (by simp)
  refine brB_dec (fun h2 => ?_) (fun h2 => ?_)
  · obtain rfl : S = false := Bool.eq_false_iff.2 fun h => by have := hS.1 h; omega
    exact endR_ok [] rfl rfl ⟨rfl, rfl⟩ rfl (fun _ => ⟨rfl, rfl⟩) (by simp)
  refine ojs_yd (yd_boolNe (by kernel_rfl) rfl rfl rfl rfl) rfl ?_
  generalize hq : (((5 : Int) == 0) != (use == 0)) = q
  have hq1 : q = true ↔ use = 0 := by rw [← hq]; simp
  clear hq
  cases q
  rotate_left
  · obtain rfl : S = false := Bool.eq_false_iff.2 fun h => by have := hS.1 h; simp at hq1; omega
    exact endR_ok [] rfl rfl ⟨rfl, rfl⟩ rfl (fun _ => ⟨rfl, rfl⟩) (by simp)
  conv => whnf
  refine brB_split (fun h6 => ?_) (fun h6 => ?_)
  · obtain rfl : S = false := Bool.eq_false_iff.2 fun h => by have := hS.1 h; simp at h6; omega
    exact endR_ok [] rfl rfl ⟨rfl, rfl⟩ rfl (fun _ => ⟨rfl, rfl⟩) (by simp)
  refine ojs_yd (yd_neF (xs := [.int .i64 v, .int .i64 f, .int .u64 vn]) (ys := [.int .i64 0, .int .i64 0, .int .u64 0]) (r := _) (ks := [4, 4, 8]) flatCtr okCtr rfl rfl rfl (fun _ => rfl) (fun _ => rfl) hr0) rfl ?_
  cases r0
  · obtain rfl : S = false := Bool.eq_false_iff.2 fun h => by have := hS.1 h; simp at hr1; omega
    exact endR_ok [] rfl rfl ⟨rfl, rfl⟩ rfl (fun _ => ⟨rfl, rfl⟩) (by simp)
  conv => whnf
  refine brB_split (fun h7 => ?_) (fun h7 => ?_)
  · obtain rfl : S = (prio == 0) := by rw [Bool.eq_iff_iff, hS]; simp at *; omega
    exact endR_ok [] rfl rfl ⟨rfl, rfl⟩ rfl (fun _ => ⟨rfl, rfl⟩) (by simp)
  · obtain rfl : S = false := Bool.eq_false_iff.2 fun h => by have := hS.1 h; simp at h7; omega
    exact endR_ok [] rfl rfl ⟨rfl, rfl⟩ rfl (fun _ => ⟨rfl, rfl⟩) (by simp)
theorem mayOut_c (use state mode prio due v f vn : Int) (h : state < 0 ∨ 5 < state) : Cm Tryz.prog 116 [.agg (sltL ⟨use, state, mode, prio, due, ⟨v, f, vn⟩⟩).toArray] [] [] (rets (.bool (sltB ⟨use, state, mode, prio, due, ⟨v, f, vn⟩⟩))) := by
  have hS : sltB ⟨use, state, mode, prio, due, ⟨v, f, vn⟩⟩ = false := Bool.eq_false_iff.2 fun h => by have := sltB_iff.1 h; dsimp only at this; omega
  rw [hS]
  have hL : sltL ⟨use, state, mode, prio, due, ⟨v, f, vn⟩⟩ = [.int .i64 use, .int .i64 state, .int .i64 mode, .int .i64 prio, .int .i64 due, .int .i64 v, .int .i64 f, .int .u64 vn] := rfl
  rw [hL]
  refine cm_of (tab := tb) (ok := tbOk) [.g [.v (.int .i64 use), .v (.int .i64 state), .v (.int .i64 mode), .v (.int .i64 prio), .v (.int .i64 due), .v (.int .i64 v), .v (.int .i64 f), .v (.int .u64 vn)]] Tryz.func116 Tryz.ntmps116 rfl rfl (fun _ _ => rfl) ?_
  intro w0 A0
  refine brB_dec (fun h1 => ?_) (fun h1 => ?_)
  · exact endR_ok [] rfl rfl ⟨rfl, rfl⟩ rfl (fun _ => ⟨rfl, rfl⟩) (by simp)
  refine brB_dec (fun h2 => ?_) (fun h2 => ?_)
  · exact endR_ok [] rfl rfl ⟨rfl, rfl⟩ rfl (fun _ => ⟨rfl, rfl⟩) (by simp)
  refine brB_dec (fun h3 => ?_) (fun h3 => ?_)
  · exact endR_ok [] rfl rfl ⟨rfl, rfl⟩ rfl (fun _ => ⟨rfl, rfl⟩) (by simp)
  refine brB_dec (fun h4 => ?_) (fun h4 => ?_)
  · exact endR_ok [] rfl rfl ⟨rfl, rfl⟩ rfl (fun _ => ⟨rfl, rfl⟩) (by simp)
  omega
theorem refSlotMay_c (x : Slt) : Cm Tryz.prog 116 [.agg (sltL x).toArray] [] [] (rets (.bool (sltB x))) := by
  obtain ⟨use, state, mode, prio, due, ⟨v, f, vn⟩⟩ := x
  by_cases h : state < 0 ∨ 5 < state
  · exact mayOut_c use state mode prio due v f vn h
  have hz : state = 0 ∨ state = 1 ∨ state = 2 ∨ state = 3 ∨ state = 4 ∨ state = 5 := by omega
  rcases hz with rfl | rfl | rfl | rfl | rfl | rfl
  · exact may0_c use mode prio due v f vn
  · exact may1_c use mode prio due v f vn
  · exact may2_c use mode prio due v f vn
  · exact may3_c use mode prio due v f vn
  · exact may4_c use mode prio due v f vn
  · exact may5_c use mode prio due v f vn
end Go.Proofs.YtmhnlkakbadkgaaGreat
namespace Go.Proofs.YtmhnlkakbadkgaaGreat
open Go.RowKit Go.Shelf
set_option maxRecDepth 100000
theorem refSlots_c (n l s : Int) (a : Option Addr) (cap : Nat) (xs : List Slt) (hx : xs.length ≤ 1000000) : Cm Tryz.prog 61 [.agg #[.int .i64 n, .int .i64 l, .int .i64 s], .slice a xs.length cap] [] [slF sltL 8 (.slice a xs.length cap) xs] (rets (.bool (slotsB n l s xs))) := by
  refine cm_of (tab := tb) (ok := tbOk) [.g [.v (.int .i64 n), .v (.int .i64 l), .v (.int .i64 s)], .o (.v (.slice a xs.length cap))] Tryz.func61 Tryz.ntmps61 rfl rfl (fun _ _ => rfl) ?_
  intro w0 A0
  refine ojs_call [] [] rfl rfl rfl rfl rfl rfl rfl (by simp) (fun _ => refShape_c n l s) (by simp) (.inl rfl) ?_
  rintro e cs F1 _ ⟨rfl, rfl⟩
  unfold slotsB
  cases hs : shapeB n l s
  · exact endR_ok [] rfl rfl ⟨rfl, rfl⟩ rfl (fun _ => ⟨rfl, rfl⟩) (by simp)
  refine brB_split (fun h1 => ?_) (fun h1 => ?_)
  · have e : decide ((xs.length : Int) = s) = false := by simp at h1; simpa using h1
    rw [e]
    exact endR_ok [] rfl rfl ⟨rfl, rfl⟩ rfl (fun _ => ⟨rfl, rfl⟩) (by simp)
  have e : decide ((xs.length : Int) = s) = true := by simp at h1; simpa using h1
  rw [e]
  refine cjs_loopP (γ := Nat) (fun k => k ≤ xs.length ∧ ∀ (j : Nat) x, j < k → xs[j]? = some x → sltB x = true) (fun k => [(5, .o (.v (.int .i64 k)))]) (fun _ => []) (fun _ => []) (fun k => xs.length - k) 0 ⟨Nat.zero_le _, fun j x hj => by omega⟩ (wk_patch (by repeat' (first | exact trivial | exact Or.inl rfl | refine Or.inr ⟨?_, ?_⟩ | rfl | refine ⟨?_, ?_⟩ | exact lt_all_v)) (by repeat' (first | exact trivial | exact Or.inl rfl | refine Or.inr ⟨?_, ?_⟩ | rfl | refine ⟨?_, ?_⟩ | exact lt_all_v)) (fun f hf => hf) (by simp) D_nil) ?_
  rintro k ⟨hk, hyes⟩
  refine brB_dec (fun h1 => ?_) (fun h1 => ?_)
  · obtain ⟨x, hx⟩ := at_some (xs := xs) (k := k) (by omega)
    refine ojs_fact (slF sltL 8 (.slice a xs.length cap) xs) (by simp) (slF_neE hx) ?_
    rintro ⟨b, off, rfl⟩
    refine ojs_index rfl (by omega) rfl rfl rfl rfl ?_
    refine ojs_loadN (vs := sltL x) (slF sltL 8 (.slice (some ⟨b, off, none⟩) xs.length cap) xs) (by simp) (slF_atN hx) rfl rfl rfl ?_
    refine ojs_call [] [] rfl rfl rfl rfl rfl rfl rfl (by simp) (fun _ => refSlotMay_c x) (by simp) (.inl rfl) ?_
    rintro e cs F1 _ ⟨rfl, rfl⟩
    cases hpx : sltB x
    · have hall : xs.all sltB = false := all_noE hx hpx
      (rw [hall]; exact endR_ok [] rfl rfl ⟨rfl, rfl⟩ rfl (fun _ => ⟨rfl, rfl⟩) (by simp))
    · refine ojs_arith (z := ((k + 1 : Nat) : Int)) (by first | decide | (rw [wrap_in] <;> omega) | (dsimp only; rw [wrap_in] <;> omega)) rfl rfl rfl rfl ?_
      refine ⟨k + 1, ⟨by omega, fun j y hj hy => ?_⟩, (by first | omega | (dsimp only; omega)), wk_patch (by repeat' (first | exact trivial | exact Or.inl rfl | refine Or.inr ⟨?_, ?_⟩ | rfl | refine ⟨?_, ?_⟩ | exact lt_all_v)) (by repeat' (first | exact trivial | exact Or.inl rfl | refine Or.inr ⟨?_, ?_⟩ | rfl | refine ⟨?_, ?_⟩ | exact lt_all_v)) (fun f hf => hf) (by simp) D_nil⟩
      rcases Nat.lt_succ_iff_lt_or_eq.1 hj with h | rfl
      · exact hyes j y h hy
      · rw [hx] at hy; cases hy; exact hpx
  · have hall : xs.all sltB = true := all_yesE (by omega) hyes
    (rw [hall]; exact endR_ok [] rfl rfl ⟨rfl, rfl⟩ rfl (fun _ => ⟨rfl, rfl⟩) (by simp))
end Go.Proofs.YtmhnlkakbadkgaaGreat
namespace Go.Proofs.YtmhnlkakbadkgaaGreat
open Go.RowKit Go.Shelf
set_option maxRecDepth 100000
deriving instance DecidableEq for Own
structure Lck where
  tree : Bool
  has : Bool
  tok : Tok
  last : Int
  own : Own
  known : List Sta
  slots : List Slt
  tries : List Try
  deriving DecidableEq
structure LckS where
  tok : Sls
  a4 : Option Addr
  c4 : Nat
  a5 : Option Addr
  c5 : Nat
  a6 : Option Addr
  c6 : Nat
def lckV (x : Lck) (p : LckS) : List Value := [.bool x.tree, .bool x.has, .int .i64 x.tok.age, .slice p.tok.a1 x.tok.seq.length p.tok.c1, .slice p.tok.a2 x.tok.q.length p.tok.c2, .slice p.tok.a3 x.tok.hs.length p.tok.c3, .int .i64 x.tok.c.value, .int .i64 x.tok.c.floor, .int .u64 x.tok.c.version, .int .i64 x.last, .int .i64 x.own.node, .int .i64 x.own.hop, .slice p.a4 x.known.length p.c4, .slice p.a5 x.slots.length p.c5, .slice p.a6 x.tries.length p.c6]
def lckF (x : Lck) (p : LckS) : List Fact := [slF encI 1 (.slice p.tok.a1 x.tok.seq.length p.tok.c1) x.tok.seq, slF wtL 5 (.slice p.tok.a2 x.tok.q.length p.tok.c2) x.tok.q, slF hdL 3 (.slice p.tok.a3 x.tok.hs.length p.tok.c3) x.tok.hs, slF staL 4 (.slice p.a4 x.known.length p.c4) x.known, slF sltL 8 (.slice p.a5 x.slots.length p.c5) x.slots, slF tryL 3 (.slice p.a6 x.tries.length p.c6) x.tries]
def Lck.small (x : Lck) : Prop := x.tok.small ∧ x.known.length ≤ 1000000 ∧ x.slots.length ≤ 1000000 ∧ x.tries.length ≤ 1000000
def undK (x : Lck) (p : LckS) (pl : Plc) : List Value := lckV x p ++ [.int .i64 pl.n, .int .i64 pl.l, .int .i64 pl.s, .int .i64 pl.me, .int .i64 pl.lock, .int .i64 pl.limit, .int .i64 pl.retry, .int .i64 pl.far, .int .i64 pl.now, .bool pl.still, .slice none 0 0]
def triesB (s : Int) (xs : List Try) : Bool := decide ((xs.length : Int) = s) && xs.all tryB
def tok0 : Tok := ⟨0, [], [], [], ⟨0, 0, 0⟩⟩
def sls0 : Sls := ⟨none, 0, none, 0, none, 0⟩
def carB (n l s : Int) (x : Lck) : Bool := bif !x.has && decide (x.last = 0) then decide (x.tok = tok0) else decide (0 < x.last) && decide (x.tok.age = x.last) && tokB n l s x.tok
theorem slF_nilE {α : Type} (enc : α → List Value) (k : Nat) (A : Nat → Prop) (w : World) : (slF enc k (.slice none 0 0) ([] : List α)).h A w := ⟨none, 0, rfl, ⟨Nat.le_refl _, fun _ => rfl⟩, .inl rfl⟩
theorem tok0_facts {A : Nat → Prop} {w : World} : ∀ f ∈ tokF tok0 sls0, f.h A w := by
  intro f hf
  simp only [tokF, tok0, sls0, List.mem_cons, List.not_mem_nil, or_false] at hf
  rcases hf with rfl | rfl | rfl
  · exact slF_nilE _ _ _ _
  · exact slF_nilE _ _ _ _
  · exact slF_nilE _ _ _ _
theorem tok0_small : tok0.small := ⟨by decide, by decide, by decide⟩
theorem tokZ_c {f : Nat} {x : Tok} {p : Sls} (h : Cm Tryz.prog f [.agg (tokV x p).toArray, .agg (tokV tok0 sls0).toArray] [] (tokF x p ++ tokF tok0 sls0) (rets (.bool (decide (x = tok0))))) : Cm Tryz.prog f [.agg (tokV x p).toArray, .agg (tokV tok0 sls0).toArray] [] (tokF x p) (rets (.bool (decide (x = tok0)))) :=
  h.facts fun A w hF f hf => by
    rcases List.mem_append.1 hf with hf | hf
    · exact hF f hf
    · exact tok0_facts f hf
end Go.Proofs.YtmhnlkakbadkgaaGreat
namespace Go.Proofs.YtmhnlkakbadkgaaGreat
open Go.RowKit Go.Shelf
section
variable {X : Fx} {o : Oper} {T : TE} {L : LE} {n : Nat} {F : List Fact} {D : DF} {K : KK} {k : KS} {c : Code}
end
section
variable {α : Type} {enc : α → List Value} {k : Nat}
end
section
variable {X : Fx} {o : Oper} {T : TE} {L : LE} {n : Nat} {F : List Fact} {D : DF} {K : KK} {k : KS}
end
end Go.Proofs.YtmhnlkakbadkgaaGreat
