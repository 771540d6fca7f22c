/- Acts, by the symbolic run: the law's own works. -/
import Derived.Test.YthnkjgffahkecaaGreatScCf
namespace Go.Proofs.YthnkjgffahkecaaGreat
open Go.RowKit Go.Shelf

set_option maxHeartbeats 2000000 in
theorem works_c : Cm Tryz.prog 5 [] [] [] (rets (.bool true)) := by
  refine cm_of (tab := tb) (ok := tbOk) [] Tryz.func5 Tryz.ntmps5 rfl rfl (fun _ _ => rfl) ?_
  intro w0 A0
  refine ojs_call [] [] rfl rfl rfl rfl rfl rfl rfl (by simp) (fun _ => config_c) (by simp) (.inl rfl) ?_
  rintro e cs F1 _ ⟨b1, rfl, rfl⟩
  refine ojs_yd (yd_buildA rfl rfl rfl rfl rfl) rfl ?_
  refine ojs_litOwn (j := 0) (m := 3) 14 14 ([wa1, wa2, wa3].flatMap actL) rfl rfl rfl (by decide) ?_
  intro g1
  refine ojs_weak (wk_seal (j := 0) (enc := actL) (xs := [wa1, wa2, wa3]) (.inl rfl) actL_len rfl rfl) ?_
  have h1 := scriptRaw_c cfg0 (some ⟨b1, 0, none⟩) 1 (some ⟨g1, 0, none⟩) 3 [wa1, wa2, wa3] (by decide) (by decide) (by decide) (by unfold AcOk2; decide)
  rw [raw_w1] at h1
  refine ojs_call [] [] rfl rfl rfl rfl rfl rfl rfl (by simp) (fun _ => h1) (by simp) (.inl rfl) ?_
  rintro e cs F1 _ ⟨a2, c2, rfl, rfl⟩
  refine ojs_call [] [] rfl rfl rfl rfl rfl rfl rfl (by simp) (fun _ => config_c) (by simp) (.inl rfl) ?_
  rintro e cs F1 _ ⟨b2, rfl, rfl⟩
  refine ojs_litOwn (j := 1) (m := 3) 19 1 (([9, 3, 2] : List Int).flatMap byE) rfl rfl rfl (by decide) ?_
  intro g2
  refine ojs_weak (wk_seal (j := 1) (enc := byE) (xs := [9, 3, 2]) (.inl rfl) byE_len rfl rfl) ?_
  have h2 := acts_c cfg0 (some ⟨b2, 0, none⟩) 1 (some ⟨g2, 0, none⟩) 3 [9, 3, 2] (by decide) (by decide) (by decide) (by decide)
  rw [acts_w] at h2
  refine ojs_call [] [] rfl rfl rfl rfl rfl rfl rfl (by simp) (fun _ => h2) (by simp) (.inl rfl) ?_
  rintro e cs F1 _ ⟨a3, c3, rfl, rfl⟩
  refine ojs_call [] [] rfl rfl rfl rfl rfl rfl rfl (by simp) (fun _ => config_c) (by simp) (.inl rfl) ?_
  rintro e cs F1 _ ⟨b3, rfl, rfl⟩
  refine ojs_litOwn (j := 2) (m := 1) 24 14 ([wa5].flatMap actL) rfl rfl rfl (by decide) ?_
  intro g3
  refine ojs_weak (wk_seal (j := 2) (enc := actL) (xs := [wa5]) (.inl rfl) actL_len rfl rfl) ?_
  have h3 := scriptRaw_c cfg0 (some ⟨b3, 0, none⟩) 1 (some ⟨g3, 0, none⟩) 1 [wa5] (by decide) (by decide) (by decide) (by unfold AcOk2; decide)
  rw [raw_w2] at h3
  refine ojs_call [] [] rfl rfl rfl rfl rfl rfl rfl (by simp) (fun _ => h3) (by simp) (.inl rfl) ?_
  rintro e cs F1 _ ⟨a4, c4, rfl, rfl⟩
  refine ojs_call [] [] rfl rfl rfl rfl rfl rfl rfl (by simp) (fun _ => num_c 0) (by simp) (.inl rfl) ?_
  rintro e cs F1 _ ⟨rfl, rfl⟩
  refine ojs_yd (yd_str (xs := [0, 1, 0, 0, 4, 2, 0, 0, 0, 6, 0, 0, 2, 126, 6, 1, 4, 5]) (by simp) (by kernel_rfl) (by kernel_rfl) rfl rfl) rfl ?_
  refine ojs_yd (yd_strEq (r := true) (by decide) rfl rfl rfl) rfl ?_
  refine ojs_litOwn (j := 3) (m := 1) 39 14 ([wa4].flatMap actL) rfl rfl rfl (by decide) ?_
  intro g4
  refine ojs_weak (wk_seal (j := 3) (enc := actL) (xs := [wa4]) (.inl rfl) actL_len rfl rfl) ?_
  have h4 := sameActs_c a3 c3 [wa4] (some ⟨g4, 0, none⟩) 1 [wa4] (by decide)
  refine ojs_call [] [] rfl rfl rfl rfl rfl rfl rfl (by simp) (fun _ => h4) (by simp) (.inl rfl) ?_
  rintro e cs F1 _ ⟨r, h5, rfl, rfl⟩
  cases r
  · simp at h5
  refine ojs_call [] [] rfl rfl rfl rfl rfl rfl rfl (by simp) (fun _ => num_c 350) (by simp) (.inl rfl) ?_
  rintro e cs F1 _ ⟨rfl, rfl⟩
  exact endR_ok [] rfl rfl ⟨rfl, rfl⟩ rfl (fun _ => ⟨rfl, rfl⟩) (by simp)

end Go.Proofs.YthnkjgffahkecaaGreat
