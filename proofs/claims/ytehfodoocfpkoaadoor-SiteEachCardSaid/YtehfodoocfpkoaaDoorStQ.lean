/- Sites, by the symbolic run: SiteNumbers. -/
import Derived.Test.YtehfodoocfpkoaaDoorStJ
namespace Go.Proofs.YtehfodoocfpkoaaDoor
open Go.RowKit Go.Shelf

theorem site_back {n s p q : Int} (hs : 1 ≤ s) (h0 : 0 ≤ p) (hn : p ≤ n - 1) (h1 : 0 ≤ q) (h2 : q ≤ s - 1) : (0 ≤ p * s + q ∧ p * s + q ≤ n * s - 1) ∧ (p * s + q).tdiv s = p ∧ (p * s + q).tmod s = q ∧ 0 ≤ p * s := by
  have hps : 0 ≤ p * s := Int.mul_nonneg h0 (by omega)
  have hle : p * s ≤ (n - 1) * s := Int.mul_le_mul_of_nonneg_right hn (by omega)
  rw [Int.sub_mul, Int.one_mul] at hle
  have hd : (p * s + q) / s = p := by
    rw [Int.add_comm, Int.add_mul_ediv_right _ _ (by omega), Int.ediv_eq_zero_of_lt h1 (by omega)]; omega
  have hm : (p * s + q) % s = q := by
    rw [Int.add_comm, Int.add_mul_emod_self_right]; exact Int.emod_eq_of_lt h1 (by omega)
  refine ⟨⟨by omega, by omega⟩, ?_, ?_, hps⟩
  · rw [Int.tdiv_eq_ediv_of_nonneg (by omega)]; exact hd
  · rw [Int.tmod_eq_emod_of_nonneg (by omega)]; exact hm
theorem sites_len {n l s : Int} (h : shapeB n l s = true) : ((sitesX n l s).length : Int) = n * s := by
  have := shapeB_is h
  unfold sitesX
  rw [if_pos h, List.length_range, Int.natCast_mul, Int.toNat_of_nonneg (by omega), Int.toNat_of_nonneg (by omega)]

set_option maxRecDepth 20000 in
set_option maxHeartbeats 4000000 in
theorem numbers_law (n l s p q z : Int) : Cm Tryd.prog 3 [.agg #[.int .i64 n, .int .i64 l, .int .i64 s], .agg #[.int .i64 p, .int .i64 q], .int .i64 z] [] [libF] (rets (.bool true)) := by
  refine cm_of (tab := tb) (ok := tbOk) [.g [.v (.int .i64 n), .v (.int .i64 l), .v (.int .i64 s)], .g [.v (.int .i64 p), .v (.int .i64 q)], .o (.v (.int .i64 z))] Tryd.func3 Tryd.ntmps3 rfl rfl (fun _ _ => rfl) ?_
  intro w0 A0
  have c1 := sites_c n l s
  have c2 := site_c n l s p q
  have c3 := of_c n l s z
  have c4 := refShape_c n l s
  have c5 := check_c n l s
  cases hs : shapeB n l s
  · have e1 : sitesX n l s = [] := by unfold sitesX; rw [hs]; rfl
    have e2 : siteX n l s p q = (0, 2) := by unfold siteX; rw [hs]; rfl
    have e3 : ofX n l s z = (0, 0, 2) := by unfold ofX; rw [hs]; rfl
    have e4 : askE (shapeB n l s) true = 2 := by rw [hs]; rfl
    rw [e1, e4] at c1
    rw [e2] at c2
    rw [e3] at c3
    rw [hs] at c4
    rw [e4] at c5
    clear e1 e2 e3 e4
    refine ojs_call [] [] rfl rfl rfl rfl rfl rfl rfl (by simp) (fun _ => c1) (by simp) (.inl rfl) ?_
    rintro e cs F1 _ ⟨rfl, rfl⟩
    refine ojs_indexA (i := 0) rfl (by decide) rfl rfl rfl rfl ?_
    refine ojs_indexA (i := 1) rfl (by decide) rfl rfl rfl rfl ?_
    refine ojs_call [] [] rfl rfl rfl rfl rfl rfl rfl (by simp) (fun _ => c2) (by simp) (.inl rfl) ?_
    rintro e cs F1 _ ⟨rfl, rfl⟩
    refine ojs_call [] [] rfl rfl rfl rfl rfl rfl rfl (by simp) (fun _ => c3) (by simp) (.inl rfl) ?_
    rintro e cs F1 _ ⟨rfl, rfl⟩
    refine ojs_call [] [] rfl rfl rfl rfl rfl rfl rfl (by simp) (fun _ => c4) (by simp) (.inl rfl) ?_
    rintro e cs F1 _ ⟨rfl, rfl⟩
    refine ojs_arith (z := 0) (by decide) rfl rfl rfl rfl ?_
    refine ojs_call [] [] rfl rfl rfl rfl rfl rfl rfl (by simp) (fun _ => num_c 2) (by simp) (.inl rfl) ?_
    rintro e cs F1 _ ⟨rfl, rfl⟩
    refine ojs_call [] [] rfl rfl rfl rfl rfl rfl rfl (by simp) (fun _ => num_c 2) (by simp) (.inl rfl) ?_
    rintro e cs F1 _ ⟨rfl, rfl⟩
    refine ojs_call [] [] rfl rfl rfl rfl rfl rfl rfl (by simp) (fun _ => num_c 2) (by simp) (.inl rfl) ?_
    rintro e cs F1 _ ⟨rfl, rfl⟩
    refine ojs_call [] [] rfl rfl rfl rfl rfl rfl rfl (by simp) (fun _ => c5) (by simp) (.inl rfl) ?_
    rintro e cs F1 _ ⟨rfl, rfl⟩
    refine ojs_call [] [] rfl rfl rfl rfl rfl rfl rfl (by simp) (fun _ => num_c 2) (by simp) (.inl rfl) ?_
    rintro e cs F1 _ ⟨rfl, rfl⟩
    refine ojs_call [] [] rfl rfl rfl rfl rfl rfl rfl (by simp) (fun _ => works_c) (by simp) (.inl rfl) ?_
    rintro e cs F1 _ ⟨rfl, rfl⟩
    exact endR_ok [] rfl rfl ⟨rfl, rfl⟩ rfl (fun _ => ⟨rfl, rfl⟩) (by simp)
  have hb := shapeB_is hs
  have hns0 : 1 ≤ n * s := Int.mul_pos (by omega) (by omega)
  have hns : n * s ≤ 64 * 4 := Int.mul_le_mul (by omega) (by omega) (by omega) (by omega)
  have e4 : askE (shapeB n l s) true = 0 := by rw [hs]; rfl
  rw [sites_len hs, e4] at c1
  rw [hs] at c4
  rw [e4] at c5
  have c6 := refSlot_c n l s p q
  have e2 : siteX n l s p q = bif (inB p 0 (n - 1) && inB q 0 (s - 1)) then (p * s + q, 0) else (0, 4) := by unfold siteX; rw [hs]; rfl
  have e3 : ofX n l s z = bif inB z 0 (n * s - 1) then (z.tdiv s, z.tmod s, 0) else (0, 0, 4) := by unfold ofX; rw [hs]; rfl
  rw [e2] at c2
  rw [e3] at c3
  clear e2 e3 e4
  obtain ⟨zs, hzs⟩ : ∃ zs : Int × Int × Int, zs = bif inB z 0 (n * s - 1) then (z.tdiv s, z.tmod s, 0) else (0, 0, 4) := ⟨_, rfl⟩
  rw [← hzs] at c3
  obtain ⟨z1, z2, z3⟩ := zs
  dsimp only at c3
  obtain ⟨N, hN⟩ : ∃ N, N = n * s := ⟨_, rfl⟩
  rw [← hN] at c1 hzs hns hns0
  by_cases hslot : (0 ≤ p ∧ p ≤ n - 1) ∧ (0 ≤ q ∧ q ≤ s - 1)
  · obtain ⟨hp, hq⟩ := hslot
    have f1 : (inB p 0 (n - 1) && inB q 0 (s - 1)) = true := by unfold inB; simp; omega
    have f2 : (decide (0 ≤ p) && decide (p < n) && decide (0 ≤ q) && decide (q < s)) = true := by simp; omega
    rw [f1] at c2
    rw [f2] at c6
    obtain ⟨hbk, hd, hm, hps⟩ := site_back (n := n) (by omega) hp.1 hp.2 hq.1 hq.2
    have c7 := of_c n l s (p * s + q)
    have e7 : ofX n l s (p * s + q) = (p, q, 0) := by
      unfold ofX
      rw [hs, show inB (p * s + q) 0 (n * s - 1) = true by unfold inB; simp; omega, hd, hm]
      rfl
    rw [e7] at c7
    dsimp only [cond] at c2 c7
    clear e7 f1 f2 hd hm
    obtain ⟨r, hr⟩ : ∃ r, r = p * s := ⟨_, rfl⟩
    obtain ⟨x, hx⟩ : ∃ x, x = p * s + q := ⟨_, rfl⟩
    rw [← hx] at c2 c7
    rw [← hr, ← hN] at hbk
    rw [← hr] at hps
    refine ojs_call [] [] rfl rfl rfl rfl rfl rfl rfl (by simp) (fun _ => c1) (by simp) (.inl rfl) ?_
    rintro e cs F1 _ ⟨rfl, rfl⟩
    refine ojs_indexA (i := 0) rfl (by decide) rfl rfl rfl rfl ?_
    refine ojs_indexA (i := 1) rfl (by decide) rfl rfl rfl rfl ?_
    refine ojs_call [] [] rfl rfl rfl rfl rfl rfl rfl (by simp) (fun _ => c2) (by simp) (.inl rfl) ?_
    rintro e cs F1 _ ⟨rfl, rfl⟩
    refine ojs_call [] [] rfl rfl rfl rfl rfl rfl rfl (by simp) (fun _ => c3) (by simp) (.inl rfl) ?_
    rintro e cs F1 _ ⟨rfl, rfl⟩
    refine ojs_call [] [] rfl rfl rfl rfl rfl rfl rfl (by simp) (fun _ => c4) (by simp) (.inl rfl) ?_
    rintro e cs F1 _ ⟨rfl, rfl⟩
    refine ojs_call [] [] rfl rfl rfl rfl rfl rfl rfl (by simp) (fun _ => c5) (by simp) (.inl rfl) ?_
    rintro e cs F1 _ ⟨rfl, rfl⟩
    refine ojs_call [] [] rfl rfl rfl rfl rfl rfl rfl (by simp) (fun _ => num_c 0) (by simp) (.inl rfl) ?_
    rintro e cs F1 _ ⟨rfl, rfl⟩
    refine ojs_call [] [] rfl rfl rfl rfl rfl rfl rfl (by simp) (fun _ => num_c 0) (by simp) (.inl rfl) ?_
    rintro e cs F1 _ ⟨rfl, rfl⟩
    refine ojs_arith (z := 0) (by decide) rfl rfl rfl rfl ?_
    refine ojs_arith (z := N) (by rw [← hN, wrap_in] <;> omega) rfl rfl rfl rfl ?_
    refine brB_split (fun h => by simp at h) (fun _ => ?_)
    refine ojs_indexA (i := 0) rfl (by decide) rfl rfl rfl rfl ?_
    refine ojs_indexA (i := 1) rfl (by decide) rfl rfl rfl rfl ?_
    refine ojs_call [] [] rfl rfl rfl rfl rfl rfl rfl (by simp) (fun _ => c6) (by simp) (.inl rfl) ?_
    rintro e cs F1 _ ⟨rfl, rfl⟩
    refine ojs_call [] [] rfl rfl rfl rfl rfl rfl rfl (by simp) (fun _ => c7) (by simp) (.inl rfl) ?_
    rintro e cs F1 _ ⟨rfl, rfl⟩
    refine ojs_call [] [] rfl rfl rfl rfl rfl rfl rfl (by simp) (fun _ => num_c 0) (by simp) (.inl rfl) ?_
    rintro e cs F1 _ ⟨rfl, rfl⟩
    refine ojs_indexA (i := 0) rfl (by decide) rfl rfl rfl rfl ?_
    refine ojs_arith (z := r) (by rw [← hr, wrap_in] <;> omega) rfl rfl rfl rfl ?_
    refine ojs_indexA (i := 1) rfl (by decide) rfl rfl rfl rfl ?_
    refine ojs_arith (z := x) (by rw [hx, ← hr, wrap_in] <;> omega) rfl rfl rfl rfl ?_
    refine brB_split (fun h => by simp at h) (fun _ => ?_)
    refine ojs_call [] [] rfl rfl rfl rfl rfl rfl rfl (by simp) (fun _ => num_c 0) (by simp) (.inl rfl) ?_
    rintro e cs F1 _ ⟨rfl, rfl⟩
    refine ojs_indexA (i := 0) rfl (by decide) rfl rfl rfl rfl ?_
    refine brB_split (fun h => by simp at h) (fun _ => ?_)
    refine ojs_indexA (i := 1) rfl (by decide) rfl rfl rfl rfl ?_
    refine brB_split (fun h => by simp at h) (fun _ => ?_)
    refine brB_dec (fun g1 => ?_) (fun g1 => ?_)
    · have hz : (z1, z2, z3) = ((0, 0, 4) : Int × Int × Int) := by rw [hzs, show inB z 0 (N - 1) = false by unfold inB; simp; omega]; rfl
      obtain ⟨rfl, rfl, rfl⟩ : z1 = 0 ∧ z2 = 0 ∧ z3 = 4 := by simpa using hz
      refine ojs_call [] [] rfl rfl rfl rfl rfl rfl rfl (by simp) (fun _ => num_c 4) (by simp) (.inl rfl) ?_
      rintro e cs F1 _ ⟨rfl, rfl⟩
      refine ojs_call [] [] rfl rfl rfl rfl rfl rfl rfl (by simp) (fun _ => works_c) (by simp) (.inl rfl) ?_
      rintro e cs F1 _ ⟨rfl, rfl⟩
      exact endR_ok [] rfl rfl ⟨rfl, rfl⟩ rfl (fun _ => ⟨rfl, rfl⟩) (by simp)
    refine brB_dec (fun g2 => ?_) (fun g2 => ?_)
    · have hz : (z1, z2, z3) = ((0, 0, 4) : Int × Int × Int) := by rw [hzs, show inB z 0 (N - 1) = false by unfold inB; simp; omega]; rfl
      obtain ⟨rfl, rfl, rfl⟩ : z1 = 0 ∧ z2 = 0 ∧ z3 = 4 := by simpa using hz
      refine ojs_call [] [] rfl rfl rfl rfl rfl rfl rfl (by simp) (fun _ => num_c 4) (by simp) (.inl rfl) ?_
      rintro e cs F1 _ ⟨rfl, rfl⟩
      refine ojs_call [] [] rfl rfl rfl rfl rfl rfl rfl (by simp) (fun _ => works_c) (by simp) (.inl rfl) ?_
      rintro e cs F1 _ ⟨rfl, rfl⟩
      exact endR_ok [] rfl rfl ⟨rfl, rfl⟩ rfl (fun _ => ⟨rfl, rfl⟩) (by simp)
    have hz : (z1, z2, z3) = (z.tdiv s, z.tmod s, 0) := by rw [hzs, show inB z 0 (N - 1) = true by unfold inB; simp; omega]; rfl
    obtain ⟨hz1, hz2, rfl⟩ : z1 = z.tdiv s ∧ z2 = z.tmod s ∧ z3 = 0 := by simpa using hz
    have hd1 : 0 ≤ z.tdiv s ∧ z.tdiv s ≤ z := by
      rw [Int.tdiv_eq_ediv_of_nonneg (by omega)]
      exact ⟨Int.ediv_nonneg (by omega) (by omega), Int.ediv_le_self _ (by omega)⟩
    have hm1 : 0 ≤ z.tmod s ∧ z.tmod s < s := by
      rw [Int.tmod_eq_emod_of_nonneg (by omega)]
      exact ⟨Int.emod_nonneg _ (by omega), Int.emod_lt_of_pos _ (by omega)⟩
    refine ojs_call [] [] rfl rfl rfl rfl rfl rfl rfl (by simp) (fun _ => num_c 0) (by simp) (.inl rfl) ?_
    rintro e cs F1 _ ⟨rfl, rfl⟩
    refine optK_of (yd_div (r := z1) (by omega) (by omega) (by omega) rfl rfl rfl (by rw [hz1]; rfl)) ?_
    refine brB_true (by exact decide_eq_true rfl) ?_
    refine optK_of (yd_div (r := z2) (by omega) (by omega) (by omega) rfl rfl rfl (by rw [hz2]; rfl)) ?_
    refine brB_true (by exact decide_eq_true rfl) ?_
    refine ojs_call [] [] rfl rfl rfl rfl rfl rfl rfl (by simp) (fun _ => works_c) (by simp) (.inl rfl) ?_
    rintro e cs F1 _ ⟨rfl, rfl⟩
    exact endR_ok [] rfl rfl ⟨rfl, rfl⟩ rfl (fun _ => ⟨rfl, rfl⟩) (by simp)
  · have f1 : (inB p 0 (n - 1) && inB q 0 (s - 1)) = false := by unfold inB; simp; omega
    have f2 : (decide (0 ≤ p) && decide (p < n) && decide (0 ≤ q) && decide (q < s)) = false := by simp; omega
    rw [f1] at c2
    rw [f2] at c6
    dsimp only [cond] at c2
    refine ojs_call [] [] rfl rfl rfl rfl rfl rfl rfl (by simp) (fun _ => c1) (by simp) (.inl rfl) ?_
    rintro e cs F1 _ ⟨rfl, rfl⟩
    refine ojs_indexA (i := 0) rfl (by decide) rfl rfl rfl rfl ?_
    refine ojs_indexA (i := 1) rfl (by decide) rfl rfl rfl rfl ?_
    refine ojs_call [] [] rfl rfl rfl rfl rfl rfl rfl (by simp) (fun _ => c2) (by simp) (.inl rfl) ?_
    rintro e cs F1 _ ⟨rfl, rfl⟩
    refine ojs_call [] [] rfl rfl rfl rfl rfl rfl rfl (by simp) (fun _ => c3) (by simp) (.inl rfl) ?_
    rintro e cs F1 _ ⟨rfl, rfl⟩
    refine ojs_call [] [] rfl rfl rfl rfl rfl rfl rfl (by simp) (fun _ => c4) (by simp) (.inl rfl) ?_
    rintro e cs F1 _ ⟨rfl, rfl⟩
    refine ojs_call [] [] rfl rfl rfl rfl rfl rfl rfl (by simp) (fun _ => c5) (by simp) (.inl rfl) ?_
    rintro e cs F1 _ ⟨rfl, rfl⟩
    refine ojs_call [] [] rfl rfl rfl rfl rfl rfl rfl (by simp) (fun _ => num_c 0) (by simp) (.inl rfl) ?_
    rintro e cs F1 _ ⟨rfl, rfl⟩
    refine ojs_call [] [] rfl rfl rfl rfl rfl rfl rfl (by simp) (fun _ => num_c 0) (by simp) (.inl rfl) ?_
    rintro e cs F1 _ ⟨rfl, rfl⟩
    refine ojs_arith (z := 0) (by decide) rfl rfl rfl rfl ?_
    refine ojs_arith (z := N) (by rw [← hN, wrap_in] <;> omega) rfl rfl rfl rfl ?_
    refine brB_split (fun h => by simp at h) (fun _ => ?_)
    refine ojs_indexA (i := 0) rfl (by decide) rfl rfl rfl rfl ?_
    refine ojs_indexA (i := 1) rfl (by decide) rfl rfl rfl rfl ?_
    refine ojs_call [] [] rfl rfl rfl rfl rfl rfl rfl (by simp) (fun _ => c6) (by simp) (.inl rfl) ?_
    rintro e cs F1 _ ⟨rfl, rfl⟩
    refine ojs_call [] [] rfl rfl rfl rfl rfl rfl rfl (by simp) (fun _ => num_c 4) (by simp) (.inl rfl) ?_
    rintro e cs F1 _ ⟨rfl, rfl⟩
    refine brB_dec (fun g1 => ?_) (fun g1 => ?_)
    · have hz : (z1, z2, z3) = ((0, 0, 4) : Int × Int × Int) := by rw [hzs, show inB z 0 (N - 1) = false by unfold inB; simp; omega]; rfl
      obtain ⟨rfl, rfl, rfl⟩ : z1 = 0 ∧ z2 = 0 ∧ z3 = 4 := by simpa using hz
      refine ojs_call [] [] rfl rfl rfl rfl rfl rfl rfl (by simp) (fun _ => num_c 4) (by simp) (.inl rfl) ?_
      rintro e cs F1 _ ⟨rfl, rfl⟩
      refine ojs_call [] [] rfl rfl rfl rfl rfl rfl rfl (by simp) (fun _ => works_c) (by simp) (.inl rfl) ?_
      rintro e cs F1 _ ⟨rfl, rfl⟩
      exact endR_ok [] rfl rfl ⟨rfl, rfl⟩ rfl (fun _ => ⟨rfl, rfl⟩) (by simp)
    refine brB_dec (fun g2 => ?_) (fun g2 => ?_)
    · have hz : (z1, z2, z3) = ((0, 0, 4) : Int × Int × Int) := by rw [hzs, show inB z 0 (N - 1) = false by unfold inB; simp; omega]; rfl
      obtain ⟨rfl, rfl, rfl⟩ : z1 = 0 ∧ z2 = 0 ∧ z3 = 4 := by simpa using hz
      refine ojs_call [] [] rfl rfl rfl rfl rfl rfl rfl (by simp) (fun _ => num_c 4) (by simp) (.inl rfl) ?_
      rintro e cs F1 _ ⟨rfl, rfl⟩
      refine ojs_call [] [] rfl rfl rfl rfl rfl rfl rfl (by simp) (fun _ => works_c) (by simp) (.inl rfl) ?_
      rintro e cs F1 _ ⟨rfl, rfl⟩
      exact endR_ok [] rfl rfl ⟨rfl, rfl⟩ rfl (fun _ => ⟨rfl, rfl⟩) (by simp)
    have hz : (z1, z2, z3) = (z.tdiv s, z.tmod s, 0) := by rw [hzs, show inB z 0 (N - 1) = true by unfold inB; simp; omega]; rfl
    obtain ⟨hz1, hz2, rfl⟩ : z1 = z.tdiv s ∧ z2 = z.tmod s ∧ z3 = 0 := by simpa using hz
    have hd1 : 0 ≤ z.tdiv s ∧ z.tdiv s ≤ z := by
      rw [Int.tdiv_eq_ediv_of_nonneg (by omega)]
      exact ⟨Int.ediv_nonneg (by omega) (by omega), Int.ediv_le_self _ (by omega)⟩
    have hm1 : 0 ≤ z.tmod s ∧ z.tmod s < s := by
      rw [Int.tmod_eq_emod_of_nonneg (by omega)]
      exact ⟨Int.emod_nonneg _ (by omega), Int.emod_lt_of_pos _ (by omega)⟩
    refine ojs_call [] [] rfl rfl rfl rfl rfl rfl rfl (by simp) (fun _ => num_c 0) (by simp) (.inl rfl) ?_
    rintro e cs F1 _ ⟨rfl, rfl⟩
    refine optK_of (yd_div (r := z1) (by omega) (by omega) (by omega) rfl rfl rfl (by rw [hz1]; rfl)) ?_
    refine brB_true (by exact decide_eq_true rfl) ?_
    refine optK_of (yd_div (r := z2) (by omega) (by omega) (by omega) rfl rfl rfl (by rw [hz2]; rfl)) ?_
    refine brB_true (by exact decide_eq_true rfl) ?_
    refine ojs_call [] [] rfl rfl rfl rfl rfl rfl rfl (by simp) (fun _ => works_c) (by simp) (.inl rfl) ?_
    rintro e cs F1 _ ⟨rfl, rfl⟩
    exact endR_ok [] rfl rfl ⟨rfl, rfl⟩ rfl (fun _ => ⟨rfl, rfl⟩) (by simp)

end Go.Proofs.YtehfodoocfpkoaaDoor
