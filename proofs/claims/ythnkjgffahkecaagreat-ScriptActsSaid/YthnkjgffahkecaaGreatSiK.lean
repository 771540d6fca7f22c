/- Shapes, by the symbolic run: which may be. -/
import Derived.Test.YthnkjgffahkecaaGreatEngT
import Derived.Test.YthnkjgffahkecaaGreatEngP
import Derived.Test.YthnkjgffahkecaaGreatEngW
namespace Go.Proofs.YthnkjgffahkecaaGreat
open Go.RowKit Go.Shelf

def shapeB (n l s : Int) : Bool := (decide (1 ≤ n) && decide (n ≤ 64)) && (decide (1 ≤ l) && decide (l ≤ 8)) && (decide (1 ≤ s) && decide (s ≤ 4))
theorem shapeB_is {n l s : Int} (h : shapeB n l s = true) : (1 ≤ n ∧ n ≤ 64) ∧ (1 ≤ l ∧ l ≤ 8) ∧ (1 ≤ s ∧ s ≤ 4) := by
  simpa [shapeB, and_assoc] using h
def inB (n a b : Int) : Bool := decide (a ≤ n) && decide (n ≤ b)
theorem siteWithin_c (n a b : Int) : Cm Tryz.prog 109 [.int .i64 n, .int .i64 a, .int .i64 b] [] [] (rets (.bool (inB n a b))) := by
  refine cm_of (tab := tb) (ok := tbOk) [.o (.v (.int .i64 n)), .o (.v (.int .i64 a)), .o (.v (.int .i64 b))] Tryz.func109 Tryz.ntmps109 rfl rfl (fun _ _ => rfl) ?_
  intro w0 A0
  repeat' (first | (refine endR_ok [] rfl rfl ⟨rfl, rfl⟩ rfl (fun _ => ⟨ret_bool ?_, rfl⟩) (by simp); first | (simp [inB, *]; done) | (rw [Bool.eq_iff_iff]; simp [inB]; omega)) | refine brB_dec (fun _ => ?_) (fun _ => ?_))
theorem uright_c (n l s : Int) : Cm Tryz.prog 96 [.agg #[.int .i64 n, .int .i64 l, .int .i64 s]] [] [] (rets (.bool (shapeB n l s))) := by
  refine cm_of (tab := tb) (ok := tbOk) [.g [.v (.int .i64 n), .v (.int .i64 l), .v (.int .i64 s)]] Tryz.func96 Tryz.ntmps96 rfl rfl (fun _ _ => rfl) ?_
  intro w0 A0
  have hs : shapeB n l s = (inB n 1 64 && inB l 1 8 && inB s 1 4) := rfl
  refine ojs_call [] [] rfl rfl rfl rfl rfl rfl rfl (by simp) (fun _ => siteWithin_c n 1 64) (by simp) (.inl rfl) ?_
  rintro e cs F1 _ ⟨rfl, rfl⟩
  refine brB_split (fun h1 => ?_) (fun h1 => ?_)
  · refine ojs_call [] [] rfl rfl rfl rfl rfl rfl rfl (by simp) (fun _ => siteWithin_c l 1 8) (by simp) (.inl rfl) ?_
    rintro e cs F1 _ ⟨rfl, rfl⟩
    refine brB_split (fun h2 => ?_) (fun h2 => ?_)
    · refine ojs_call [] [] rfl rfl rfl rfl rfl rfl rfl (by simp) (fun _ => siteWithin_c s 1 4) (by simp) (.inl rfl) ?_
      rintro e cs F1 _ ⟨rfl, rfl⟩
      exact endR_ok [] rfl rfl ⟨rfl, rfl⟩ rfl (fun _ => ⟨ret_bool (by rw [hs, h1, h2]; rfl), rfl⟩) (by simp)
    · exact endR_ok [] rfl rfl ⟨rfl, rfl⟩ rfl (fun _ => ⟨ret_bool (by rw [hs, h1, h2]; rfl), rfl⟩) (by simp)
  · exact endR_ok [] rfl rfl ⟨rfl, rfl⟩ rfl (fun _ => ⟨ret_bool (by rw [hs, h1]; rfl), rfl⟩) (by simp)
theorem idxNone_c (v : Value) : Cm Tryz.prog 110 [.slice none 0 0, v] [] [] (rets (.int .i64 (-1))) := by
  refine cm_of (tab := tb) (ok := tbOk) [.o (.v (.slice none 0 0)), .o (.v v)] Tryz.func110 Tryz.ntmps110 rfl rfl (fun _ _ => rfl) ?_
  intro w0 A0
  refine cjs_turns 1 ?_
  exact endR_ok [] rfl rfl ⟨rfl, rfl⟩ rfl (fun _ => ⟨rfl, rfl⟩) (by simp)
theorem conNone_c : Cm Tryz.prog 97 [.slice none 0 0, .func (.func 98) #[] #[]] [] [] (rets (.bool false)) := by
  refine cm_of (tab := tb) (ok := tbOk) [.o (.v (.slice none 0 0)), .o (.v (.func (.func 98) #[] #[]))] Tryz.func97 Tryz.ntmps97 rfl rfl (fun _ _ => rfl) ?_
  intro w0 A0
  refine ojs_call [] [] rfl rfl rfl rfl rfl rfl rfl (by simp) (fun _ => idxNone_c (.func (.func 98) #[] #[])) (by simp) (.inl rfl) ?_
  rintro e cs F1 _ ⟨rfl, rfl⟩
  exact endR_ok [] rfl rfl ⟨rfl, rfl⟩ rfl (fun _ => ⟨rfl, rfl⟩) (by simp)
def shapeE (n l s : Int) : Int := bif shapeB n l s then 0 else 2
theorem asked0_c (n l s : Int) : Cm Tryz.prog 76 [.agg #[.int .i64 n, .int .i64 l, .int .i64 s], .slice none 0 0] [] [] (rets (.int .i64 (shapeE n l s))) := by
  refine cm_of (tab := tb) (ok := tbOk) [.g [.v (.int .i64 n), .v (.int .i64 l), .v (.int .i64 s)], .o (.v (.slice none 0 0))] Tryz.func76 Tryz.ntmps76 rfl rfl (fun _ _ => rfl) ?_
  intro w0 A0
  refine cjs_scopeF 0 rfl rfl ?_
  have hE : shapeE n l s = bif shapeB n l s then 0 else 2 := rfl
  refine ojs_call [] [] rfl rfl rfl rfl rfl rfl rfl (by simp) (fun _ => uright_c n l s) (by simp) (.inl rfl) ?_
  rintro e cs F1 _ ⟨rfl, rfl⟩
  rw [hE]
  cases hs : shapeB n l s
  · refine ⟨rfl, ?_⟩
    exact endR_ok [] rfl rfl ⟨rfl, rfl⟩ rfl (fun _ => ⟨rfl, rfl⟩) (by simp)
  refine ojs_call [] [] rfl rfl rfl rfl rfl rfl rfl (by simp) (fun _ => conNone_c) (by simp) (.inl rfl) ?_
  rintro e cs F1 _ ⟨rfl, rfl⟩
  exact endR_ok [] rfl rfl ⟨rfl, rfl⟩ rfl (fun _ => ⟨rfl, rfl⟩) (by simp)
theorem siteCheck_c (n l s : Int) : Cm Tryz.prog 52 [.agg #[.int .i64 n, .int .i64 l, .int .i64 s]] [] [] (rets (.int .i64 (shapeE n l s))) := by
  refine cm_of (tab := tb) (ok := tbOk) [.g [.v (.int .i64 n), .v (.int .i64 l), .v (.int .i64 s)]] Tryz.func52 Tryz.ntmps52 rfl rfl (fun _ _ => rfl) ?_
  intro w0 A0
  refine ojs_call [] [] rfl rfl rfl rfl rfl rfl rfl (by simp) (fun _ => asked0_c n l s) (by simp) (.inl rfl) ?_
  rintro e cs F1 _ ⟨rfl, rfl⟩
  exact endR_ok [] rfl rfl ⟨rfl, rfl⟩ rfl (fun _ => ⟨rfl, rfl⟩) (by simp)
theorem refShape_c (n l s : Int) : Cm Tryz.prog 31 [.agg #[.int .i64 n, .int .i64 l, .int .i64 s]] [] [] (rets (.bool (shapeB n l s))) := by
  refine cm_of (tab := tb) (ok := tbOk) [.g [.v (.int .i64 n), .v (.int .i64 l), .v (.int .i64 s)]] Tryz.func31 Tryz.ntmps31 rfl rfl (fun _ _ => rfl) ?_
  intro w0 A0
  repeat' (first | (refine endR_ok [] rfl rfl ⟨rfl, rfl⟩ rfl (fun _ => ⟨ret_bool ?_, rfl⟩) (by simp); first | (simp [shapeB, *]; done) | (rw [Bool.eq_iff_iff]; simp [shapeB]; omega)) | refine brB_dec (fun _ => ?_) (fun _ => ?_))

end Go.Proofs.YthnkjgffahkecaaGreat
