/- Sites, by the symbolic run: tickets that are the same; the chapter's rows. -/
import Derived.Test.YtehfodoocfpkoaaDoorStH
namespace Go.Proofs.YtehfodoocfpkoaaDoor
open Go.RowKit Go.Shelf

abbrev tkV (t : Tk) : Value := .agg (encT t).toArray
theorem guard_ticket (bop : BinOp) (x y : Operand) (a b : Array Value) (w : World) : (eqGuard bop 38 x y (.agg a) (.agg b)).run Tryd.prog w = .ok () w := by
  have h : Tryd.prog.eqGuardType Tryd.prog.depth 38 = false := by kernel_rfl
  unfold eqGuard
  by_cases hb : bop = .eql ∨ bop = .neq
  · rcases hb with rfl | rfl <;> simp [h]
  · cases bop <;> simp_all
theorem run_eq_ticket (x y : Tk) : ∀ W, (binOp .eql 38 (tkV x) (tkV y)).run Tryd.prog W = .ok (.bool (decide (x = y))) W := by
  intro W
  obtain ⟨x1, x2, x3, x4⟩ := x
  obtain ⟨y1, y2, y3, y4⟩ := y
  unfold tkV encT
  by_cases h1 : x1 = y1
  · by_cases h2 : x2 = y2
    · by_cases h3 : x3 = y3
      · by_cases h4 : x4 = y4
        · subst h1; subst h2; subst h3; subst h4
          go_simp
        · subst h1; subst h2; subst h3
          go_simp
      · subst h1; subst h2
        go_simp
    · subst h1
      go_simp
  · go_simp
theorem run_neq_ticket (x y : Tk) : ∀ W, (binOp .neq 38 (tkV x) (tkV y)).run Tryd.prog W = .ok (.bool (decide (x ≠ y))) W := by
  intro W
  obtain ⟨x1, x2, x3, x4⟩ := x
  obtain ⟨y1, y2, y3, y4⟩ := y
  unfold tkV encT
  by_cases h1 : x1 = y1
  · by_cases h2 : x2 = y2
    · by_cases h3 : x3 = y3
      · by_cases h4 : x4 = y4
        · subst h1; subst h2; subst h3; subst h4
          go_simp
        · subst h1; subst h2; subst h3
          go_simp
      · subst h1; subst h2
        go_simp
    · subst h1
      go_simp
  · go_simp

theorem wk1 : Cm Tryd.prog 9 [.agg #[.int .i64 3, .int .i64 2, .int .i64 2]] [] [] (rets (.tuple #[.int .i64 6, .int .i64 0])) := sites_c 3 2 2
theorem wk2 : Cm Tryd.prog 10 [.agg #[.int .i64 3, .int .i64 2, .int .i64 2], .int .i64 2, .int .i64 1] [] [] (rets (.tuple #[.int .i64 5, .int .i64 0])) := site_c 3 2 2 2 1
theorem wk3 : Cm Tryd.prog 11 [.agg #[.int .i64 3, .int .i64 2, .int .i64 2], .int .i64 4] [] [] (rets (.tuple #[.int .i64 2, .int .i64 0, .int .i64 0])) := of_c 3 2 2 4
theorem wk4 : Cm Tryd.prog 11 [.agg #[.int .i64 3, .int .i64 2, .int .i64 2], .int .i64 6] [] [] (rets (.tuple #[.int .i64 0, .int .i64 0, .int .i64 4])) := of_c 3 2 2 6
theorem txt1 : textX 3 2 2 (2, 1, 0, 7) = ([50, 46, 49, 46, 48, 46, 55], 0) := by decide +kernel
theorem par1 : parX 3 2 2 [50, 46, 49, 46, 48, 46, 55] = ((2, 1, 0, 7), 0) := by decide +kernel
theorem par2 : parX 3 2 2 [50, 46, 49, 46, 48, 46, 48, 55] = ((0, 0, 0, 0), 150) := by decide +kernel
theorem par3 : parX 3 2 2 [51, 46, 48, 46, 48, 46, 49] = ((0, 0, 0, 0), 150) := by decide +kernel
theorem wk5 : Cm Tryd.prog 18 [.agg #[.int .i64 3, .int .i64 2, .int .i64 2], .agg #[.int .i64 2, .int .i64 1, .int .i64 0, .int .i64 7]] [] [libF] (rets (.tuple #[.string ⟨#[50, 46, 49, 46, 48, 46, 55]⟩, .int .i64 0])) := by
  have h := text_c 3 2 2 (2, 1, 0, 7)
  rw [txt1] at h
  exact h
theorem wk6 : Cm Tryd.prog 20 [.agg #[.int .i64 3, .int .i64 2, .int .i64 2], .string ⟨#[50, 46, 49, 46, 48, 46, 55]⟩] [] [libF] (rets (.tuple #[.agg #[.int .i64 2, .int .i64 1, .int .i64 0, .int .i64 7], .int .i64 0])) := by
  have h := parse_c 3 2 2 ⟨#[50, 46, 49, 46, 48, 46, 55]⟩ (by decide)
  rw [par1] at h
  exact h
theorem wk7 : Cm Tryd.prog 20 [.agg #[.int .i64 3, .int .i64 2, .int .i64 2], .string ⟨#[50, 46, 49, 46, 48, 46, 48, 55]⟩] [] [libF] (rets (.tuple #[.agg #[.int .i64 0, .int .i64 0, .int .i64 0, .int .i64 0], .int .i64 150])) := by
  have h := parse_c 3 2 2 ⟨#[50, 46, 49, 46, 48, 46, 48, 55]⟩ (by decide)
  rw [par2] at h
  exact h
theorem wk8 : Cm Tryd.prog 20 [.agg #[.int .i64 3, .int .i64 2, .int .i64 2], .string ⟨#[51, 46, 48, 46, 48, 46, 49]⟩] [] [libF] (rets (.tuple #[.agg #[.int .i64 0, .int .i64 0, .int .i64 0, .int .i64 0], .int .i64 150])) := by
  have h := parse_c 3 2 2 ⟨#[51, 46, 48, 46, 48, 46, 49]⟩ (by decide)
  rw [par3] at h
  exact h

abbrev iT (t : Nat) (z : Int) : Nat × TV := (t, .o (.v (.int .i64 z)))
abbrev sT (t : Nat) (l : List UInt8) : Nat × TV := (t, .o (.v (.string ⟨l.toArray⟩)))
abbrev kT (t : Tk) : LC := .c ((encT t).map SV.v) 38
abbrev W1 : TE := [iT 1 6, iT 2 0]
abbrev W2 : TE := [iT 3 5, iT 4 0] ++ W1
abbrev W3 : TE := [iT 5 2, iT 6 0, iT 7 0] ++ W2
abbrev W4 : TE := [iT 10 4] ++ W3
abbrev W5 : TE := [(11, .o (.p 0 0))] ++ W4
abbrev W6 : TE := [sT 12 [50, 46, 49, 46, 48, 46, 55], iT 13 0] ++ W5
abbrev W7 : TE := [(14, .o (.p 1 0)), iT 15 0] ++ W6
abbrev W8 : TE := [iT 17 150] ++ W7
abbrev W9 : TE := [iT 19 150] ++ W8
abbrev WL : LE := [(0, kT (2, 1, 0, 7))]
abbrev WM : LE := [(1, kT (2, 1, 0, 7)), (0, kT (2, 1, 0, 7))]

set_option maxRecDepth 20000 in
set_option maxHeartbeats 4000000 in
theorem works_c : Cm Tryd.prog 15 [] [] [libF] (rets (.bool true)) := by
  refine cm_of (tab := tb) (ok := tbOk) [] Tryd.func15 Tryd.ntmps15 rfl rfl (fun _ _ => rfl) ?_
  intro w0 A0
  refine ojs_call [] [] rfl rfl rfl rfl rfl rfl rfl (by simp) (fun _ => shape_c) (by simp) (.inl rfl) ?_
  rintro e cs F1 _ ⟨rfl, rfl⟩
  refine ojs_call [] [] rfl rfl rfl rfl rfl rfl rfl (by simp) (fun _ => wk1) (by simp) (.inl rfl) ?_
  rintro e cs F1 _ ⟨rfl, rfl⟩
  refine ojs_weak (σ := ⟨W1, [], 0, [libF], fun _ => []⟩) (wk_patch (by repeat' (first | exact trivial | exact Or.inl rfl | refine Or.inr ⟨?_, ?_⟩ | rfl | refine ⟨?_, ?_⟩ | exact lt_all_v)) (by repeat' (first | exact trivial | exact Or.inl rfl | refine Or.inr ⟨?_, ?_⟩ | rfl | refine ⟨?_, ?_⟩ | exact lt_all_v)) (by simp) (by simp) D_nil) ?_
  refine ojs_call [] [] rfl rfl rfl rfl rfl rfl rfl (by simp) (fun _ => shape_c) (by simp) (.inl rfl) ?_
  rintro e cs F1 _ ⟨rfl, rfl⟩
  refine ojs_call [] [] rfl rfl rfl rfl rfl rfl rfl (by simp) (fun _ => wk2) (by simp) (.inl rfl) ?_
  rintro e cs F1 _ ⟨rfl, rfl⟩
  refine ojs_weak (σ := ⟨W2, [], 0, [libF], fun _ => []⟩) (wk_patch (by repeat' (first | exact trivial | exact Or.inl rfl | refine Or.inr ⟨?_, ?_⟩ | rfl | refine ⟨?_, ?_⟩ | exact lt_all_v)) (by repeat' (first | exact trivial | exact Or.inl rfl | refine Or.inr ⟨?_, ?_⟩ | rfl | refine ⟨?_, ?_⟩ | exact lt_all_v)) (by simp) (by simp) D_nil) ?_
  refine ojs_call [] [] rfl rfl rfl rfl rfl rfl rfl (by simp) (fun _ => shape_c) (by simp) (.inl rfl) ?_
  rintro e cs F1 _ ⟨rfl, rfl⟩
  refine ojs_call [] [] rfl rfl rfl rfl rfl rfl rfl (by simp) (fun _ => wk3) (by simp) (.inl rfl) ?_
  rintro e cs F1 _ ⟨rfl, rfl⟩
  refine ojs_weak (σ := ⟨W3, [], 0, [libF], fun _ => []⟩) (wk_patch (by repeat' (first | exact trivial | exact Or.inl rfl | refine Or.inr ⟨?_, ?_⟩ | rfl | refine ⟨?_, ?_⟩ | exact lt_all_v)) (by repeat' (first | exact trivial | exact Or.inl rfl | refine Or.inr ⟨?_, ?_⟩ | rfl | refine ⟨?_, ?_⟩ | exact lt_all_v)) (by simp) (by simp) D_nil) ?_
  refine ojs_call [] [] rfl rfl rfl rfl rfl rfl rfl (by simp) (fun _ => shape_c) (by simp) (.inl rfl) ?_
  rintro e cs F1 _ ⟨rfl, rfl⟩
  refine ojs_call [] [] rfl rfl rfl rfl rfl rfl rfl (by simp) (fun _ => wk4) (by simp) (.inl rfl) ?_
  rintro e cs F1 _ ⟨rfl, rfl⟩
  refine cjs_weak (σ := ⟨W5, WL, 1, [libF], fun _ => []⟩) (wk_patch (by repeat' (first | exact trivial | exact Or.inl rfl | refine Or.inr ⟨?_, ?_⟩ | rfl | refine ⟨?_, ?_⟩ | exact lt_all_v)) (by repeat' (first | exact trivial | exact Or.inl rfl | refine Or.inr ⟨?_, ?_⟩ | rfl | refine ⟨?_, ?_⟩ | exact lt_all_v)) (by simp) (by simp) D_nil) ?_
  refine cjs_drawn [0, 2] (.op 1 <| .op 0 <| .op 2 <| .op 3 <| .op 4 <| .op 5 <| .op 6 <| .op 7 .z) [0] [] [] [libF] (by kernel_rfl) (by kernel_rfl) rfl (by simp) (by simp) ?_
  intro N
  refine ojs_call [] [] rfl rfl rfl rfl rfl rfl rfl (by simp) (fun _ => shape_c) (by simp) (.inl rfl) ?_
  rintro e cs F1 _ ⟨rfl, rfl⟩
  refine ⟨⟨(by repeat' (first | exact trivial | refine ⟨Or.inl rfl, ?_⟩ | refine ⟨Or.inr ⟨rfl, Nat.le_of_ble_eq_true rfl, _, rfl, rfl, rfl⟩, ?_⟩)), by simp⟩, ?_⟩
  refine ojs_call [] [] rfl rfl rfl rfl rfl rfl rfl (by simp) (fun _ => wk5) (by simp) (.inl rfl) ?_
  rintro e cs F1 _ ⟨rfl, rfl⟩
  refine ⟨⟨(by repeat' (first | exact trivial | refine ⟨Or.inl rfl, ?_⟩ | refine ⟨Or.inr ⟨rfl, Nat.le_of_ble_eq_true rfl, _, rfl, rfl, rfl⟩, ?_⟩)), by simp⟩, ?_⟩
  refine ojs_weak (σ := ⟨W6, WL, 1, [libF], fun _ => []⟩) (wk_patch (by repeat' (first | exact trivial | exact Or.inl rfl | refine Or.inr ⟨?_, ?_⟩ | rfl | refine ⟨?_, ?_⟩ | exact lt_all_v)) (by repeat' (first | exact trivial | exact Or.inl rfl | refine Or.inr ⟨?_, ?_⟩ | rfl | refine ⟨?_, ?_⟩ | exact lt_all_v)) (by simp) (by simp) D_nil) ?_
  refine ojs_call [] [] rfl rfl rfl rfl rfl rfl rfl (by simp) (fun _ => shape_c) (by simp) (.inl rfl) ?_
  rintro e cs F1 _ ⟨rfl, rfl⟩
  refine ojs_call [] [] rfl rfl rfl rfl rfl rfl rfl (by simp) (fun _ => wk6) (by simp) (.inl rfl) ?_
  rintro e cs F1 _ ⟨rfl, rfl⟩
  refine ojs_weak (σ := ⟨W7, WM, 2, [libF], fun _ => []⟩) (wk_patch (by repeat' (first | exact trivial | exact Or.inl rfl | refine Or.inr ⟨?_, ?_⟩ | rfl | refine ⟨?_, ?_⟩ | exact lt_all_v)) (by repeat' (first | exact trivial | exact Or.inl rfl | refine Or.inr ⟨?_, ?_⟩ | rfl | refine ⟨?_, ?_⟩ | exact lt_all_v)) (by simp) (by simp) D_nil) ?_
  refine ojs_call [] [] rfl rfl rfl rfl rfl rfl rfl (by simp) (fun _ => shape_c) (by simp) (.inl rfl) ?_
  rintro e cs F1 _ ⟨rfl, rfl⟩
  refine ojs_call [] [] rfl rfl rfl rfl rfl rfl rfl (by simp) (fun _ => wk7) (by simp) (.inl rfl) ?_
  rintro e cs F1 _ ⟨rfl, rfl⟩
  refine ojs_weak (σ := ⟨W8, WM, 2, [libF], fun _ => []⟩) (wk_patch (by repeat' (first | exact trivial | exact Or.inl rfl | refine Or.inr ⟨?_, ?_⟩ | rfl | refine ⟨?_, ?_⟩ | exact lt_all_v)) (by repeat' (first | exact trivial | exact Or.inl rfl | refine Or.inr ⟨?_, ?_⟩ | rfl | refine ⟨?_, ?_⟩ | exact lt_all_v)) (by simp) (by simp) D_nil) ?_
  refine ojs_call [] [] rfl rfl rfl rfl rfl rfl rfl (by simp) (fun _ => shape_c) (by simp) (.inl rfl) ?_
  rintro e cs F1 _ ⟨rfl, rfl⟩
  refine ojs_call [] [] rfl rfl rfl rfl rfl rfl rfl (by simp) (fun _ => wk8) (by simp) (.inl rfl) ?_
  rintro e cs F1 _ ⟨rfl, rfl⟩
  refine ojs_weak (σ := ⟨[iT 64 0] ++ W9, WM, 2, [libF], fun _ => []⟩) (wk_patch (by repeat' (first | exact trivial | exact Or.inl rfl | refine Or.inr ⟨?_, ?_⟩ | rfl | refine ⟨?_, ?_⟩ | exact lt_all_v)) (by repeat' (first | exact trivial | exact Or.inl rfl | refine Or.inr ⟨?_, ?_⟩ | rfl | refine ⟨?_, ?_⟩ | exact lt_all_v)) (by simp) (by simp) D_nil) ?_
  refine ojs_call [] [] rfl rfl rfl rfl rfl rfl rfl (by simp) (fun _ => num_c 0) (by simp) (.inl rfl) ?_
  rintro e cs F1 _ ⟨rfl, rfl⟩
  refine ojs_call [] [] rfl rfl rfl rfl rfl rfl rfl (by simp) (fun _ => num_c 0) (by simp) (.inl rfl) ?_
  rintro e cs F1 _ ⟨rfl, rfl⟩
  refine ojs_arith (z := 0) (by decide) rfl rfl rfl rfl ?_
  refine ojs_call [] [] rfl rfl rfl rfl rfl rfl rfl (by simp) (fun _ => num_c 0) (by simp) (.inl rfl) ?_
  rintro e cs F1 _ ⟨rfl, rfl⟩
  refine ojs_arith (z := 0) (by decide) rfl rfl rfl rfl ?_
  refine ojs_call [] [] rfl rfl rfl rfl rfl rfl rfl (by simp) (fun _ => num_c 0) (by simp) (.inl rfl) ?_
  rintro e cs F1 _ ⟨rfl, rfl⟩
  refine ojs_arith (z := 0) (by decide) rfl rfl rfl rfl ?_
  refine ojs_call [] [] rfl rfl rfl rfl rfl rfl rfl (by simp) (fun _ => num_c 0) (by simp) (.inl rfl) ?_
  rintro e cs F1 _ ⟨rfl, rfl⟩
  refine ojs_arith (z := 0) (by decide) rfl rfl rfl rfl ?_
  refine ojs_weak (σ := ⟨[(95, .o (.v (.bool true))), iT 96 4] ++ W9, WM, 2, [libF], fun _ => []⟩) (wk_patch (by repeat' (first | exact trivial | exact Or.inl rfl | refine Or.inr ⟨?_, ?_⟩ | rfl | refine ⟨?_, ?_⟩ | exact lt_all_v)) (by repeat' (first | exact trivial | exact Or.inl rfl | refine Or.inr ⟨?_, ?_⟩ | rfl | refine ⟨?_, ?_⟩ | exact lt_all_v)) (by simp) (by simp) D_nil) ?_
  refine ojs_call [] [] rfl rfl rfl rfl rfl rfl rfl (by simp) (fun _ => num_c 4) (by simp) (.inl rfl) ?_
  rintro e cs F1 _ ⟨rfl, rfl⟩
  refine optK_of (yd_strEq (r := true) (by decide) rfl rfl rfl) ?_
  refine optK_of (yd_binOp (u := tkV (2, 1, 0, 7)) (v := tkV (2, 1, 0, 7)) (r := .bool true) rfl rfl rfl (fun _ => rfl) (fun _ => rfl) (guard_ticket _ _ _ _ _) (fun w => by rw [run_eq_ticket]; simp)) ?_
  refine ojs_call [] [] rfl rfl rfl rfl rfl rfl rfl (by simp) (fun _ => num_c 150) (by simp) (.inl rfl) ?_
  rintro e cs F1 _ ⟨rfl, rfl⟩
  refine ojs_call [] [] rfl rfl rfl rfl rfl rfl rfl (by simp) (fun _ => num_c 150) (by simp) (.inl rfl) ?_
  rintro e cs F1 _ ⟨rfl, rfl⟩
  exact endR_ok [] rfl rfl ⟨rfl, rfl⟩ rfl (fun _ => ⟨rfl, rfl⟩) (by simp)

end Go.Proofs.YtehfodoocfpkoaaDoor
