/- Part 25 of the proof of LockBacks: contracts of functions that the law reaches, or the rules by which they are walked. No condition. -/
import Derived.Test.YtmhnlkakbadkgaaGreatPkax
namespace Go.Proofs.YtmhnlkakbadkgaaGreat
open Go.RowKit Go.Shelf
set_option maxRecDepth 100000
structure Sta where
  over : Int
  pend : Bool
  mode : Int
  prio : Int
def staL (x : Sta) : List Value := [.int .i64 x.over, .bool x.pend, .int .i64 x.mode, .int .i64 x.prio]
def staB (x : Sta) : Bool := bif x.pend then (decide (0 ≤ x.over) && decide (x.over ≤ 1099511627775)) && (decide (1 ≤ x.mode) && decide (x.mode ≤ 5)) && (decide (0 ≤ x.prio) && decide (x.prio ≤ 3)) else (decide (0 ≤ x.over) && decide (x.over ≤ 1099511627776)) && decide (x.mode = 0) && decide (x.prio = 0)
def staE (x : Sta) : Int := bif staB x then 0 else 2
def staBd (x : Sta) : List Value := bif x.pend then [.int .i64 x.over, .int .i64 0, .int .i64 1099511627775, .int .i64 x.mode, .int .i64 1, .int .i64 5, .int .i64 x.prio, .int .i64 0, .int .i64 3] else [.int .i64 x.over, .int .i64 0, .int .i64 1099511627776, .int .i64 x.mode, .int .i64 0, .int .i64 0, .int .i64 x.prio, .int .i64 0, .int .i64 0]
theorem staBounds_c (x : Sta) : Cm Tryz.prog 208 [.agg (staL x).toArray] [] [] (rets (.agg (staBd x).toArray)) := by
  obtain ⟨o, p, m, q⟩ := x
  cases p
  · refine cm_of (tab := tb) (ok := tbOk) [.g [.v (.int .i64 o), .v (.bool false), .v (.int .i64 m), .v (.int .i64 q)]] Tryz.func208 Tryz.ntmps208 rfl rfl (fun _ _ => rfl) ?_
    intro w0 A0
    refine ojs_yd (yd_buildA rfl rfl rfl rfl rfl) rfl ?_
    exact endR_ok [] rfl rfl ⟨rfl, rfl⟩ rfl (fun _ => ⟨rfl, rfl⟩) (by simp)
  · refine cm_of (tab := tb) (ok := tbOk) [.g [.v (.int .i64 o), .v (.bool true), .v (.int .i64 m), .v (.int .i64 q)]] Tryz.func208 Tryz.ntmps208 rfl rfl (fun _ _ => rfl) ?_
    intro w0 A0
    refine ojs_yd (yd_buildA rfl rfl rfl rfl rfl) rfl ?_
    exact endR_ok [] rfl rfl ⟨rfl, rfl⟩ rfl (fun _ => ⟨rfl, rfl⟩) (by simp)
theorem staMay_c (x : Sta) : Cm Tryz.prog 148 [.agg (staL x).toArray] [] [] (rets (.bool (staB x))) := by
  obtain ⟨o, p, m, q⟩ := x
  cases p
  · refine cm_of (tab := tb) (ok := tbOk) [.g [.v (.int .i64 o), .v (.bool false), .v (.int .i64 m), .v (.int .i64 q)]] Tryz.func148 Tryz.ntmps148 rfl rfl (fun _ _ => rfl) ?_
    intro w0 A0
    refine ojs_call [] [] rfl rfl rfl rfl rfl rfl rfl (by simp) (fun _ => staBounds_c ⟨o, false, m, q⟩) (by simp) (.inl rfl) ?_
    rintro e cs F1 _ ⟨rfl, rfl⟩
    refine cjs_turns 4 ?_
    refine ojs_yd (yd_arrIdxV (i := 0) (m := 3) rfl (by decide) rfl rfl rfl rfl rfl rfl) rfl ?_
    refine brB_dec (fun _ => ?_) (fun _ => ?_)
    · exact endR_ok [] rfl rfl ⟨rfl, rfl⟩ rfl (fun _ => ⟨ret_bool (by cases hcb : staB _ <;> first | rfl | (exfalso; simp [staB] at hcb; (try dsimp only at *); omega)), rfl⟩) (by simp)
    refine brB_dec (fun _ => ?_) (fun _ => ?_)
    · exact endR_ok [] rfl rfl ⟨rfl, rfl⟩ rfl (fun _ => ⟨ret_bool (by cases hcb : staB _ <;> first | rfl | (exfalso; simp [staB] at hcb; (try dsimp only at *); omega)), rfl⟩) (by simp)
    refine ojs_arith (z := 1) (by decide) rfl rfl rfl rfl ?_
    refine ojs_yd (yd_arrIdxV (i := 1) (m := 3) rfl (by decide) rfl rfl rfl rfl rfl rfl) rfl ?_
    refine brB_dec (fun _ => ?_) (fun _ => ?_)
    · exact endR_ok [] rfl rfl ⟨rfl, rfl⟩ rfl (fun _ => ⟨ret_bool (by cases hcb : staB _ <;> first | rfl | (exfalso; simp [staB] at hcb; (try dsimp only at *); omega)), rfl⟩) (by simp)
    refine brB_dec (fun _ => ?_) (fun _ => ?_)
    · exact endR_ok [] rfl rfl ⟨rfl, rfl⟩ rfl (fun _ => ⟨ret_bool (by cases hcb : staB _ <;> first | rfl | (exfalso; simp [staB] at hcb; (try dsimp only at *); omega)), rfl⟩) (by simp)
    refine ojs_arith (z := 2) (by decide) rfl rfl rfl rfl ?_
    refine ojs_yd (yd_arrIdxV (i := 2) (m := 3) rfl (by decide) rfl rfl rfl rfl rfl rfl) rfl ?_
    refine brB_dec (fun _ => ?_) (fun _ => ?_)
    · exact endR_ok [] rfl rfl ⟨rfl, rfl⟩ rfl (fun _ => ⟨ret_bool (by cases hcb : staB _ <;> first | rfl | (exfalso; simp [staB] at hcb; (try dsimp only at *); omega)), rfl⟩) (by simp)
    refine brB_dec (fun _ => ?_) (fun _ => ?_)
    · exact endR_ok [] rfl rfl ⟨rfl, rfl⟩ rfl (fun _ => ⟨ret_bool (by cases hcb : staB _ <;> first | rfl | (exfalso; simp [staB] at hcb; (try dsimp only at *); omega)), rfl⟩) (by simp)
    refine ojs_arith (z := 3) (by decide) rfl rfl rfl rfl ?_
    exact endR_ok [] rfl rfl ⟨rfl, rfl⟩ rfl (fun _ => ⟨ret_bool (by cases hcb : staB _ <;> first | rfl | (exfalso; simp [staB] at hcb; (try dsimp only at *); omega)), rfl⟩) (by simp)
  · refine cm_of (tab := tb) (ok := tbOk) [.g [.v (.int .i64 o), .v (.bool true), .v (.int .i64 m), .v (.int .i64 q)]] Tryz.func148 Tryz.ntmps148 rfl rfl (fun _ _ => rfl) ?_
    intro w0 A0
    refine ojs_call [] [] rfl rfl rfl rfl rfl rfl rfl (by simp) (fun _ => staBounds_c ⟨o, true, m, q⟩) (by simp) (.inl rfl) ?_
    rintro e cs F1 _ ⟨rfl, rfl⟩
    refine cjs_turns 4 ?_
    refine ojs_yd (yd_arrIdxV (i := 0) (m := 3) rfl (by decide) rfl rfl rfl rfl rfl rfl) rfl ?_
    refine brB_dec (fun _ => ?_) (fun _ => ?_)
    · exact endR_ok [] rfl rfl ⟨rfl, rfl⟩ rfl (fun _ => ⟨ret_bool (by cases hcb : staB _ <;> first | rfl | (exfalso; simp [staB] at hcb; (try dsimp only at *); omega)), rfl⟩) (by simp)
    refine brB_dec (fun _ => ?_) (fun _ => ?_)
    · exact endR_ok [] rfl rfl ⟨rfl, rfl⟩ rfl (fun _ => ⟨ret_bool (by cases hcb : staB _ <;> first | rfl | (exfalso; simp [staB] at hcb; (try dsimp only at *); omega)), rfl⟩) (by simp)
    refine ojs_arith (z := 1) (by decide) rfl rfl rfl rfl ?_
    refine ojs_yd (yd_arrIdxV (i := 1) (m := 3) rfl (by decide) rfl rfl rfl rfl rfl rfl) rfl ?_
    refine brB_dec (fun _ => ?_) (fun _ => ?_)
    · exact endR_ok [] rfl rfl ⟨rfl, rfl⟩ rfl (fun _ => ⟨ret_bool (by cases hcb : staB _ <;> first | rfl | (exfalso; simp [staB] at hcb; (try dsimp only at *); omega)), rfl⟩) (by simp)
    refine brB_dec (fun _ => ?_) (fun _ => ?_)
    · exact endR_ok [] rfl rfl ⟨rfl, rfl⟩ rfl (fun _ => ⟨ret_bool (by cases hcb : staB _ <;> first | rfl | (exfalso; simp [staB] at hcb; (try dsimp only at *); omega)), rfl⟩) (by simp)
    refine ojs_arith (z := 2) (by decide) rfl rfl rfl rfl ?_
    refine ojs_yd (yd_arrIdxV (i := 2) (m := 3) rfl (by decide) rfl rfl rfl rfl rfl rfl) rfl ?_
    refine brB_dec (fun _ => ?_) (fun _ => ?_)
    · exact endR_ok [] rfl rfl ⟨rfl, rfl⟩ rfl (fun _ => ⟨ret_bool (by cases hcb : staB _ <;> first | rfl | (exfalso; simp [staB] at hcb; (try dsimp only at *); omega)), rfl⟩) (by simp)
    refine brB_dec (fun _ => ?_) (fun _ => ?_)
    · exact endR_ok [] rfl rfl ⟨rfl, rfl⟩ rfl (fun _ => ⟨ret_bool (by cases hcb : staB _ <;> first | rfl | (exfalso; simp [staB] at hcb; (try dsimp only at *); omega)), rfl⟩) (by simp)
    refine ojs_arith (z := 3) (by decide) rfl rfl rfl rfl ?_
    exact endR_ok [] rfl rfl ⟨rfl, rfl⟩ rfl (fun _ => ⟨ret_bool (by cases hcb : staB _ <;> first | rfl | (exfalso; simp [staB] at hcb; (try dsimp only at *); omega)), rfl⟩) (by simp)
theorem staCheck_c (x : Sta) : Cm Tryz.prog 86 [.agg (staL x).toArray] [] [] (rets (.int .i64 (staE x))) := by
  refine cm_of (tab := tb) (ok := tbOk) [.g [.v (.int .i64 x.over), .v (.bool x.pend), .v (.int .i64 x.mode), .v (.int .i64 x.prio)]] Tryz.func86 Tryz.ntmps86 rfl rfl (fun _ _ => rfl) ?_
  intro w0 A0
  refine ojs_call [] [] rfl rfl rfl rfl rfl rfl rfl (by simp) (fun _ => staMay_c x) (by simp) (.inl rfl) ?_
  rintro e cs F1 _ ⟨rfl, rfl⟩
  unfold staE
  cases h : staB x
  · exact endR_ok [] rfl rfl ⟨rfl, rfl⟩ rfl (fun _ => ⟨rfl, rfl⟩) (by simp)
  · exact endR_ok [] rfl rfl ⟨rfl, rfl⟩ rfl (fun _ => ⟨rfl, rfl⟩) (by simp)
theorem refSta_c (x : Sta) : Cm Tryz.prog 115 [.agg (staL x).toArray] [] [] (rets (.bool (staB x))) := by
  obtain ⟨o, p, m, q⟩ := x
  cases p
  · refine cm_of (tab := tb) (ok := tbOk) [.g [.v (.int .i64 o), .v (.bool false), .v (.int .i64 m), .v (.int .i64 q)]] Tryz.func115 Tryz.ntmps115 rfl rfl (fun _ _ => rfl) ?_
    intro w0 A0
    repeat' (first | refine brB_dec (fun _ => ?_) (fun _ => ?_) | refine brB_split (fun _ => ?_) (fun _ => ?_) | (refine endR_ok [] rfl rfl ⟨rfl, rfl⟩ rfl (fun _ => ⟨ret_bool ?_, rfl⟩) (by simp); (rw [Bool.eq_iff_iff]; simp [staB, cond_false] at * <;> (try dsimp only at *) <;> first | omega | (simp_all; done) | (simp_all; omega))) | (refine ojs_call [] [] rfl rfl rfl rfl rfl rfl rfl (by simp) (fun _ => refMode_c _) (by simp) (.inl rfl) ?_; rintro e cs F1 _ ⟨rfl, rfl⟩))
  · refine cm_of (tab := tb) (ok := tbOk) [.g [.v (.int .i64 o), .v (.bool true), .v (.int .i64 m), .v (.int .i64 q)]] Tryz.func115 Tryz.ntmps115 rfl rfl (fun _ _ => rfl) ?_
    intro w0 A0
    repeat' (first | refine brB_dec (fun _ => ?_) (fun _ => ?_) | refine brB_split (fun _ => ?_) (fun _ => ?_) | (refine endR_ok [] rfl rfl ⟨rfl, rfl⟩ rfl (fun _ => ⟨ret_bool ?_, rfl⟩) (by simp); (rw [Bool.eq_iff_iff]; simp [staB, modeB, cond_true] at * <;> (try dsimp only at *) <;> first | omega | (simp_all; done) | (simp_all; omega))) | (refine ojs_call [] [] rfl rfl rfl rfl rfl rfl rfl (by simp) (fun _ => refMode_c _) (by simp) (.inl rfl) ?_; rintro e cs F1 _ ⟨rfl, rfl⟩))
end Go.Proofs.YtmhnlkakbadkgaaGreat
namespace Go.Proofs.YtmhnlkakbadkgaaGreat
open Go.RowKit Go.Shelf
set_option maxRecDepth 100000
def tickB (n : Int) : Bool := decide (0 ≤ n) && decide (n ≤ 1099511627776)
theorem timerMay_c (n : Int) : Cm Tryz.prog 122 [.int .i64 n] [] [] (rets (.bool (tickB n))) := by
  refine cm_of (tab := tb) (ok := tbOk) [.o (.v (.int .i64 n))] Tryz.func122 Tryz.ntmps122 rfl rfl (fun _ _ => rfl) ?_
  intro w0 A0
  refine ojs_inl Tryz.func189 Tryz.ntmps189 rfl rfl rfl rfl rfl rfl rfl ?_
  intro w1 A1 M1 N1 hN1
  refine ojs_yd (yd_buildA rfl rfl rfl rfl rfl) rfl ?_
  refine ⟨rfl, ?_⟩
  refine ojs_yd (yd_arrIdx (i := 0) (m := 2) rfl (by decide) rfl rfl rfl rfl rfl rfl) rfl ?_
  refine brB_dec (fun _ => ?_) (fun _ => ?_)
  · refine ojs_inl Tryz.func189 Tryz.ntmps189 rfl rfl rfl rfl rfl rfl rfl ?_
    intro w2 A2 M2 N2 hN2
    refine ojs_yd (yd_buildA rfl rfl rfl rfl rfl) rfl ?_
    refine ⟨rfl, ?_⟩
    refine ojs_yd (yd_arrIdx (i := 1) (m := 2) rfl (by decide) rfl rfl rfl rfl rfl rfl) rfl ?_
    repeat' (first | refine brB_dec (fun _ => ?_) (fun _ => ?_) | refine brB_split (fun _ => ?_) (fun _ => ?_) | (refine endR_ok [] rfl rfl ⟨rfl, rfl⟩ rfl (fun _ => ⟨ret_bool ?_, rfl⟩) (by simp); (rw [Bool.eq_iff_iff]; simp [tickB] at * <;> (try dsimp only at *) <;> first | omega | (simp_all; done) | (simp_all; omega))) | fail)
  · repeat' (first | refine brB_dec (fun _ => ?_) (fun _ => ?_) | refine brB_split (fun _ => ?_) (fun _ => ?_) | (refine endR_ok [] rfl rfl ⟨rfl, rfl⟩ rfl (fun _ => ⟨ret_bool ?_, rfl⟩) (by simp); (rw [Bool.eq_iff_iff]; simp [tickB] at * <;> (try dsimp only at *) <;> first | omega | (simp_all; done) | (simp_all; omega))) | fail)
theorem refTick_c (n : Int) : Cm Tryz.prog 112 [.int .i64 n] [] [] (rets (.bool (tickB n))) := by
  refine cm_of (tab := tb) (ok := tbOk) [.o (.v (.int .i64 n))] Tryz.func112 Tryz.ntmps112 rfl rfl (fun _ _ => rfl) ?_
  intro w0 A0
  repeat' (first | refine brB_dec (fun _ => ?_) (fun _ => ?_) | refine brB_split (fun _ => ?_) (fun _ => ?_) | (refine endR_ok [] rfl rfl ⟨rfl, rfl⟩ rfl (fun _ => ⟨ret_bool ?_, rfl⟩) (by simp); (rw [Bool.eq_iff_iff]; simp [tickB] at * <;> (try dsimp only at *) <;> first | omega | (simp_all; done) | (simp_all; omega))) | fail)
def atO (n : Int) : OutT := fun e _ F1 => ∃ v, e = .returned (.tuple #[.pointer v, .int .i64 (bif tickB n then 0 else 2)]) ∧ F1 = []
theorem timerAt_c (n : Int) : Cm Tryz.prog 68 [.int .i64 n] [] [] (atO n) := by
  refine cm_of (tab := tb) (ok := tbOk) [.o (.v (.int .i64 n))] Tryz.func68 Tryz.ntmps68 rfl rfl (fun _ _ => rfl) ?_
  intro w0 A0
  refine ojs_call [] [] rfl rfl rfl rfl rfl rfl rfl (by simp) (fun _ => timerMay_c n) (by simp) (.inl rfl) ?_
  rintro e cs F1 _ ⟨rfl, rfl⟩
  unfold atO
  cases h : tickB n
  · exact endR_ok [] rfl rfl ⟨rfl, rfl⟩ rfl (fun _ => ⟨none, rfl, rfl⟩) (by simp)
  · refine ojs_inl Tryz.func123 Tryz.ntmps123 rfl rfl rfl rfl rfl rfl rfl ?_
    intro w1 A1 M1 N1 hN1
    refine ojs_makeMap rfl rfl rfl fun gm => ?_
    refine ⟨rfl, ?_⟩
    exact endR_ok [] rfl rfl ⟨rfl, rfl⟩ rfl (fun ρ => ⟨some ⟨ρ 1, 0, none⟩, rfl, rfl⟩) (by simp)
def nodeB (n k : Int) : Bool := decide (0 ≤ k) && decide (k < n)
theorem siteMany_c (n l s : Int) (hs : shapeB n l s = true) : Cm Tryz.prog 192 [.agg #[.int .i64 n, .int .i64 l, .int .i64 s]] [] [] (rets (.int .i64 (n * s))) := by
  have h := shapeB_is hs
  refine cm_of (tab := tb) (ok := tbOk) [.g [.v (.int .i64 n), .v (.int .i64 l), .v (.int .i64 s)]] Tryz.func192 Tryz.ntmps192 rfl rfl (fun _ _ => rfl) ?_
  intro w0 A0
  refine ojs_arith (wrap_in ?_ ?_) rfl rfl rfl rfl ?_
  · have : 0 ≤ n * s := Int.mul_nonneg (by omega) (by omega); omega
  · have : n * s ≤ 64 * 4 := Int.mul_le_mul (by omega) (by omega) (by omega) (by omega); omega
  exact endR_ok [] rfl rfl ⟨rfl, rfl⟩ rfl (fun _ => ⟨rfl, rfl⟩) (by simp)
structure Plc where
  n : Int
  l : Int
  s : Int
  me : Int
  lock : Int
  limit : Int
  retry : Int
  far : Int
  now : Int
  still : Bool
def plcL (p : Plc) : List Value := [.int .i64 p.n, .int .i64 p.l, .int .i64 p.s, .int .i64 p.me, .int .i64 p.lock, .int .i64 p.limit, .int .i64 p.retry, .int .i64 p.far, .int .i64 p.now, .bool p.still]
def spanB (n : Int) : Bool := decide (1 ≤ n) && decide (n ≤ 1099511627776)
def capB (n : Int) : Bool := decide (0 ≤ n) && decide (n ≤ 64)
def placeB (p : Plc) : Bool := shapeB p.n p.l p.s && (nodeB p.n p.me && nodeB p.l p.lock) && capB p.limit && spanB p.retry && spanB p.far && tickB p.now
theorem refSpan_c (n : Int) : Cm Tryz.prog 111 [.int .i64 n] [] [] (rets (.bool (spanB n))) := by
  refine cm_of (tab := tb) (ok := tbOk) [.o (.v (.int .i64 n))] Tryz.func111 Tryz.ntmps111 rfl rfl (fun _ _ => rfl) ?_
  intro w0 A0
  repeat' (first | refine brB_dec (fun _ => ?_) (fun _ => ?_) | refine brB_split (fun _ => ?_) (fun _ => ?_) | (refine endR_ok [] rfl rfl ⟨rfl, rfl⟩ rfl (fun _ => ⟨ret_bool ?_, rfl⟩) (by simp); (rw [Bool.eq_iff_iff]; simp [spanB] at * <;> (try dsimp only at *) <;> first | omega | (simp_all; done) | (simp_all; omega))) | fail)
theorem refCap_c (n : Int) : Cm Tryz.prog 110 [.int .i64 n] [] [] (rets (.bool (capB n))) := by
  refine cm_of (tab := tb) (ok := tbOk) [.o (.v (.int .i64 n))] Tryz.func110 Tryz.ntmps110 rfl rfl (fun _ _ => rfl) ?_
  intro w0 A0
  repeat' (first | refine brB_dec (fun _ => ?_) (fun _ => ?_) | refine brB_split (fun _ => ?_) (fun _ => ?_) | (refine endR_ok [] rfl rfl ⟨rfl, rfl⟩ rfl (fun _ => ⟨ret_bool ?_, rfl⟩) (by simp); (rw [Bool.eq_iff_iff]; simp [capB] at * <;> (try dsimp only at *) <;> first | omega | (simp_all; done) | (simp_all; omega))) | fail)
theorem refPlace_c (p : Plc) : Cm Tryz.prog 58 [.agg (plcL p).toArray] [] [] (rets (.bool (placeB p))) := by
  refine cm_of (tab := tb) (ok := tbOk) [.g [.v (.int .i64 p.n), .v (.int .i64 p.l), .v (.int .i64 p.s), .v (.int .i64 p.me), .v (.int .i64 p.lock), .v (.int .i64 p.limit), .v (.int .i64 p.retry), .v (.int .i64 p.far), .v (.int .i64 p.now), .v (.bool p.still)]] Tryz.func58 Tryz.ntmps58 rfl rfl (fun _ _ => rfl) ?_
  intro w0 A0
  repeat' (first | refine brB_dec (fun _ => ?_) (fun _ => ?_) | refine brB_split (fun _ => ?_) (fun _ => ?_) | (refine endR_ok [] rfl rfl ⟨rfl, rfl⟩ rfl (fun _ => ⟨ret_bool ?_, rfl⟩) (by simp); (rw [Bool.eq_iff_iff]; simp [placeB, nodeB] at * <;> (try dsimp only at *) <;> first | omega | (simp_all; done) | (simp_all; omega))) | first | (refine ojs_call [] [] rfl rfl rfl rfl rfl rfl rfl (by simp) (fun _ => refShape_c _ _ _) (by simp) (.inl rfl) ?_; rintro e cs F1 _ ⟨rfl, rfl⟩) | (refine ojs_call [] [] rfl rfl rfl rfl rfl rfl rfl (by simp) (fun _ => refCap_c _) (by simp) (.inl rfl) ?_; rintro e cs F1 _ ⟨rfl, rfl⟩) | (refine ojs_call [] [] rfl rfl rfl rfl rfl rfl rfl (by simp) (fun _ => refSpan_c _) (by simp) (.inl rfl) ?_; rintro e cs F1 _ ⟨rfl, rfl⟩) | (refine ojs_call [] [] rfl rfl rfl rfl rfl rfl rfl (by simp) (fun _ => refTick_c _) (by simp) (.inl rfl) ?_; rintro e cs F1 _ ⟨rfl, rfl⟩))
theorem lockWithin_c (n a b : Int) : Cm Tryz.prog 21 [.int .i64 n, .int .i64 a, .int .i64 b] [] [] (rets (.bool (inB n a b))) := by
  refine cm_of (tab := tb) (ok := tbOk) [.o (.v (.int .i64 n)), .o (.v (.int .i64 a)), .o (.v (.int .i64 b))] Tryz.func21 Tryz.ntmps21 rfl rfl (fun _ _ => rfl) ?_
  intro w0 A0
  repeat' (first | (refine endR_ok [] rfl rfl ⟨rfl, rfl⟩ rfl (fun _ => ⟨ret_bool ?_, rfl⟩) (by simp); first | (simp [inB, *]; done) | (rw [Bool.eq_iff_iff]; simp [inB]; omega)) | refine brB_dec (fun _ => ?_) (fun _ => ?_))
end Go.Proofs.YtmhnlkakbadkgaaGreat
namespace Go.Proofs.YtmhnlkakbadkgaaGreat
open Go.RowKit Go.Shelf
set_option maxRecDepth 100000
theorem div_nat (i s : Nat) : ((i : Nat) : Int).tdiv (s : Int) = ((i / s : Nat) : Int) := by rw [Int.ofNat_tdiv]
theorem mod_nat (i s : Nat) : ((i : Nat) : Int).tmod (s : Int) = ((i % s : Nat) : Int) := by rw [Int.ofNat_tmod]
theorem nat_in {q z : Nat} (h : q ≤ z) (hz : z ≤ 1000000) : -9223372036854775808 ≤ ((q : Nat) : Int) ∧ ((q : Nat) : Int) ≤ 9223372036854775807 := by omega
def firstV (s : Nat) (i : Nat) : Value := .agg #[.int .i64 ((i / s : Nat) : Int), .int .i64 0, .int .i64 ((i % s : Nat) : Int), .int .i64 1]
theorem siteFirst_c (n l : Int) (s i : Nat) (hs : 1 ≤ s) (hi : i ≤ 1000000) : Cm Tryz.prog 191 [.agg #[.int .i64 n, .int .i64 l, .int .i64 s], .int .i64 i] [] [] (rets (firstV s i)) := by
  refine cm_of (tab := tb) (ok := tbOk) [.g [.v (.int .i64 n), .v (.int .i64 l), .v (.int .i64 s)], .o (.v (.int .i64 i))] Tryz.func191 Tryz.ntmps191 rfl rfl (fun _ _ => rfl) ?_
  intro w0 A0
  have hd := nat_in (Nat.div_le_self i s) hi
  have hm := nat_in (Nat.mod_le i s) hi
  refine cjs_drawn [11] (.op 0 <| .op 1 <| .op 2 <| .op 3 <| .op 4 <| .op 5 <| .op 6 <| .op 7 <| .op 8 <| .op 9 <| .op 10 <| .op 11 .z) [0] [] [] [] (by kernel_rfl) (by kernel_rfl) rfl (by simp) (by simp) ?_
  intro N
  refine ⟨_, yd_div (r := ((i / s : Nat) : Int)) (by omega) hd.1 hd.2 rfl rfl rfl (congrArg some (div_nat i s)), ?_⟩
  refine ⟨_, yd_div (r := ((i % s : Nat) : Int)) (by omega) hm.1 hm.2 rfl rfl rfl (congrArg some (mod_nat i s)), ?_⟩
  refine ⟨_, yd_build rfl rfl rfl rfl, ?_⟩
  refine ⟨⟨(by repeat' (first | exact trivial | refine ⟨Or.inl rfl, ?_⟩ | refine ⟨Or.inr ⟨rfl, Nat.le_of_ble_eq_true rfl, _, rfl, rfl, rfl⟩, ?_⟩)), by simp⟩, ?_⟩
  exact endR_ok [] rfl rfl ⟨rfl, rfl⟩ rfl (fun _ => ⟨rfl, rfl⟩) (by simp)
def sitesX (n l s : Int) : List Nat := if shapeB n l s = true then List.range (n.toNat * s.toNat) else []
def encSt (s : Int) (i : Nat) : List Value := [.int .i64 i, firstV s.toNat i]
theorem sitesX_le {n l s : Int} : (sitesX n l s).length ≤ 256 := by
  unfold sitesX
  split
  · rename_i h
    have := shapeB_is h
    rw [List.length_range]
    exact (show n.toNat * s.toNat ≤ 64 * 4 from Nat.mul_le_mul (by omega) (by omega))
  · simp
theorem seqE_c (n l s : Int) (b : Nat) : SeqC Tryz.prog 190 [.pointer (some ⟨b, 0, none⟩)] [blkF b [.int .i64 n, .int .i64 l, .int .i64 s] 23] (encSt s) (sitesX n l s) := by
  refine seq_of (tab := tb) (ok := tbOk) [.o (.v (.pointer (some ⟨b, 0, none⟩)))] Tryz.func190 Tryz.ntmps190 rfl rfl (fun _ => rfl) ?_
  intro S
  refine cjs_scope rfl ?_
  refine ojs_loadN (vs := [.int .i64 n, .int .i64 l, .int .i64 s]) (S.inF (blkF b [.int .i64 n, .int .i64 l, .int .i64 s] 23)) (by simp) (fun A w h => blk_cells _ _ h.2) rfl rfl rfl ?_
  refine ojs_call [] [] rfl rfl rfl rfl rfl rfl rfl (by simp) (fun _ => siteCheck_c n l s) (by simp) (.inl rfl) ?_
  rintro e cs F1 _ ⟨rfl, rfl⟩
  unfold shapeE
  cases hs : shapeB n l s
  · have hx : sitesX n l s = [] := by unfold sitesX; rw [if_neg (by rw [hs]; simp)]
    have hl : (sitesX n l s).length = 0 := by rw [hx]; rfl
    exact endS_done (by rw [hl]; simp) rfl rfl
  have h := shapeB_is hs
  obtain ⟨s', rfl⟩ : ∃ s' : Nat, s = s' := ⟨s.toNat, by omega⟩
  obtain ⟨n', rfl⟩ : ∃ n' : Nat, n = n' := ⟨n.toNat, by omega⟩
  have hx : sitesX n' l s' = List.range (n' * s') := by unfold sitesX; rw [if_pos hs]; rfl
  have hle : n' * s' ≤ 256 := by have := sitesX_le (n := n') (l := l) (s := s'); rw [hx, List.length_range] at this; exact this
  refine ojs_loadN (vs := [.int .i64 n', .int .i64 l, .int .i64 s']) (S.inF (blkF b [.int .i64 n', .int .i64 l, .int .i64 s'] 23)) (by simp) (fun A w h => blk_cells _ _ h.2) rfl rfl rfl ?_
  refine optK_of (yd_bound (v := .agg #[.int .i64 n', .int .i64 l, .int .i64 s']) rfl rfl (fun _ => rfl)) ?_
  refine ojs_call [] [] rfl rfl rfl rfl rfl rfl rfl (by simp) (fun _ => siteMany_c n' l s' hs) (by simp) (.inl rfl) ?_
  rintro e cs F1 _ ⟨rfl, rfl⟩
  refine cjs_loopX (γ := Nat) (fun k => k ≤ n' * s') (fun k => [(15, .o (.v (.int .i64 k)))]) (fun _ => []) (fun k => [S.jF k]) (fun k => n' * s' - k) 0 (Nat.zero_le _) (wk_patch (by repeat' (first | exact trivial | exact Or.inl rfl | refine Or.inr ⟨?_, ?_⟩ | rfl | refine ⟨?_, ?_⟩ | exact lt_all_v)) (by repeat' (first | exact trivial | exact Or.inl rfl | refine Or.inr ⟨?_, ?_⟩ | rfl | refine ⟨?_, ?_⟩ | exact lt_all_v)) (by simp) (by simp [It.X]) D_nil) ?_
  intro k hk
  refine brB_dec (fun h1 => ?_) (fun h1 => ?_)
  · have hkl : k < n' * s' := by rw [← Int.natCast_mul] at h1; omega
    refine ojs_call [] [] rfl rfl rfl rfl rfl rfl rfl (by simp) (fun _ => siteFirst_c n' l s' k (by omega) (by omega)) (by simp) (.inl rfl) ?_
    rintro e cs F1 _ ⟨rfl, rfl⟩
    refine ojs_yield k [] rfl rfl rfl rfl (by rw [hx]; exact List.getElem?_range hkl) (fun _ => rfl) (by simp) (by simp) ?_ ?_
    · refine ojs_arith (z := ((k + 1 : Nat) : Int)) (by rw [wrap_in] <;> omega) rfl rfl rfl rfl ?_
      exact ⟨k + 1, by omega, by dsimp only; omega, wk_patch (by repeat' (first | exact trivial | exact Or.inl rfl | refine Or.inr ⟨?_, ?_⟩ | rfl | refine ⟨?_, ?_⟩ | exact lt_all_v)) (by repeat' (first | exact trivial | exact Or.inl rfl | refine Or.inr ⟨?_, ?_⟩ | rfl | refine ⟨?_, ?_⟩ | exact lt_all_v)) (by simp) (by simp [It.X]) D_nil⟩
    · exact endS_stop (k + 1) (by simp) (by omega) (by rw [hx, List.length_range]; omega) rfl rfl
  · obtain rfl : k = n' * s' := by rw [← Int.natCast_mul] at h1; omega
    have hxl : (sitesX n' l s').length = n' * s' := by rw [hx, List.length_range]
    refine endS_done (by rw [hxl]; simp) rfl rfl
def siteEachR (n l s : Int) : OutT := fun e _ F1 => ∃ b, e = .returned (.func (.func 190) #[] #[.pointer (some ⟨b, 0, none⟩)]) ∧ F1 = [blkF b [.int .i64 n, .int .i64 l, .int .i64 s] 23]
theorem siteEach_c (n l s : Int) : Cm Tryz.prog 124 [.agg #[.int .i64 n, .int .i64 l, .int .i64 s]] [] [] (siteEachR n l s) := by
  refine cm_of (tab := tb) (ok := tbOk) [.g [.v (.int .i64 n), .v (.int .i64 l), .v (.int .i64 s)]] Tryz.func124 Tryz.ntmps124 rfl rfl (fun _ _ => rfl) ?_
  intro w0 A0
  exact endR_seal [0] [] rfl rfl rfl rfl ⟨rfl, rfl⟩ rfl (fun ρ => ⟨ρ 0, rfl, rfl⟩) (by simp)
theorem sites_c (n l s : Int) : Cm Tryz.prog 70 [.agg #[.int .i64 n, .int .i64 l, .int .i64 s]] [] [] (rets (.tuple #[.int .i64 (sitesX n l s).length, .int .i64 (shapeE n l s)])) := by
  refine cm_ofD (tab := tb) (ok := tbOk) [.g [.v (.int .i64 n), .v (.int .i64 l), .v (.int .i64 s)]] Tryz.func70 Tryz.ntmps70 rfl rfl (fun _ _ => rfl) ?_
  intro w0 A0
  refine ojs_call [] [] rfl rfl rfl rfl rfl rfl rfl (by simp) (fun _ => siteEach_c n l s) (by simp) (.inl rfl) ?_
  rintro e cs F1 _ ⟨b, rfl, rfl⟩
  have hle := sitesX_le (n := n) (l := l) (s := s)
  obtain ⟨xs, hxs⟩ : ∃ xs, xs = sitesX n l s := ⟨_, rfl⟩
  have hseq := seqE_c n l s b
  rw [← hxs] at hle hseq ⊢
  refine cjs_range (γ := Unit) (fun _ _ => True) (fun k _ => ([(1, .c [.v (.int .i64 k)] 3), (0, .c [.v (.int .i64 n), .v (.int .i64 l), .v (.int .i64 s)] 23)], [blkF b [.int .i64 n, .int .i64 l, .int .i64 s] 23])) () hseq rfl rfl rfl (fun _ => rfl) rfl (Nat.zero_le _) trivial ?_ (by simp) ?_ ?_
  · exact wk_patch (by repeat' (first | exact trivial | exact Or.inl rfl | refine Or.inr ⟨?_, ?_⟩ | rfl | refine ⟨?_, ?_⟩ | exact lt_all_v)) (by repeat' (first | exact trivial | exact Or.inl rfl | refine Or.inr ⟨?_, ?_⟩ | rfl | refine ⟨?_, ?_⟩ | exact lt_all_v)) (by simp) (by simp) D_nil
  · rintro k x - hx - l1 w1 A1 M1 N1 hN1
    have hkl := (List.getElem?_eq_some_iff.1 hx).1
    intro w2 A2 M2 N2 hN2
    refine ⟨rfl, ?_⟩
    refine ojs_arith (z := ((k + 1 : Nat) : Int)) (by first | decide | (rw [wrap_in] <;> omega) | (dsimp only; rw [wrap_in] <;> omega)) rfl rfl rfl rfl ?_
    exact ⟨(), trivial, wk_patch (by repeat' (first | exact trivial | exact Or.inl rfl | refine Or.inr ⟨?_, ?_⟩ | rfl | refine ⟨?_, ?_⟩ | exact lt_all_v)) (by repeat' (first | exact trivial | exact Or.inl rfl | refine Or.inr ⟨?_, ?_⟩ | rfl | refine ⟨?_, ?_⟩ | exact lt_all_v)) (by simp) (Nat.le_of_eq hN2) D_nil⟩
  · rintro - -
    refine cjs_drawn [2, 3] (.op 0 <| .op 1 <| .op 2 <| .op 3 <| .op 4 .z) [0, 1] [] [] [] (by kernel_rfl) (by kernel_rfl) rfl (by simp) (by simp) ?_
    intro N
    refine ojs_call [] [] rfl rfl rfl rfl rfl rfl rfl (by simp) (fun _ => asked0_c n l s) (by simp) (.inl rfl) ?_
    rintro e cs F1 _ ⟨rfl, rfl⟩
    refine ⟨⟨(by repeat' (first | exact trivial | refine ⟨Or.inl rfl, ?_⟩ | refine ⟨Or.inr ⟨rfl, Nat.le_of_ble_eq_true rfl, _, rfl, rfl, rfl⟩, ?_⟩)), by simp⟩, ?_⟩
    refine ⟨⟨(by repeat' (first | exact trivial | refine ⟨Or.inl rfl, ?_⟩ | refine ⟨Or.inr ⟨rfl, Nat.le_of_ble_eq_true rfl, _, rfl, rfl, rfl⟩, ?_⟩)), by simp⟩, ?_⟩
    refine lv_of (lv_mark ret_ne rfl ?_)
    exact lv_ret (endR_ok [] rfl rfl ⟨rfl, rfl⟩ rfl (fun _ => ⟨rfl, rfl⟩) (by simp))
end Go.Proofs.YtmhnlkakbadkgaaGreat
