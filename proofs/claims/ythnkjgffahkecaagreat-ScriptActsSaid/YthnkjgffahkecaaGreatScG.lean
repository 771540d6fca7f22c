/- Asks and configs, by the symbolic run: which may be, by the references; configs. -/
import Derived.Test.YthnkjgffahkecaaGreatScF
import Derived.Test.YthnkjgffahkecaaGreatEngY
namespace Go.Proofs.YthnkjgffahkecaaGreat
open Go.RowKit Go.Shelf

theorem callCheck_c (q : Ask) (n l s : Int) (hw : -9223372036854775808 ≤ q.chg ∧ q.chg ≤ 9223372036854775807) : Cm Tryz.prog 30 [.agg (shL n l s).toArray, .agg (askL q).toArray] [] [] (rets (.int .i64 (bif askB n l s q then 0 else 2))) := by
  refine cm_of (tab := tb) (ok := tbOk) [.g [.v (.int .i64 n), .v (.int .i64 l), .v (.int .i64 s)], .g [.v (.int .i64 q.kind), .v (.int .i64 q.lock), .v (.int .i64 q.mode), .v (.int .i64 q.prio), .v (.int .i64 q.ticks), .v (.int .i64 q.slot), .v (.int .i64 q.use), .v (.int .i64 q.chg)]] Tryz.func30 Tryz.ntmps30 rfl rfl (fun _ _ => rfl) ?_
  intro w0 A0
  refine ojs_call [] [] rfl rfl rfl rfl rfl rfl rfl (by simp) (fun _ => callRight_c q n l s hw) (by simp) (.inl rfl) ?_
  rintro e cs F1 _ ⟨rfl, rfl⟩
  cases askB n l s q
  · exact endR_ok [] rfl rfl ⟨rfl, rfl⟩ rfl (fun _ => ⟨rfl, rfl⟩) (by simp)
  · exact endR_ok [] rfl rfl ⟨rfl, rfl⟩ rfl (fun _ => ⟨rfl, rfl⟩) (by simp)
theorem refIn_c (n a b : Int) : Cm Tryz.prog 56 [.int .i64 n, .int .i64 a, .int .i64 b] [] [] (rets (.bool (inB n a b))) := by
  refine cm_of (tab := tb) (ok := tbOk) [.o (.v (.int .i64 n)), .o (.v (.int .i64 a)), .o (.v (.int .i64 b))] Tryz.func56 Tryz.ntmps56 rfl rfl (fun _ _ => rfl) ?_
  intro w0 A0
  repeat' (first | (refine endR_ok [] rfl rfl ⟨rfl, rfl⟩ rfl (fun _ => ⟨ret_bool ?_, rfl⟩) (by simp); first | (simp [inB, *]; done) | (rw [Bool.eq_iff_iff]; simp [inB]; omega)) | refine brB_dec (fun _ => ?_) (fun _ => ?_))
theorem refMode_c (m : Int) : Cm Tryz.prog 57 [.int .i64 m] [] [] (rets (.bool (inB m 0 5))) := by
  refine cm_of (tab := tb) (ok := tbOk) [.o (.v (.int .i64 m))] Tryz.func57 Tryz.ntmps57 rfl rfl (fun _ _ => rfl) ?_
  intro w0 A0
  repeat' (first | (refine endR_ok [] rfl rfl ⟨rfl, rfl⟩ rfl (fun _ => ⟨ret_bool ?_, rfl⟩) (by simp); first | (simp [inB, *]; done) | (rw [Bool.eq_iff_iff]; simp [inB]; omega)) | refine brB_dec (fun _ => ?_) (fun _ => ?_))
theorem inB_iff {n a b : Int} : inB n a b = true ↔ a ≤ n ∧ n ≤ b := by simp [inB]
theorem refIn_p (n a b : Int) : Cm Tryz.prog 56 [.int .i64 n, .int .i64 a, .int .i64 b] [] [] (retB (a ≤ n ∧ n ≤ b)) := (refIn_c n a b).retB inB_iff
theorem refMode_p (m : Int) : Cm Tryz.prog 57 [.int .i64 m] [] [] (retB (0 ≤ m ∧ m ≤ 5)) := (refMode_c m).retB inB_iff
set_option maxRecDepth 20000 in
set_option maxHeartbeats 1000000 in
theorem refAsk_c (q : Ask) (n l s : Int) : Cm Tryz.prog 37 [.agg (shL n l s).toArray, .agg (askL q).toArray] [] [] (rets (.bool (askB n l s q))) := by
  refine cm_of (tab := tb) (ok := tbOk) [.g [.v (.int .i64 n), .v (.int .i64 l), .v (.int .i64 s)], .g [.v (.int .i64 q.kind), .v (.int .i64 q.lock), .v (.int .i64 q.mode), .v (.int .i64 q.prio), .v (.int .i64 q.ticks), .v (.int .i64 q.slot), .v (.int .i64 q.use), .v (.int .i64 q.chg)]] Tryz.func37 Tryz.ntmps37 rfl rfl (fun _ _ => rfl) ?_
  intro w0 A0
  obtain ⟨k, a, b, c, d, e, f, g⟩ := q
  simp only
  refine ojs_call [] [] rfl rfl rfl rfl rfl rfl rfl (by simp) (fun _ => refShape_c n l s) (by simp) (.inl rfl) ?_
  rintro e cs F1 _ ⟨rfl, rfl⟩
  cases hs : shapeB n l s
  · exact endR_ok [] rfl rfl ⟨rfl, rfl⟩ rfl (fun _ => ⟨ret_bool (by simp [askB, hs]), rfl⟩) (by simp)
  have hA : askB n l s ⟨k, a, b, c, d, e, f, g⟩ = true ↔ (1 ≤ k ∧ k ≤ 7 ∧ 0 ≤ a ∧ a < l) ∧ ((2 < k ∧ b = 0 ∧ c = 0 ∧ d = 0 ∧ 0 ≤ e ∧ e < s ∧ 1 ≤ f ∧ f ≤ 1099511627776 ∧ (k = 7 ↔ g ≠ 0)) ∨ (¬ 2 < k ∧ 1 ≤ b ∧ b ≤ 5 ∧ 0 ≤ c ∧ c ≤ 3 ∧ 0 ≤ d ∧ d ≤ 1099511627776 ∧ (k = 1 ∨ d = 0) ∧ e = 0 ∧ f = 0 ∧ g = 0)) := by
    have hb : ((decide (k = 7) == decide (g ≠ 0)) = true) ↔ (k = 7 ↔ g ≠ 0) := by by_cases h1 : k = 7 <;> by_cases h2 : g = 0 <;> simp [h1, h2]
    by_cases h2 : 2 < k
    · simp only [askB, hs, h2, if_true, Bool.and_eq_true, hb, decide_eq_true_eq, true_and, not_true, false_and, or_false]
      omega
    · simp only [askB, hs, h2, if_false, Bool.and_eq_true, Bool.or_eq_true, decide_eq_true_eq, true_and, not_false_eq_true, false_and, false_or]
      omega
  have fin : ∀ x : Bool, (x = true ↔ (1 ≤ k ∧ k ≤ 7 ∧ 0 ≤ a ∧ a < l) ∧ ((2 < k ∧ b = 0 ∧ c = 0 ∧ d = 0 ∧ 0 ≤ e ∧ e < s ∧ 1 ≤ f ∧ f ≤ 1099511627776 ∧ (k = 7 ↔ g ≠ 0)) ∨ (¬ 2 < k ∧ 1 ≤ b ∧ b ≤ 5 ∧ 0 ≤ c ∧ c ≤ 3 ∧ 0 ≤ d ∧ d ≤ 1099511627776 ∧ (k = 1 ∨ d = 0) ∧ e = 0 ∧ f = 0 ∧ g = 0))) → x = askB n l s ⟨k, a, b, c, d, e, f, g⟩ := fun x hx => by
    rw [Bool.eq_iff_iff, hx, hA]
  generalize askB n l s ⟨k, a, b, c, d, e, f, g⟩ = R at fin ⊢
  clear hA
  refine brB_dec (fun h1 => ?_) (fun h1 => ?_)
  · exact endR_ok [] rfl rfl ⟨rfl, rfl⟩ rfl (fun _ => ⟨ret_bool (fin _ (by simp; omega)), rfl⟩) (by simp)
  refine brB_dec (fun h2 => ?_) (fun h2 => ?_)
  · exact endR_ok [] rfl rfl ⟨rfl, rfl⟩ rfl (fun _ => ⟨ret_bool (fin _ (by simp; omega)), rfl⟩) (by simp)
  refine brB_dec (fun h3 => ?_) (fun h3 => ?_)
  · exact endR_ok [] rfl rfl ⟨rfl, rfl⟩ rfl (fun _ => ⟨ret_bool (fin _ (by simp; omega)), rfl⟩) (by simp)
  refine brB_dec (fun h4 => ?_) (fun h4 => ?_)
  · exact endR_ok [] rfl rfl ⟨rfl, rfl⟩ rfl (fun _ => ⟨ret_bool (fin _ (by simp; omega)), rfl⟩) (by simp)
  refine brB_dec (fun h5 => ?_) (fun h5 => ?_)
  · refine brB_dec (fun h6 => ?_) (fun h6 => ?_)
    rotate_left
    · exact endR_ok [] rfl rfl ⟨rfl, rfl⟩ rfl (fun _ => ⟨ret_bool (fin _ (by simp; omega)), rfl⟩) (by simp)
    refine brB_dec (fun h7 => ?_) (fun h7 => ?_)
    rotate_left
    · exact endR_ok [] rfl rfl ⟨rfl, rfl⟩ rfl (fun _ => ⟨ret_bool (fin _ (by simp; omega)), rfl⟩) (by simp)
    refine brB_dec (fun h8 => ?_) (fun h8 => ?_)
    rotate_left
    · exact endR_ok [] rfl rfl ⟨rfl, rfl⟩ rfl (fun _ => ⟨ret_bool (fin _ (by simp; omega)), rfl⟩) (by simp)
    refine brB_dec (fun h9 => ?_) (fun h9 => ?_)
    rotate_left
    · exact endR_ok [] rfl rfl ⟨rfl, rfl⟩ rfl (fun _ => ⟨ret_bool (fin _ (by simp; omega)), rfl⟩) (by simp)
    refine brB_dec (fun h10 => ?_) (fun h10 => ?_)
    rotate_left
    · exact endR_ok [] rfl rfl ⟨rfl, rfl⟩ rfl (fun _ => ⟨ret_bool (fin _ (by simp; omega)), rfl⟩) (by simp)
    refine ojs_call [] [] rfl rfl rfl rfl rfl rfl rfl (by simp) (fun _ => refIn_p f 1 1099511627776) (by simp) (.inl rfl) ?_
    rintro e cs F1 _ ⟨r, h11, rfl, rfl⟩
    cases r
    · have h11 : ¬ _ := fun q => Bool.false_ne_true (h11.2 q)
      exact endR_ok [] rfl rfl ⟨rfl, rfl⟩ rfl (fun _ => ⟨ret_bool (fin _ (by simp; omega)), rfl⟩) (by simp)
    replace h11 := h11.1 rfl
    refine ojs_yd (yd_boolEq (p := (k == 7)) (q := (g != 0)) (r := ((k == 7) == (g != 0))) (by kernel_rfl) rfl rfl rfl rfl) rfl ?_
    have hb : (((k == 7) == (g != 0)) = true) ↔ (k = 7 ↔ g ≠ 0) := by
      have e1 : (k == 7) = decide (k = 7) := rfl
      have e2 : (g != 0) = !decide (g = 0) := rfl
      rw [e1, e2]
      by_cases h1 : k = 7 <;> by_cases h2 : g = 0 <;> simp [h1, h2]
    exact endR_ok [] rfl rfl ⟨rfl, rfl⟩ rfl (fun _ => ⟨ret_bool (fin _ (by rw [hb]; omega)), rfl⟩) (by simp)
  obtain rfl | rfl : k = 1 ∨ k = 2 := by omega
  · skip
    refine brB_split (fun h6 => ?_) (fun h6 => ?_)
    rotate_left
    · have h6 : b = 0 := by simpa using h6
      exact endR_ok [] rfl rfl ⟨rfl, rfl⟩ rfl (fun _ => ⟨ret_bool (fin _ (by simp; omega)), rfl⟩) (by simp)
    have h6 : b ≠ 0 := by simpa using h6
    refine ojs_call [] [] rfl rfl rfl rfl rfl rfl rfl (by simp) (fun _ => refMode_p b) (by simp) (.inl rfl) ?_
    rintro e cs F1 _ ⟨r, h7, rfl, rfl⟩
    cases r
    · have h7 : ¬ _ := fun q => Bool.false_ne_true (h7.2 q)
      exact endR_ok [] rfl rfl ⟨rfl, rfl⟩ rfl (fun _ => ⟨ret_bool (fin _ (by simp; omega)), rfl⟩) (by simp)
    replace h7 := h7.1 rfl
    refine ojs_call [] [] rfl rfl rfl rfl rfl rfl rfl (by simp) (fun _ => refIn_p c 0 3) (by simp) (.inl rfl) ?_
    rintro e cs F1 _ ⟨r, h8, rfl, rfl⟩
    cases r
    · have h8 : ¬ _ := fun q => Bool.false_ne_true (h8.2 q)
      exact endR_ok [] rfl rfl ⟨rfl, rfl⟩ rfl (fun _ => ⟨ret_bool (fin _ (by simp; omega)), rfl⟩) (by simp)
    replace h8 := h8.1 rfl
    refine ojs_call [] [] rfl rfl rfl rfl rfl rfl rfl (by simp) (fun _ => refIn_p d 0 1099511627776) (by simp) (.inl rfl) ?_
    rintro e cs F1 _ ⟨r, h9, rfl, rfl⟩
    cases r
    · have h9 : ¬ _ := fun q => Bool.false_ne_true (h9.2 q)
      exact endR_ok [] rfl rfl ⟨rfl, rfl⟩ rfl (fun _ => ⟨ret_bool (fin _ (by simp; omega)), rfl⟩) (by simp)
    replace h9 := h9.1 rfl
    refine brB_dec (fun h12 => ?_) (fun h12 => ?_)
    rotate_left
    · exact endR_ok [] rfl rfl ⟨rfl, rfl⟩ rfl (fun _ => ⟨ret_bool (fin false (by simp; omega)), rfl⟩) (by simp)
    refine brB_dec (fun h13 => ?_) (fun h13 => ?_)
    rotate_left
    · exact endR_ok [] rfl rfl ⟨rfl, rfl⟩ rfl (fun _ => ⟨ret_bool (fin false (by simp; omega)), rfl⟩) (by simp)
    exact endR_ok [] rfl rfl ⟨rfl, rfl⟩ rfl (fun _ => ⟨ret_bool (fin (decide (g = 0)) (by rw [decide_eq_true_eq]; exact ⟨fun hg => ⟨⟨by omega, by omega, by omega, by omega⟩, .inr ⟨h5, by omega, by omega, by omega, by omega, by omega, by omega, .inl rfl, by omega, by omega, hg⟩⟩, fun h => by rcases h.2 with h | h; exact absurd h.1 h5; exact h.2.2.2.2.2.2.2.2.2.2⟩)), rfl⟩) (by simp)
  · skip
    refine brB_split (fun h6 => ?_) (fun h6 => ?_)
    rotate_left
    · have h6 : b = 0 := by simpa using h6
      exact endR_ok [] rfl rfl ⟨rfl, rfl⟩ rfl (fun _ => ⟨ret_bool (fin _ (by simp; omega)), rfl⟩) (by simp)
    have h6 : b ≠ 0 := by simpa using h6
    refine ojs_call [] [] rfl rfl rfl rfl rfl rfl rfl (by simp) (fun _ => refMode_p b) (by simp) (.inl rfl) ?_
    rintro e cs F1 _ ⟨r, h7, rfl, rfl⟩
    cases r
    · have h7 : ¬ _ := fun q => Bool.false_ne_true (h7.2 q)
      exact endR_ok [] rfl rfl ⟨rfl, rfl⟩ rfl (fun _ => ⟨ret_bool (fin _ (by simp; omega)), rfl⟩) (by simp)
    replace h7 := h7.1 rfl
    refine ojs_call [] [] rfl rfl rfl rfl rfl rfl rfl (by simp) (fun _ => refIn_p c 0 3) (by simp) (.inl rfl) ?_
    rintro e cs F1 _ ⟨r, h8, rfl, rfl⟩
    cases r
    · have h8 : ¬ _ := fun q => Bool.false_ne_true (h8.2 q)
      exact endR_ok [] rfl rfl ⟨rfl, rfl⟩ rfl (fun _ => ⟨ret_bool (fin _ (by simp; omega)), rfl⟩) (by simp)
    replace h8 := h8.1 rfl
    refine ojs_call [] [] rfl rfl rfl rfl rfl rfl rfl (by simp) (fun _ => refIn_p d 0 1099511627776) (by simp) (.inl rfl) ?_
    rintro e cs F1 _ ⟨r, h9, rfl, rfl⟩
    cases r
    · have h9 : ¬ _ := fun q => Bool.false_ne_true (h9.2 q)
      exact endR_ok [] rfl rfl ⟨rfl, rfl⟩ rfl (fun _ => ⟨ret_bool (fin _ (by simp; omega)), rfl⟩) (by simp)
    replace h9 := h9.1 rfl
    refine brB_dec (fun h11 => ?_) (fun h11 => ?_)
    rotate_left
    · exact endR_ok [] rfl rfl ⟨rfl, rfl⟩ rfl (fun _ => ⟨ret_bool (fin false (by simp; omega)), rfl⟩) (by simp)
    refine brB_dec (fun h12 => ?_) (fun h12 => ?_)
    rotate_left
    · exact endR_ok [] rfl rfl ⟨rfl, rfl⟩ rfl (fun _ => ⟨ret_bool (fin false (by simp; omega)), rfl⟩) (by simp)
    refine brB_dec (fun h13 => ?_) (fun h13 => ?_)
    rotate_left
    · exact endR_ok [] rfl rfl ⟨rfl, rfl⟩ rfl (fun _ => ⟨ret_bool (fin false (by simp; omega)), rfl⟩) (by simp)
    exact endR_ok [] rfl rfl ⟨rfl, rfl⟩ rfl (fun _ => ⟨ret_bool (fin (decide (g = 0)) (by rw [decide_eq_true_eq]; exact ⟨fun hg => ⟨⟨by omega, by omega, by omega, by omega⟩, .inr ⟨h5, by omega, by omega, by omega, by omega, by omega, by omega, .inr h11, by omega, by omega, hg⟩⟩, fun h => by rcases h.2 with h | h; exact absurd h.1 h5; exact h.2.2.2.2.2.2.2.2.2.2⟩)), rfl⟩) (by simp)

end Go.Proofs.YthnkjgffahkecaaGreat
