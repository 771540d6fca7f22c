/- Sites, by the symbolic run: which tickets may be; their names. -/
import Derived.Test.YtehfodoocfpkoaaDoorStD
namespace Go.Proofs.YtehfodoocfpkoaaDoor
open Go.RowKit Go.Shelf

/-- May a ticket be, of a shape that may? -/
def tkB (n l s : Int) (t : Tk) : Bool := inB t.1 0 (n - 1) && inB t.2.1 0 (l - 1) && inB t.2.2.1 0 (s - 1) && inB t.2.2.2 1 1099511627776
theorem right1_c (n l s : Int) (t : Tk) (hs : shapeB n l s = true) (c b : Nat) : Cm Tryd.prog 36 [.pointer (some ⟨c, 0, none⟩), .pointer (some ⟨b, 0, none⟩)] [] [blkF c [.int .i64 n, .int .i64 l, .int .i64 s] 23, blkF b (encT t) 38] (rets (.bool (tkB n l s t))) := by
  refine cm_of (tab := tb) (ok := tbOk) [.o (.v (.pointer (some ⟨c, 0, none⟩))), .o (.v (.pointer (some ⟨b, 0, none⟩)))] Tryd.func36 Tryd.ntmps36 rfl rfl (fun _ _ => rfl) ?_
  intro w0 A0
  have hT : tkB n l s t = (inB t.1 0 (n - 1) && inB t.2.1 0 (l - 1) && inB t.2.2.1 0 (s - 1) && inB t.2.2.2 1 1099511627776) := rfl
  refine ojs_loadN (vs := [.int .i64 n, .int .i64 l, .int .i64 s]) (blkF c [.int .i64 n, .int .i64 l, .int .i64 s] 23) (by simp) blk_cells rfl rfl rfl ?_
  refine ojs_call [] [] rfl rfl rfl rfl rfl rfl rfl (by simp) (fun _ => parts_c n l s hs) (by simp) (.inl rfl) ?_
  rintro e cs F1 _ ⟨rfl, rfl⟩
  refine cjs_turns 5 ?_
  refine optK_of (yd_arrIdxV (i := 0) rfl (by decide) rfl rfl rfl rfl rfl rfl) ?_
  refine cjs_drawn [2, 7] (.op 0 <| .op 1 <| .op 3 <| .op 4 <| .op 5 <| .op 6 <| .op 2 <| .op 7 <| .op 8 .z) [0] [] [] [] (by kernel_rfl) (by kernel_rfl) rfl (by simp) (by simp) ?_
  intro N
  refine ojs_call [] [] rfl rfl rfl rfl rfl rfl rfl (by simp) (fun _ => part1_c t b) (by simp) (.inl rfl) ?_
  rintro e cs F1 _ ⟨rfl, rfl⟩
  refine ⟨⟨(by repeat' (first | exact trivial | refine ⟨Or.inl rfl, ?_⟩ | refine ⟨Or.inr ⟨rfl, Nat.le_of_ble_eq_true rfl, _, rfl, rfl, rfl⟩, ?_⟩)), by simp⟩, ?_⟩
  refine ojs_call [] [] rfl rfl rfl rfl rfl rfl rfl (by simp) (fun _ => withinL_c t.1 0 (n - 1)) (by simp) (.inl rfl) ?_
  rintro e cs F1 _ ⟨rfl, rfl⟩
  refine ⟨⟨(by repeat' (first | exact trivial | refine ⟨Or.inl rfl, ?_⟩ | refine ⟨Or.inr ⟨rfl, Nat.le_of_ble_eq_true rfl, _, rfl, rfl, rfl⟩, ?_⟩)), by simp⟩, ?_⟩
  refine brB_split (fun h1 => ?_) (fun h1 => ?_)
  · have h1 := (Bool.not_eq_eq_eq_not.mp h1).trans Bool.not_true
    exact endR_ok [] rfl rfl ⟨rfl, rfl⟩ rfl (fun _ => ⟨ret_bool (by rw [hT, h1]; rfl), rfl⟩) (by simp)
  have h1 := (Bool.not_eq_eq_eq_not.mp h1).trans Bool.not_false
  refine ojs_arith (z := (((0 + 1 : Nat)) : Int)) (by first | decide | (rw [wrap_in] <;> omega) | (dsimp only; rw [wrap_in] <;> omega)) rfl rfl rfl rfl ?_
  refine optK_of (yd_arrIdxV (i := 1) rfl (by decide) rfl rfl rfl rfl rfl rfl) ?_
  refine cjs_drawn [2, 7] (.op 0 <| .op 1 <| .op 3 <| .op 4 <| .op 5 <| .op 6 <| .op 2 <| .op 7 <| .op 8 .z) [1] [] [] [] (by kernel_rfl) (by kernel_rfl) rfl (by simp) (by simp) ?_
  intro N
  refine ojs_call [] [] rfl rfl rfl rfl rfl rfl rfl (by simp) (fun _ => part3_c t b) (by simp) (.inl rfl) ?_
  rintro e cs F1 _ ⟨rfl, rfl⟩
  refine ⟨⟨(by repeat' (first | exact trivial | refine ⟨Or.inl rfl, ?_⟩ | refine ⟨Or.inr ⟨rfl, Nat.le_of_ble_eq_true rfl, _, rfl, rfl, rfl⟩, ?_⟩)), by simp⟩, ?_⟩
  refine ojs_call [] [] rfl rfl rfl rfl rfl rfl rfl (by simp) (fun _ => withinL_c t.2.1 0 (l - 1)) (by simp) (.inl rfl) ?_
  rintro e cs F1 _ ⟨rfl, rfl⟩
  refine ⟨⟨(by repeat' (first | exact trivial | refine ⟨Or.inl rfl, ?_⟩ | refine ⟨Or.inr ⟨rfl, Nat.le_of_ble_eq_true rfl, _, rfl, rfl, rfl⟩, ?_⟩)), by simp⟩, ?_⟩
  refine brB_split (fun h2 => ?_) (fun h2 => ?_)
  · have h2 := (Bool.not_eq_eq_eq_not.mp h2).trans Bool.not_true
    exact endR_ok [] rfl rfl ⟨rfl, rfl⟩ rfl (fun _ => ⟨ret_bool (by rw [hT, h1, h2]; rfl), rfl⟩) (by simp)
  have h2 := (Bool.not_eq_eq_eq_not.mp h2).trans Bool.not_false
  refine ojs_arith (z := (((1 + 1 : Nat)) : Int)) (by first | decide | (rw [wrap_in] <;> omega) | (dsimp only; rw [wrap_in] <;> omega)) rfl rfl rfl rfl ?_
  refine optK_of (yd_arrIdxV (i := 2) rfl (by decide) rfl rfl rfl rfl rfl rfl) ?_
  refine cjs_drawn [2, 7] (.op 0 <| .op 1 <| .op 3 <| .op 4 <| .op 5 <| .op 6 <| .op 2 <| .op 7 <| .op 8 .z) [2] [] [] [] (by kernel_rfl) (by kernel_rfl) rfl (by simp) (by simp) ?_
  intro N
  refine ojs_call [] [] rfl rfl rfl rfl rfl rfl rfl (by simp) (fun _ => part5_c t b) (by simp) (.inl rfl) ?_
  rintro e cs F1 _ ⟨rfl, rfl⟩
  refine ⟨⟨(by repeat' (first | exact trivial | refine ⟨Or.inl rfl, ?_⟩ | refine ⟨Or.inr ⟨rfl, Nat.le_of_ble_eq_true rfl, _, rfl, rfl, rfl⟩, ?_⟩)), by simp⟩, ?_⟩
  refine ojs_call [] [] rfl rfl rfl rfl rfl rfl rfl (by simp) (fun _ => withinL_c t.2.2.1 0 (s - 1)) (by simp) (.inl rfl) ?_
  rintro e cs F1 _ ⟨rfl, rfl⟩
  refine ⟨⟨(by repeat' (first | exact trivial | refine ⟨Or.inl rfl, ?_⟩ | refine ⟨Or.inr ⟨rfl, Nat.le_of_ble_eq_true rfl, _, rfl, rfl, rfl⟩, ?_⟩)), by simp⟩, ?_⟩
  refine brB_split (fun h3 => ?_) (fun h3 => ?_)
  · have h3 := (Bool.not_eq_eq_eq_not.mp h3).trans Bool.not_true
    exact endR_ok [] rfl rfl ⟨rfl, rfl⟩ rfl (fun _ => ⟨ret_bool (by rw [hT, h1, h2, h3]; rfl), rfl⟩) (by simp)
  have h3 := (Bool.not_eq_eq_eq_not.mp h3).trans Bool.not_false
  refine ojs_arith (z := (((2 + 1 : Nat)) : Int)) (by first | decide | (rw [wrap_in] <;> omega) | (dsimp only; rw [wrap_in] <;> omega)) rfl rfl rfl rfl ?_
  refine optK_of (yd_arrIdxV (i := 3) rfl (by decide) rfl rfl rfl rfl rfl rfl) ?_
  refine cjs_drawn [2, 7] (.op 0 <| .op 1 <| .op 3 <| .op 4 <| .op 5 <| .op 6 <| .op 2 <| .op 7 <| .op 8 .z) [3] [] [] [] (by kernel_rfl) (by kernel_rfl) rfl (by simp) (by simp) ?_
  intro N
  refine ojs_call [] [] rfl rfl rfl rfl rfl rfl rfl (by simp) (fun _ => part7_c t b) (by simp) (.inl rfl) ?_
  rintro e cs F1 _ ⟨rfl, rfl⟩
  refine ⟨⟨(by repeat' (first | exact trivial | refine ⟨Or.inl rfl, ?_⟩ | refine ⟨Or.inr ⟨rfl, Nat.le_of_ble_eq_true rfl, _, rfl, rfl, rfl⟩, ?_⟩)), by simp⟩, ?_⟩
  refine ojs_call [] [] rfl rfl rfl rfl rfl rfl rfl (by simp) (fun _ => withinL_c t.2.2.2 1 1099511627776) (by simp) (.inl rfl) ?_
  rintro e cs F1 _ ⟨rfl, rfl⟩
  refine ⟨⟨(by repeat' (first | exact trivial | refine ⟨Or.inl rfl, ?_⟩ | refine ⟨Or.inr ⟨rfl, Nat.le_of_ble_eq_true rfl, _, rfl, rfl, rfl⟩, ?_⟩)), by simp⟩, ?_⟩
  refine brB_split (fun h4 => ?_) (fun h4 => ?_)
  · have h4 := (Bool.not_eq_eq_eq_not.mp h4).trans Bool.not_true
    exact endR_ok [] rfl rfl ⟨rfl, rfl⟩ rfl (fun _ => ⟨ret_bool (by rw [hT, h1, h2, h3, h4]; rfl), rfl⟩) (by simp)
  have h4 := (Bool.not_eq_eq_eq_not.mp h4).trans Bool.not_false
  refine ojs_arith (z := (((3 + 1 : Nat)) : Int)) (by first | decide | (rw [wrap_in] <;> omega) | (dsimp only; rw [wrap_in] <;> omega)) rfl rfl rfl rfl ?_
  exact endR_ok [] rfl rfl ⟨rfl, rfl⟩ rfl (fun _ => ⟨ret_bool (by rw [hT, h1, h2, h3, h4]; rfl), rfl⟩) (by simp)
theorem right_c (n l s : Int) (t : Tk) : Cm Tryd.prog 19 [.agg #[.int .i64 n, .int .i64 l, .int .i64 s], .agg (encT t).toArray] [] [] (rets (.int .i64 (askE (shapeB n l s) (tkB n l s t)))) := by
  refine cm_of (tab := tb) (ok := tbOk) [.g [.v (.int .i64 n), .v (.int .i64 l), .v (.int .i64 s)], .g [.v (.int .i64 t.1), .v (.int .i64 t.2.1), .v (.int .i64 t.2.2.1), .v (.int .i64 t.2.2.2)]] Tryd.func19 Tryd.ntmps19 rfl rfl (fun _ _ => rfl) ?_
  intro w0 A0
  have ct : ∀ ρ : Nm, Cm Tryd.prog 26 [.agg #[.int .i64 n, .int .i64 l, .int .i64 s], .slice (some ⟨ρ 2, 0, none⟩) 1 1] []
      [blkF (ρ 2) [.func (.func 36) #[] #[.pointer (some ⟨ρ 0, 0, none⟩), .pointer (some ⟨ρ 1, 0, none⟩)]] 34, blkF (ρ 0) [.int .i64 n, .int .i64 l, .int .i64 s] 23, blkF (ρ 1) (encT t) 38]
      (rets (.int .i64 (askE (shapeB n l s) (tkB n l s t)))) := fun ρ => by
    have := (asked_c (n := n) (l := l) (s := s) (a := some ⟨ρ 2, 0, none⟩) (cap := 1) (F0 := [blkF (ρ 0) [.int .i64 n, .int .i64 l, .int .i64 s] 23, blkF (ρ 1) (encT t) 38])
      (xs := [(.func (.func 36) #[] #[.pointer (some ⟨ρ 0, 0, none⟩), .pointer (some ⟨ρ 1, 0, none⟩)], tkB n l s t)]) (by simp) (fun hs x hx => by
        cases List.mem_singleton.1 hx
        exact ⟨_, [.pointer (some ⟨ρ 0, 0, none⟩), .pointer (some ⟨ρ 1, 0, none⟩)], rfl, rfl, right1_c n l s t hs _ _⟩))
    simp only [List.all_cons, List.all_nil, Bool.and_true, List.length_cons, List.length_nil, Nat.zero_add] at this
    exact this.facts fun A w => facts_cons (fun h => slF_blk (by rfl) (h _ (List.mem_cons_self ..))) (by simp)
  refine ojs_call [2, 0, 1] [] rfl rfl rfl rfl rfl rfl rfl (by simp) (fun ρ => ct ρ) (by simp) (.inr (by rintro e cs F1 ⟨_, rfl⟩; rfl)) ?_
  rintro e cs F1 _ ⟨rfl, rfl⟩
  exact endR_ok [] rfl rfl ⟨rfl, rfl⟩ rfl (fun _ => ⟨rfl, rfl⟩) (by simp)
theorem refRight_c (n l s : Int) (t : Tk) : Cm Tryd.prog 17 [.agg #[.int .i64 n, .int .i64 l, .int .i64 s], .agg (encT t).toArray] [] [] (rets (.int .i64 (askE (shapeB n l s) (tkB n l s t)))) := by
  refine cm_of (tab := tb) (ok := tbOk) [.g [.v (.int .i64 n), .v (.int .i64 l), .v (.int .i64 s)], .g [.v (.int .i64 t.1), .v (.int .i64 t.2.1), .v (.int .i64 t.2.2.1), .v (.int .i64 t.2.2.2)]] Tryd.func17 Tryd.ntmps17 rfl rfl (fun _ _ => rfl) ?_
  intro w0 A0
  refine ojs_call [] [] rfl rfl rfl rfl rfl rfl rfl (by simp) (fun _ => refShape_c n l s) (by simp) (.inl rfl) ?_
  rintro e cs F1 _ ⟨rfl, rfl⟩
  cases hs : shapeB n l s
  · exact endR_ok [] rfl rfl ⟨rfl, rfl⟩ rfl (fun _ => ⟨rfl, rfl⟩) (by simp)
  refine ojs_call [] [] rfl rfl rfl rfl rfl rfl rfl (by simp) (fun _ => refSlot_c n l s t.1 t.2.2.1) (by simp) (.inl rfl) ?_
  rintro e cs F1 _ ⟨rfl, rfl⟩
  have bad : tkB n l s t = false → rets (.int .i64 (askE true (tkB n l s t))) (.returned (.int .i64 4)) [] [] := fun h => by rw [h]; exact ⟨rfl, rfl⟩
  have good : tkB n l s t = true → rets (.int .i64 (askE true (tkB n l s t))) (.returned (.int .i64 0)) [] [] := fun h => by rw [h]; exact ⟨rfl, rfl⟩
  cases hsl : (decide (0 ≤ t.1) && decide (t.1 < n) && decide (0 ≤ t.2.2.1) && decide (t.2.2.1 < s))
  · refine endR_ok [] rfl rfl ⟨rfl, rfl⟩ rfl (fun _ => bad ?_) (by simp)
    unfold tkB inB
    simp only [Bool.and_eq_false_iff, decide_eq_false_iff_not] at hsl ⊢
    omega
  simp only [Bool.and_eq_true, decide_eq_true_eq] at hsl
  refine brB_dec (fun h1 => ?_) (fun h1 => ?_)
  · refine endR_ok [] rfl rfl ⟨rfl, rfl⟩ rfl (fun _ => bad ?_) (by simp)
    unfold tkB inB
    simp only [Bool.and_eq_false_iff, decide_eq_false_iff_not]
    omega
  refine brB_dec (fun h2 => ?_) (fun h2 => ?_)
  · refine endR_ok [] rfl rfl ⟨rfl, rfl⟩ rfl (fun _ => bad ?_) (by simp)
    unfold tkB inB
    simp only [Bool.and_eq_false_iff, decide_eq_false_iff_not]
    omega
  refine brB_dec (fun h3 => ?_) (fun h3 => ?_)
  · refine endR_ok [] rfl rfl ⟨rfl, rfl⟩ rfl (fun _ => bad ?_) (by simp)
    unfold tkB inB
    simp only [Bool.and_eq_false_iff, decide_eq_false_iff_not]
    omega
  refine brB_dec (fun h4 => ?_) (fun h4 => ?_)
  · refine endR_ok [] rfl rfl ⟨rfl, rfl⟩ rfl (fun _ => bad ?_) (by simp)
    unfold tkB inB
    simp only [Bool.and_eq_false_iff, decide_eq_false_iff_not]
    omega
  · refine endR_ok [] rfl rfl ⟨rfl, rfl⟩ rfl (fun _ => good ?_) (by simp)
    unfold tkB inB
    simp only [Bool.and_eq_true, decide_eq_true_eq]
    omega
/-- A ticket's name. -/
def itoaS (z : Int) : ByteArray := ⟨(Lib.itoa z).toArray⟩
def nameL (t : Tk) : List UInt8 := Lib.join [Lib.itoa t.1, Lib.itoa t.2.1, Lib.itoa t.2.2.1, Lib.itoa t.2.2.2] [46]
theorem nameL_eq (t : Tk) : nameL t = Lib.itoa t.1 ++ [46] ++ Lib.itoa t.2.1 ++ [46] ++ Lib.itoa t.2.2.1 ++ [46] ++ Lib.itoa t.2.2.2 := by
  simp [nameL, Lib.join, List.intercalate, List.intersperse]
theorem tk_bd {n l s : Int} {t : Tk} (hs : shapeB n l s = true) (h : tkB n l s t = true) : (0 ≤ t.1 ∧ t.1 < n) ∧ (0 ≤ t.2.1 ∧ t.2.1 < l) ∧ (0 ≤ t.2.2.1 ∧ t.2.2.1 < s) ∧ (1 ≤ t.2.2.2 ∧ t.2.2.2 ≤ 1099511627776) ∧ n ≤ 64 ∧ l ≤ 8 ∧ s ≤ 4 := by
  have := shapeB_is hs
  unfold tkB inB at h
  simp only [Bool.and_eq_true, decide_eq_true_eq] at h
  omega
def textX (n l s : Int) (t : Tk) : List UInt8 × Int := bif shapeB n l s && tkB n l s t then (nameL t, 0) else ([], askE (shapeB n l s) (tkB n l s t))
theorem text_c (n l s : Int) (t : Tk) : Cm Tryd.prog 18 [.agg #[.int .i64 n, .int .i64 l, .int .i64 s], .agg (encT t).toArray] [] [libF] (rets (.tuple #[strV (textX n l s t).1, .int .i64 (textX n l s t).2])) := by
  refine cm_of (tab := tb) (ok := tbOk) [.g [.v (.int .i64 n), .v (.int .i64 l), .v (.int .i64 s)], .g [.v (.int .i64 t.1), .v (.int .i64 t.2.1), .v (.int .i64 t.2.2.1), .v (.int .i64 t.2.2.2)]] Tryd.func18 Tryd.ntmps18 rfl rfl (fun _ _ => rfl) ?_
  intro w0 A0
  have hX : textX n l s t = bif shapeB n l s && tkB n l s t then (nameL t, 0) else ([], askE (shapeB n l s) (tkB n l s t)) := rfl
  rw [hX]
  refine ojs_call [] [] rfl rfl rfl rfl rfl rfl rfl (by simp) (fun _ => right_c n l s t) (by simp) (.inl rfl) ?_
  rintro e cs F1 _ ⟨rfl, rfl⟩
  cases hs : shapeB n l s
  · exact endR_ok [] rfl rfl ⟨rfl, rfl⟩ rfl (fun _ => ⟨rfl, rfl⟩) (by simp)
  cases ht : tkB n l s t
  · exact endR_ok [] rfl rfl ⟨rfl, rfl⟩ rfl (fun _ => ⟨rfl, rfl⟩) (by simp)
  have hb := tk_bd hs ht
  refine ojs_call [] [] rfl rfl rfl rfl rfl rfl rfl (by simp) (fun _ => parts_c n l s hs) (by simp) (.inl rfl) ?_
  rintro e cs F1 _ ⟨rfl, rfl⟩
  refine cjs_weak (wk_own 9 1) ?_
  refine cjs_turns 5 ?_
  refine optK_of (yd_arrIdxV (i := 0) rfl (by decide) rfl rfl rfl rfl rfl rfl) ?_
  refine ojs_call [1] [] rfl rfl rfl rfl rfl rfl rfl (by simp) (fun ρ => part1_c t (ρ 1)) (by simp) (.inr (by rintro e cs F1 ⟨_, rfl⟩; rfl)) ?_
  rintro e cs F1 _ ⟨rfl, rfl⟩
  refine ojs_call [] [] rfl rfl rfl rfl rfl rfl rfl (by simp) (fun _ => formatInt_c (t.1) (by omega) (by omega)) (by simp) (.inl rfl) ?_
  rintro e cs F1 _ ⟨rfl, rfl⟩
  refine ojs_append 2 rfl rfl rfl rfl rfl rfl rfl rfl rfl (by omega) rfl rfl rfl (srcL (news := [.string (itoaS (t.1))]) rfl rfl) rfl (by simp [Value.oneCell']) (by omega) (by simp [maxLen]) ?_
  intro a0 c0
  refine ojs_arith (z := (((0 + 1 : Nat)) : Int)) (by first | decide | (rw [wrap_in] <;> omega) | (dsimp only; rw [wrap_in] <;> omega)) rfl rfl rfl rfl ?_
  refine optK_of (yd_arrIdxV (i := 1) rfl (by decide) rfl rfl rfl rfl rfl rfl) ?_
  refine ojs_call [1] [] rfl rfl rfl rfl rfl rfl rfl (by simp) (fun ρ => part3_c t (ρ 1)) (by simp) (.inr (by rintro e cs F1 ⟨_, rfl⟩; rfl)) ?_
  rintro e cs F1 _ ⟨rfl, rfl⟩
  refine ojs_call [] [] rfl rfl rfl rfl rfl rfl rfl (by simp) (fun _ => formatInt_c (t.2.1) (by omega) (by omega)) (by simp) (.inl rfl) ?_
  rintro e cs F1 _ ⟨rfl, rfl⟩
  refine ojs_append 2 rfl rfl rfl rfl rfl rfl rfl rfl rfl (by omega) rfl rfl rfl (srcL (news := [.string (itoaS (t.2.1))]) rfl rfl) rfl (by simp [Value.oneCell']) (by omega) (by simp [maxLen]) ?_
  intro a1 c1
  refine ojs_arith (z := (((1 + 1 : Nat)) : Int)) (by first | decide | (rw [wrap_in] <;> omega) | (dsimp only; rw [wrap_in] <;> omega)) rfl rfl rfl rfl ?_
  refine optK_of (yd_arrIdxV (i := 2) rfl (by decide) rfl rfl rfl rfl rfl rfl) ?_
  refine ojs_call [1] [] rfl rfl rfl rfl rfl rfl rfl (by simp) (fun ρ => part5_c t (ρ 1)) (by simp) (.inr (by rintro e cs F1 ⟨_, rfl⟩; rfl)) ?_
  rintro e cs F1 _ ⟨rfl, rfl⟩
  refine ojs_call [] [] rfl rfl rfl rfl rfl rfl rfl (by simp) (fun _ => formatInt_c (t.2.2.1) (by omega) (by omega)) (by simp) (.inl rfl) ?_
  rintro e cs F1 _ ⟨rfl, rfl⟩
  refine ojs_append 2 rfl rfl rfl rfl rfl rfl rfl rfl rfl (by omega) rfl rfl rfl (srcL (news := [.string (itoaS (t.2.2.1))]) rfl rfl) rfl (by simp [Value.oneCell']) (by omega) (by simp [maxLen]) ?_
  intro a2 c2
  refine ojs_arith (z := (((2 + 1 : Nat)) : Int)) (by first | decide | (rw [wrap_in] <;> omega) | (dsimp only; rw [wrap_in] <;> omega)) rfl rfl rfl rfl ?_
  refine optK_of (yd_arrIdxV (i := 3) rfl (by decide) rfl rfl rfl rfl rfl rfl) ?_
  refine ojs_call [1] [] rfl rfl rfl rfl rfl rfl rfl (by simp) (fun ρ => part7_c t (ρ 1)) (by simp) (.inr (by rintro e cs F1 ⟨_, rfl⟩; rfl)) ?_
  rintro e cs F1 _ ⟨rfl, rfl⟩
  refine ojs_call [] [] rfl rfl rfl rfl rfl rfl rfl (by simp) (fun _ => formatInt_c (t.2.2.2) (by omega) (by omega)) (by simp) (.inl rfl) ?_
  rintro e cs F1 _ ⟨rfl, rfl⟩
  refine ojs_append 2 rfl rfl rfl rfl rfl rfl rfl rfl rfl (by omega) rfl rfl rfl (srcL (news := [.string (itoaS (t.2.2.2))]) rfl rfl) rfl (by simp [Value.oneCell']) (by omega) (by simp [maxLen]) ?_
  intro a3 c3
  refine ojs_arith (z := (((3 + 1 : Nat)) : Int)) (by first | decide | (rw [wrap_in] <;> omega) | (dsimp only; rw [wrap_in] <;> omega)) rfl rfl rfl rfl ?_
  have hj : (Lib.join ([itoaS t.1, itoaS t.2.1, itoaS t.2.2.1, itoaS t.2.2.2].map (·.data.toList)) [46]) = nameL t := rfl
  have l1 := Lib.itoa_length_le t.1 (by omega) (by omega)
  have l2 := Lib.itoa_length_le t.2.1 (by omega) (by omega)
  have l3 := Lib.itoa_length_le t.2.2.1 (by omega) (by omega)
  have l4 := Lib.itoa_length_le t.2.2.2 (by omega) (by omega)
  have hlen : (nameL t).length ≤ 140737488355328 := by rw [nameL_eq]; simp; omega
  refine ojs_callOwnR (enc := encS) (ys := [itoaS t.1, itoaS t.2.1, itoaS t.2.2.1, itoaS t.2.2.2]) 2 rfl rfl rfl encS_len rfl rfl rfl rfl rfl (fun _ => join_c _ _ [itoaS t.1, itoaS t.2.1, itoaS t.2.2.1, itoaS t.2.2.2] (by simp) (by simp) (by rw [hj]; exact hlen)) (by simp) (by rintro e cs F1 ⟨_, rfl⟩; rfl) ?_
  rintro e cs ⟨rfl, _⟩
  rw [hj]
  exact endR_ok [] rfl rfl ⟨rfl, rfl⟩ rfl (fun _ => ⟨rfl, rfl⟩) (by simp)

end Go.Proofs.YtehfodoocfpkoaaDoor
