/- Sites: names and back (plain); SiteNames, SiteTickets, by the symbolic run. -/
import Derived.Test.YtehfodoocfpkoaaDoorStI
import Derived.Test.YtehfodoocfpkoaaDoorStJ
namespace Go.Proofs.YtehfodoocfpkoaaDoor
open Go.RowKit Go.Shelf

theorem isD_ne {c : UInt8} (h : isD c = true) : ¬ c = 46 := by
  rintro rfl
  simp [isD] at h
theorem splitL_all : ∀ p : Bs, p.all isD = true → splitL p = [p]
  | [], _ => rfl
  | c :: p, h => by
    rw [List.all_cons, Bool.and_eq_true] at h
    exact splitL_other (isD_ne h.1) (splitL_all p h.2)
theorem splitL_part : ∀ (p r : Bs), p.all isD = true → splitL (p ++ 46 :: r) = p :: splitL r
  | [], r, _ => by rw [List.nil_append, splitL, if_pos rfl]
  | c :: p, r, h => by
    rw [List.all_cons, Bool.and_eq_true] at h
    exact splitL_other (isD_ne h.1) (splitL_part p r h.2)
theorem itoa_all {v : Int} (h : 0 ≤ v) : (Lib.itoa v).all isD = true := by
  obtain ⟨u, rfl⟩ : ∃ u : Nat, v = u := ⟨v.toNat, by omega⟩
  rw [Lib.itoa_nonneg]
  exact (dec_all u).1
theorem nameL_is (t : Tk) : nameL t = Lib.itoa t.1 ++ 46 :: (Lib.itoa t.2.1 ++ 46 :: (Lib.itoa t.2.2.1 ++ 46 :: Lib.itoa t.2.2.2)) := by
  simp [nameL, Lib.join, List.intercalate, List.intersperse]
theorem tkB_is {n l s : Int} {t : Tk} (h : tkB n l s t = true) : (0 ≤ t.1 ∧ t.1 ≤ n - 1) ∧ (0 ≤ t.2.1 ∧ t.2.1 ≤ l - 1) ∧ (0 ≤ t.2.2.1 ∧ t.2.2.1 ≤ s - 1) ∧ (1 ≤ t.2.2.2 ∧ t.2.2.2 ≤ 1099511627776) := by
  unfold tkB inB at h
  simp only [Bool.and_eq_true, decide_eq_true_eq] at h
  exact ⟨h.1.1.1, h.1.1.2, h.1.2, h.2⟩
theorem numB_itoa {v lo hi : Int} (h0 : 0 ≤ lo) (h1 : hi ≤ 1099511627776) (h2 : lo ≤ v) (h3 : v ≤ hi) : numB (Lib.itoa v) lo hi = some v := by
  rw [numB_ref h0 h1, numN_itoa (by omega) (by omega), if_pos ⟨h2, h3⟩]
theorem parX_name {n l s : Int} {t : Tk} (hs : shapeB n l s = true) (ht : tkB n l s t = true) : parX n l s (nameL t) = (t, 0) := by
  obtain ⟨a, b, c, d⟩ := tkB_is ht
  have hb := shapeB_is hs
  have hsp : splitL (nameL t) = [Lib.itoa t.1, Lib.itoa t.2.1, Lib.itoa t.2.2.1, Lib.itoa t.2.2.2] := by
    rw [nameL_is, splitL_part _ _ (itoa_all a.1), splitL_part _ _ (itoa_all b.1), splitL_part _ _ (itoa_all c.1), splitL_all _ (itoa_all (by omega))]
  exact parX_good hs hsp (numB_itoa (by omega) (by omega) a.1 a.2) (numB_itoa (by omega) (by omega) b.1 b.2) (numB_itoa (by omega) (by omega) c.1 c.2) (numB_itoa (by omega) (by omega) d.1 d.2)
theorem nameL_len {n l s : Int} {t : Tk} (hs : shapeB n l s = true) (ht : tkB n l s t = true) : (nameL t).length ≤ 87 := by
  obtain ⟨a, b, c, d⟩ := tkB_is ht
  have hb := shapeB_is hs
  have h1 := Lib.itoa_length_le t.1 (by omega) (by omega)
  have h2 := Lib.itoa_length_le t.2.1 (by omega) (by omega)
  have h3 := Lib.itoa_length_le t.2.2.1 (by omega) (by omega)
  have h4 := Lib.itoa_length_le t.2.2.2 (by omega) (by omega)
  rw [nameL_is]
  simp only [List.length_append, List.length_cons]
  omega
theorem textX_cases (n l s : Int) (t : Tk) : (shapeB n l s = true ∧ tkB n l s t = true ∧ askE (shapeB n l s) (tkB n l s t) = 0 ∧ textX n l s t = (nameL t, 0)) ∨ ∃ e, (e = 2 ∨ e = 4) ∧ askE (shapeB n l s) (tkB n l s t) = e ∧ textX n l s t = ([], e) := by
  unfold textX askE
  cases hs : shapeB n l s
  · exact .inr ⟨2, .inl rfl, rfl, rfl⟩
  · cases ht : tkB n l s t
    · exact .inr ⟨4, .inr rfl, rfl, rfl⟩
    · exact .inl ⟨rfl, rfl, rfl, rfl⟩

set_option maxRecDepth 20000 in
set_option maxHeartbeats 1000000 in
theorem names_law (n l s : Int) (text : ByteArray) : Cm Tryd.prog 5 [.agg #[.int .i64 n, .int .i64 l, .int .i64 s], .string text] [] [libF] (rets (.bool true)) := by
  refine cm_of (tab := tb) (ok := tbOk) [.g [.v (.int .i64 n), .v (.int .i64 l), .v (.int .i64 s)], .o (.v (.string text))] Tryd.func5 Tryd.ntmps5 rfl rfl (fun _ _ => rfl) ?_
  intro w0 A0
  refine optK_of (yd_strLen (by kernel_rfl) rfl rfl rfl rfl rfl) ?_
  refine brB_dec (fun h => ?_) (fun h => ?_)
  · refine ojs_call [] [] rfl rfl rfl rfl rfl rfl rfl (by simp) (fun _ => works_c) (by simp) (.inl rfl) ?_
    rintro e cs F1 _ ⟨rfl, rfl⟩
    exact endR_ok [] rfl rfl ⟨rfl, rfl⟩ rfl (fun _ => ⟨rfl, rfl⟩) (by simp)
  have hsz : text.size ≤ 200 := by omega
  obtain ⟨⟨⟨t1, t2, t3, t4⟩, e⟩, hX⟩ : ∃ x, x = parX n l s text.data.toList := ⟨_, rfl⟩
  have c1 : Cm Tryd.prog 20 [.agg #[.int .i64 n, .int .i64 l, .int .i64 s], .string text] [] [libF] (rets (.tuple #[.agg #[.int .i64 t1, .int .i64 t2, .int .i64 t3, .int .i64 t4], .int .i64 e])) := by
    have h := parse_c n l s text (by omega)
    rw [← hX] at h
    exact h
  have c2 : Cm Tryd.prog 22 [.agg #[.int .i64 n, .int .i64 l, .int .i64 s], .string text] [] [libF] (rets (.tuple #[.agg #[.int .i64 t1, .int .i64 t2, .int .i64 t3, .int .i64 t4], .int .i64 e])) := by
    have h := refParse_c n l s text hsz
    rw [← hX] at h
    exact h
  clear hX
  refine ojs_call [] [] rfl rfl rfl rfl rfl rfl rfl (by simp) (fun _ => c1) (by simp) (.inl rfl) ?_
  rintro e cs F1 _ ⟨rfl, rfl⟩
  refine ojs_call [] [] rfl rfl rfl rfl rfl rfl rfl (by simp) (fun _ => c2) (by simp) (.inl rfl) ?_
  rintro e cs F1 _ ⟨rfl, rfl⟩
  refine optK_of (yd_binOp (u := tkV (t1, t2, t3, t4)) (v := tkV (t1, t2, t3, t4)) (r := .bool true) rfl rfl rfl (fun _ => rfl) (fun _ => rfl) (guard_ticket _ _ _ _ _) (fun w => by rw [run_eq_ticket]; simp)) ?_
  refine ojs_call [] [] rfl rfl rfl rfl rfl rfl rfl (by simp) (fun _ => num_c e) (by simp) (.inl rfl) ?_
  rintro e cs F1 _ ⟨rfl, rfl⟩
  refine brB_true (by exact decide_eq_true rfl) ?_
  refine ojs_call [] [] rfl rfl rfl rfl rfl rfl rfl (by simp) (fun _ => works_c) (by simp) (.inl rfl) ?_
  rintro e cs F1 _ ⟨rfl, rfl⟩
  exact endR_ok [] rfl rfl ⟨rfl, rfl⟩ rfl (fun _ => ⟨rfl, rfl⟩) (by simp)

set_option maxRecDepth 20000 in
set_option maxHeartbeats 2000000 in
theorem tickets_law (n l s : Int) (t : Tk) : Cm Tryd.prog 4 [.agg #[.int .i64 n, .int .i64 l, .int .i64 s], tkV t] [] [libF] (rets (.bool true)) := by
  refine cm_of (tab := tb) (ok := tbOk) [.g [.v (.int .i64 n), .v (.int .i64 l), .v (.int .i64 s)], .g [.v (.int .i64 t.1), .v (.int .i64 t.2.1), .v (.int .i64 t.2.2.1), .v (.int .i64 t.2.2.2)]] Tryd.func4 Tryd.ntmps4 rfl rfl (fun _ _ => rfl) ?_
  intro w0 A0
  have r1 := refRight_c n l s t
  have r2 := right_c n l s t
  have r3 := text_c n l s t
  rcases textX_cases n l s t with ⟨hs, ht, hE, hX⟩ | ⟨e, he, hE, hX⟩
  · rw [hE] at r1 r2
    rw [hX] at r3
    have hlen := nameL_len hs ht
    have hb := shapeB_is hs
    obtain ⟨q1, q2, q3, q4⟩ := tkB_is ht
    have r4 : Cm Tryd.prog 20 [.agg #[.int .i64 n, .int .i64 l, .int .i64 s], .string ⟨(nameL t).toArray⟩] [] [libF] (rets (.tuple #[.agg #[.int .i64 t.1, .int .i64 t.2.1, .int .i64 t.2.2.1, .int .i64 t.2.2.2], .int .i64 0])) := by
      have h := parse_c n l s ⟨(nameL t).toArray⟩ (by
        have : (ByteArray.mk (nameL t).toArray).size = (nameL t).length := by simp [ByteArray.size]
        omega)
      rw [show (ByteArray.mk (nameL t).toArray).data.toList = nameL t from rfl, parX_name hs ht] at h
      exact h
    have r5 := refText_c t ⟨q1.1, by omega⟩ ⟨q2.1, by omega⟩ ⟨q3.1, by omega⟩ ⟨by omega, by omega⟩
    obtain ⟨nm, hn⟩ : ∃ nm, nm = nameL t := ⟨_, rfl⟩
    rw [← hn] at r3 r4 r5
    clear hX hn hE
    refine ojs_call [] [] rfl rfl rfl rfl rfl rfl rfl (by simp) (fun _ => r1) (by simp) (.inl rfl) ?_
    rintro e cs F1 _ ⟨rfl, rfl⟩
    refine ojs_call [] [] rfl rfl rfl rfl rfl rfl rfl (by simp) (fun _ => r3) (by simp) (.inl rfl) ?_
    rintro e cs F1 _ ⟨rfl, rfl⟩
    refine ojs_call [] [] rfl rfl rfl rfl rfl rfl rfl (by simp) (fun _ => r2) (by simp) (.inl rfl) ?_
    rintro e cs F1 _ ⟨rfl, rfl⟩
    refine ojs_call [] [] rfl rfl rfl rfl rfl rfl rfl (by simp) (fun _ => num_c 0) (by simp) (.inl rfl) ?_
    rintro e cs F1 _ ⟨rfl, rfl⟩
    refine ojs_call [] [] rfl rfl rfl rfl rfl rfl rfl (by simp) (fun _ => num_c 0) (by simp) (.inl rfl) ?_
    rintro e cs F1 _ ⟨rfl, rfl⟩
    refine ojs_call [] [] rfl rfl rfl rfl rfl rfl rfl (by simp) (fun _ => r4) (by simp) (.inl rfl) ?_
    rintro e cs F1 _ ⟨rfl, rfl⟩
    refine ojs_call [] [] rfl rfl rfl rfl rfl rfl rfl (by simp) (fun _ => r5) (by simp) (.inl rfl) ?_
    rintro e cs F1 _ ⟨⟨r, rfl, hr⟩, rfl⟩
    refine optK_of (yd_strEq (r := true) (by rw [hr]; exact beq_self_eq_true _) rfl rfl rfl) ?_
    refine optK_of (yd_binOp (u := tkV t) (v := tkV t) (r := .bool true) rfl rfl rfl (fun _ => rfl) (fun _ => rfl) (guard_ticket _ _ _ _ _) (fun w => by rw [run_eq_ticket]; simp)) ?_
    refine ojs_call [] [] rfl rfl rfl rfl rfl rfl rfl (by simp) (fun _ => num_c 0) (by simp) (.inl rfl) ?_
    rintro e cs F1 _ ⟨rfl, rfl⟩
    refine ojs_call [] [] rfl rfl rfl rfl rfl rfl rfl (by simp) (fun _ => works_c) (by simp) (.inl rfl) ?_
    rintro e cs F1 _ ⟨rfl, rfl⟩
    exact endR_ok [] rfl rfl ⟨rfl, rfl⟩ rfl (fun _ => ⟨rfl, rfl⟩) (by simp)
  · rw [hE] at r1 r2
    rw [hX] at r3
    clear hX hE
    have h0 : ¬ e = 0 := by omega
    refine ojs_call [] [] rfl rfl rfl rfl rfl rfl rfl (by simp) (fun _ => r1) (by simp) (.inl rfl) ?_
    rintro e cs F1 _ ⟨rfl, rfl⟩
    refine ojs_call [] [] rfl rfl rfl rfl rfl rfl rfl (by simp) (fun _ => r3) (by simp) (.inl rfl) ?_
    rintro e cs F1 _ ⟨rfl, rfl⟩
    refine ojs_call [] [] rfl rfl rfl rfl rfl rfl rfl (by simp) (fun _ => r2) (by simp) (.inl rfl) ?_
    rintro e cs F1 _ ⟨rfl, rfl⟩
    refine ojs_call [] [] rfl rfl rfl rfl rfl rfl rfl (by simp) (fun _ => num_c e) (by simp) (.inl rfl) ?_
    rintro e cs F1 _ ⟨rfl, rfl⟩
    refine brB_split (fun h => by simp at h) (fun _ => ?_)
    refine ojs_call [] [] rfl rfl rfl rfl rfl rfl rfl (by simp) (fun _ => num_c e) (by simp) (.inl rfl) ?_
    rintro e cs F1 _ ⟨rfl, rfl⟩
    refine brB_split (fun h => by simp at h) (fun _ => ?_)
    refine brB_split (fun _ => ?_) (fun h => by simp at h; exact absurd h h0)
    refine optK_of (yd_strEq (r := true) (by rfl) rfl rfl rfl) ?_
    refine ojs_call [] [] rfl rfl rfl rfl rfl rfl rfl (by simp) (fun _ => works_c) (by simp) (.inl rfl) ?_
    rintro e cs F1 _ ⟨rfl, rfl⟩
    exact endR_ok [] rfl rfl ⟨rfl, rfl⟩ rfl (fun _ => ⟨rfl, rfl⟩) (by simp)

end Go.Proofs.YtehfodoocfpkoaaDoor
