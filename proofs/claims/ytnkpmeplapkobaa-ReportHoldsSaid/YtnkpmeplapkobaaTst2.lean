/- Trials of the symbolic run: the references of chapter 18. -/
import Derived.Test.YtnkpmeplapkobaaTst
namespace Go.Proofs.Ytnkpmeplapkobaa
open Go.RowKit Go.Shelf

theorem refShape_c (n l s : Int) : Cm Try.prog 22 [.agg #[.int .i64 n, .int .i64 l, .int .i64 s]] [] [] (rets (.bool (shapeB n l s))) := by
  refine cm_of (tab := tb) (ok := tbOk) [.g [.v (.int .i64 n), .v (.int .i64 l), .v (.int .i64 s)]] Try.func22 Try.ntmps22 rfl rfl (fun _ _ => rfl) ?_
  intro w0 A0
  repeat' (refine brB_dec (fun _ => ?_) (fun _ => ?_))
  all_goals
    refine endR_ok [] rfl rfl ⟨rfl, rfl⟩ rfl (fun _ => ⟨ret_bool ?_, rfl⟩) (by simp)
    unfold shapeB
    first | (simp; done) | (simp; omega) | (rw [Bool.eq_iff_iff]; simp; omega)

theorem refRight_c (n l s : Int) (a : Option Addr) (cap : Nat) (xs : List (Bool × Int)) (hlen : xs.length ≤ 1099511627776) :
    Cm Try.prog 20 [.agg #[.int .i64 n, .int .i64 l, .int .i64 s], .slice a xs.length cap] [] [slF encR 2 (.slice a xs.length cap) xs] (rets (.bool (repB n l s xs))) := by
  refine cm_of (tab := tb) (ok := tbOk) [.g [.v (.int .i64 n), .v (.int .i64 l), .v (.int .i64 s)], .o (.v (.slice a xs.length cap))] Try.func20 Try.ntmps20 rfl rfl (fun _ _ => rfl) ?_
  intro w0 A0
  refine ojs_call [] [] rfl rfl rfl rfl rfl rfl rfl (by simp) (fun _ => refShape_c n l s) (by simp) (.inl rfl) ?_
  rintro e cs F1 _ ⟨rfl, rfl⟩
  cases hs : shapeB n l s
  · refine endR_ok [] rfl rfl ⟨rfl, rfl⟩ rfl (fun _ => ⟨ret_bool (by unfold repB; rw [hs]; rfl), rfl⟩) (by simp)
  refine brB_split (fun h => ?_) (fun h => ?_)
  · refine endR_ok [] rfl rfl ⟨rfl, rfl⟩ rfl (fun _ => ⟨ret_bool ?_, rfl⟩) (by simp)
    unfold repB; rw [hs]; simp at h; simp [h]
  · have hl : (xs.length : Int) = l := by simpa using h
    have hR : repB n l s xs = xs.all hopB := by unfold repB; rw [hs]; simp [hl]
    refine cjs_loop (γ := Nat) (fun k => k ≤ xs.length ∧ ∀ j x, j < k → xs[j]? = some x → hopB x = true) (fun k => ⟨[(1, .o (.v (.slice a xs.length cap))), (5, .o (.v (.int .i64 k)))], [], 1, [slF encR 2 (.slice a xs.length cap) xs], fun _ => []⟩) (fun k => xs.length - k) 0 ⟨by omega, fun j r hj => by omega⟩ (wk_same (by repeat' (first | exact trivial | rfl | refine ⟨?_, ?_⟩ | exact lt_all_v | exact (congrArg some idN_ren_lc.symm) | omega)) (by repeat' (first | exact trivial | rfl | refine ⟨?_, ?_⟩ | exact lt_all_v | exact (congrArg some idN_ren_lc.symm) | omega)) (by simp) (by simp)) ?_
    rintro k ⟨hk, hno⟩
    refine brB_dec (fun h => ?_) (fun h => ?_)
    · obtain ⟨x, hx⟩ := at_some (xs := xs) (k := k) (by omega)
      refine ojs_fact _ (List.mem_singleton.2 rfl) (fun A w hF => slF_addr hF (by intro e; rw [e] at hx; simp at hx)) ?_
      rintro ⟨b, off, rfl⟩
      refine ojs_index rfl (by omega) rfl rfl rfl rfl ?_
      refine ojs_load1 _ (List.mem_singleton.2 rfl) (slF_at hx (j := 1) rfl) rfl rfl rfl ?_
      refine brB_dec (fun h1 => ?_) (fun h1 => ?_)
      · refine endR_ok [] rfl rfl ⟨rfl, rfl⟩ rfl (fun _ => ⟨ret_bool ?_, rfl⟩) (by simp)
        rw [hR, all_false_at hx (by unfold hopB; simp; omega)]
      refine ojs_index rfl (by omega) rfl rfl rfl rfl ?_
      refine ojs_load1 _ (List.mem_singleton.2 rfl) (slF_at hx (j := 1) rfl) rfl rfl rfl ?_
      refine brB_dec (fun h2 => ?_) (fun h2 => ?_)
      · refine endR_ok [] rfl rfl ⟨rfl, rfl⟩ rfl (fun _ => ⟨ret_bool ?_, rfl⟩) (by simp)
        rw [hR, all_false_at hx (by unfold hopB; simp; omega)]
      · refine ojs_arith (z := ((k + 1 : Nat) : Int)) (by rw [wrap_in] <;> omega) rfl rfl rfl rfl ?_
        refine ⟨k + 1, ⟨by omega, fun j y hj hy => ?_⟩, by dsimp only; omega, wk_same (by repeat' (first | exact trivial | rfl | refine ⟨?_, ?_⟩ | exact lt_all_v | exact (congrArg some idN_ren_lc.symm) | omega)) (by repeat' (first | exact trivial | rfl | refine ⟨?_, ?_⟩ | exact lt_all_v | exact (congrArg some idN_ren_lc.symm) | omega)) (by simp) (by simp)⟩
        rcases Nat.lt_succ_iff_lt_or_eq.1 hj with h | rfl
        · exact hno j y h hy
        · rw [hx] at hy; cases hy; unfold hopB; simp; omega
    · refine endR_ok [] rfl rfl ⟨rfl, rfl⟩ rfl (fun _ => ⟨ret_bool ?_, rfl⟩) (by simp)
      rw [hR, all_of_at fun j x hj hx => hno j x (by omega) hx]

theorem refTally_c (n l s : Int) (a : Option Addr) (cap : Nat) (t : List (List (Bool × Int))) (hlen : ∀ r ∈ t, r.length ≤ 1099511627776) (htl : t.length ≤ 1099511627776) :
    Cm Try.prog 9 [.agg #[.int .i64 n, .int .i64 l, .int .i64 s], .agg #[.slice a t.length cap]] [] [rowsF (.slice a t.length cap) t] (rets (.bool (tallyB n l s t))) := by
  refine cm_of (tab := tb) (ok := tbOk) [.g [.v (.int .i64 n), .v (.int .i64 l), .v (.int .i64 s)], .g [.v (.slice a t.length cap)]] Try.func9 Try.ntmps9 rfl rfl (fun _ _ => rfl) ?_
  intro w0 A0
  refine ojs_call [] [] rfl rfl rfl rfl rfl rfl rfl (by simp) (fun _ => refShape_c n l s) (by simp) (.inl rfl) ?_
  rintro e cs F1 _ ⟨rfl, rfl⟩
  cases hs : shapeB n l s
  · refine endR_ok [] rfl rfl ⟨rfl, rfl⟩ rfl (fun _ => ⟨ret_bool (by unfold tallyB; rw [hs]; rfl), rfl⟩) (by simp)
  refine brB_split (fun h => ?_) (fun h => ?_)
  · refine endR_ok [] rfl rfl ⟨rfl, rfl⟩ rfl (fun _ => ⟨ret_bool ?_, rfl⟩) (by simp)
    unfold tallyB; rw [hs]; simp at h; simp [h]
  · have hR := tally_all (l := l) (s := s) hs (by simpa using h)
    refine cjs_loop (γ := Nat) (fun k => k ≤ t.length ∧ ∀ j r, j < k → t[j]? = some r → rowB n l s r = true) (fun k => ⟨[(2, .o (.p 0 0)), (3, .o (.p 1 0)), (5, .o (.v (.int .i64 k)))], [(0, .c [.v (.int .i64 n), .v (.int .i64 l), .v (.int .i64 s)] 23), (1, .c [.v (.slice a t.length cap)] 26)], 2, [rowsF (.slice a t.length cap) t], fun _ => []⟩) (fun k => t.length - k) 0 ⟨by omega, fun j r hj => by omega⟩ (wk_same (by repeat' (first | exact trivial | rfl | refine ⟨?_, ?_⟩ | exact lt_all_v | exact (congrArg some idN_ren_lc.symm) | omega)) (by repeat' (first | exact trivial | rfl | refine ⟨?_, ?_⟩ | exact lt_all_v | exact (congrArg some idN_ren_lc.symm) | omega)) (by simp) (by simp)) ?_
    rintro k ⟨hk, hno⟩
    refine brB_dec (fun h => ?_) (fun h => ?_)
    · obtain ⟨r, hr⟩ := at_some (xs := t) (k := k) (by omega)
      refine cjs_ex _ (fun A w hF => rowsF_at hr A w (hF _ (List.mem_singleton.2 rfl))) ?_
      rintro ⟨b, off, ra, rc⟩ (rfl : a = some ⟨b, off, none⟩)
      refine cjs_drawn [14] (.op 0 <| .op 1 <| .op 2 <| .op 3 <| .op 4 <| .op 5 <| .op 6 <| .op 7 <| .op 8 <| .op 9 <| .op 10 <| .op 11 <| .op 12 <| .op 13 <| .op 14 <| .op 15 <| .op 16 .z) [0, 1] [] [] [celF b (off + k * 1) (.slice ra r.length rc), slF encR 2 (.slice ra r.length rc) r] (by kernel_rfl) (by kernel_rfl) rfl (by simp) (by simp) ?_
      intro N
      refine ⟨_, yd_index rfl (by omega) rfl rfl rfl rfl, ?_⟩
      refine ⟨_, yd_load1 _ (List.mem_cons_self ..) celF_at rfl rfl rfl, ?_⟩
      refine brB_dec (fun h1 => ?_) (fun h1 => ?_)
      · refine ⟨_, yd_index rfl (by omega) rfl rfl rfl rfl, ?_⟩
        refine ⟨_, yd_load1 _ (List.mem_cons_self ..) celF_at rfl rfl rfl, ?_⟩
        refine ojs_call [] [] rfl rfl rfl rfl rfl rfl rfl (by simp) (fun _ => refRight_c n l s ra rc r (hlen r (List.mem_of_getElem? hr))) (by simp) (.inl rfl) ?_
        rintro e cs F1 _ ⟨rfl, rfl⟩
        refine ⟨⟨(by repeat' (first | exact trivial | refine ⟨Or.inl rfl, ?_⟩ | refine ⟨Or.inr ⟨rfl, Nat.le_of_ble_eq_true rfl, _, rfl, rfl, rfl⟩, ?_⟩)), by simp⟩, ?_⟩
        have hrow : rowB n l s r = repB n l s r := by cases r with | nil => simp at h1 | cons x r => simp [rowB]
        cases hb : repB n l s r
        · refine endR_ok [] rfl rfl ⟨rfl, rfl⟩ rfl (fun _ => ⟨ret_bool ?_, rfl⟩) (by simp)
          rw [hR, all_false_at hr (by rw [hrow, hb])]
        · refine ojs_arith (z := ((k + 1 : Nat) : Int)) (by rw [wrap_in] <;> omega) rfl rfl rfl rfl ?_
          refine ⟨k + 1, ⟨by omega, fun j y hj hy => ?_⟩, by dsimp only; omega, wk_same (by repeat' (first | exact trivial | rfl | refine ⟨?_, ?_⟩ | exact lt_all_v | exact (congrArg some idN_ren_lc.symm) | omega)) (by repeat' (first | exact trivial | rfl | refine ⟨?_, ?_⟩ | exact lt_all_v | exact (congrArg some idN_ren_lc.symm) | omega)) (by simp) (by simp)⟩
          rcases Nat.lt_succ_iff_lt_or_eq.1 hj with h | rfl
          · exact hno j y h hy
          · rw [hr] at hy; cases hy; rw [hrow, hb]
      · refine ojs_arith (z := ((k + 1 : Nat) : Int)) (by rw [wrap_in] <;> omega) rfl rfl rfl rfl ?_
        refine ⟨k + 1, ⟨by omega, fun j y hj hy => ?_⟩, by dsimp only; omega, wk_same (by repeat' (first | exact trivial | rfl | refine ⟨?_, ?_⟩ | exact lt_all_v | exact (congrArg some idN_ren_lc.symm) | omega)) (by repeat' (first | exact trivial | rfl | refine ⟨?_, ?_⟩ | exact lt_all_v | exact (congrArg some idN_ren_lc.symm) | omega)) (by simp) (by simp)⟩
        rcases Nat.lt_succ_iff_lt_or_eq.1 hj with h | rfl
        · exact hno j y h hy
        · rw [hr] at hy; cases hy; cases r with | nil => rfl | cons x r => simp at h1
    · refine endR_ok [] rfl rfl ⟨rfl, rfl⟩ rfl (fun _ => ⟨ret_bool ?_, rfl⟩) (by simp)
      rw [hR, all_of_at fun j x hj hx => hno j x (by omega) hx]

end Go.Proofs.Ytnkpmeplapkobaa
