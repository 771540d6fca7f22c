/- Trials of the symbolic run. -/
import Derived.Test.YtnkpmeplapkobaaEngT
import Derived.Test.YtnkpmeplapkobaaRepE
namespace Go.Proofs.Ytnkpmeplapkobaa
open Go.RowKit Go.Shelf

theorem num_c (n : Int) : Cm Try.prog 13 [.int .i64 n] [] [] (rets (.int .i64 n)) := by
  refine cm_of (tab := tb) (ok := tbOk) [.o (.v (.int .i64 n))] Try.func13 Try.ntmps13 rfl rfl (fun _ _ => rfl) ?_
  intro w0 A0
  exact endR_ok [] rfl rfl ⟨rfl, rfl⟩ rfl (fun _ => ⟨rfl, rfl⟩) (by simp)
theorem shape_c : Cm Try.prog 26 [] [] [] (rets (.agg #[.int .i64 3, .int .i64 1, .int .i64 1])) := by
  refine cm_of (tab := tb) (ok := tbOk) [] Try.func26 Try.ntmps26 rfl rfl (fun _ _ => rfl) ?_
  intro w0 A0
  exact endR_ok [] rfl rfl ⟨rfl, rfl⟩ rfl (fun _ => ⟨rfl, rfl⟩) (by simp)
theorem within_c (n a b : Int) : Cm Try.prog 53 [.int .i64 n, .int .i64 a, .int .i64 b] [] [] (rets (.bool (decide (a ≤ n) && decide (n ≤ b)))) := by
  refine cm_of (tab := tb) (ok := tbOk) [.o (.v (.int .i64 n)), .o (.v (.int .i64 a)), .o (.v (.int .i64 b))] Try.func53 Try.ntmps53 rfl rfl (fun _ _ => rfl) ?_
  intro w0 A0
  refine brB_dec (fun h => ?_) (fun h => ?_)
  · refine endR_ok [] rfl rfl ⟨rfl, rfl⟩ rfl (fun _ => ⟨?_, rfl⟩) (by simp)
    simp [retV, TV.den, SV.den, h]
  · refine endR_ok [] rfl rfl ⟨rfl, rfl⟩ rfl (fun _ => ⟨?_, rfl⟩) (by simp)
    simp [retV, TV.den, SV.den, h]

/-- The tally's rows. -/
def rowsF (v : Value) (t : List (List (Bool × Int))) : Fact where
  h A w := ∃ vs : List Value, (slF (encV id) 1 v vs).h A w ∧ vs.length = t.length ∧ ∀ (i : Nat) (u : Value) (xs : List (Bool × Int)), vs[i]? = some u → t[i]? = some xs → (slF encR 2 u xs).h A w
  ok := by
    rintro A A' w w' hA hw hg ⟨vs, h1, h2, h3⟩
    exact ⟨vs, (slF _ _ _ _).ok hA hw hg h1, h2, fun i u xs hu hx => (slF _ _ _ _).ok hA hw hg (h3 i u xs hu hx)⟩
theorem rowsF_at {a : Option Addr} {m cap : Nat} {t : List (List (Bool × Int))} {i : Nat} {r : List (Bool × Int)} (hr : t[i]? = some r) (A : Nat → Prop) (w : World) (h : (rowsF (.slice a m cap) t).h A w) :
    ∃ x : Nat × Nat × Option Addr × Nat, a = some ⟨x.1, x.2.1, none⟩ ∧ ∀ g ∈ [celF x.1 (x.2.1 + i * 1) (.slice x.2.2.1 r.length x.2.2.2), slF encR 2 (.slice x.2.2.1 r.length x.2.2.2) r], g.h A w := by
  obtain ⟨vs, h1, h2, h3⟩ := h
  have hi := (List.getElem?_eq_some_iff.1 hr).1
  obtain ⟨u, hu⟩ := at_some (xs := vs) (k := i) (by omega)
  have h4 := h3 i u r hu hr
  obtain ⟨ra, rc, h5, h6⟩ := h4
  obtain ⟨a', cap', h7, _, h8⟩ := h1
  cases h7
  rcases h8 with h8 | ⟨b, off, h9, h10, h11⟩
  · subst h8; simp at hu
  · refine ⟨(b, off, ra, rc), h9, ?_⟩
    subst h5
    simp only [List.forall_mem_cons, List.not_mem_nil, false_implies, implies_true, and_true]
    exact ⟨⟨h10, by have := h11 i _ hu 0 _ rfl; simpa using this⟩, ra, rc, rfl, h6⟩

set_option maxHeartbeats 1000000 in
theorem few_c (a : Option Addr) (cap : Nat) (t : List (List (Bool × Int))) : Cm Try.prog 7 [.agg #[.slice a t.length cap]] [] [rowsF (.slice a t.length cap) t] (rets (.bool (fewB t))) := by
  refine cm_of (tab := tb) (ok := tbOk) [.g [.v (.slice a t.length cap)]] Try.func7 Try.ntmps7 rfl rfl (fun _ _ => rfl) ?_
  intro w0 A0
  refine cjs_loop (γ := Nat) (fun k => k ≤ t.length ∧ k ≤ 101 ∧ ∀ j r, j < k → t[j]? = some r → r.length ≤ 20) (fun k => ⟨[(1, .o (.p 0 0)), (3, .o (.v (.int .i64 k)))], [(0, .c [.v (.slice a t.length cap)] 26)], 1, [rowsF (.slice a t.length cap) t], fun _ => []⟩) (fun k => 101 - k) 0 ⟨by omega, by omega, fun j r hj => by omega⟩ (wk_same (by repeat' (first | exact trivial | rfl | refine ⟨?_, ?_⟩ | exact lt_all_v | exact (congrArg some idN_ren_lc.symm) | omega)) (by repeat' (first | exact trivial | rfl | refine ⟨?_, ?_⟩ | exact lt_all_v | exact (congrArg some idN_ren_lc.symm) | omega)) (by simp) (by simp)) ?_
  rintro k ⟨hk, hk1, hno⟩
  refine brB_dec (fun h => ?_) (fun h => ?_)
  · refine brB_dec (fun h1 => ?_) (fun h1 => ?_)
    · obtain ⟨r, hr⟩ := at_some (xs := t) (k := k) (by omega)
      refine ojs_ex _ (fun A w hF => rowsF_at hr A w (hF _ (List.mem_cons_self ..))) ?_
      rintro ⟨b, off, ra, rc⟩ rfl
      refine ojs_index rfl (by omega) rfl rfl rfl rfl ?_
      refine ojs_load1 _ (List.mem_cons_self ..) celF_at rfl rfl rfl ?_
      refine brB_dec (fun h2 => ?_) (fun h2 => ?_)
      · refine endR_ok [] rfl rfl ⟨rfl, rfl⟩ rfl (fun _ => ⟨?_, rfl⟩) (by simp)
        refine ret_bool ?_
        unfold fewB
        rw [show (t.take 101).all (fun r => decide (r.length ≤ 20)) = false from all_false_at (k := k) (x := r) (by rw [List.getElem?_take, if_pos (by omega)]; exact hr) (by simp; omega)]
        simp
      · refine ojs_arith (z := ((k + 1 : Nat) : Int)) (by rw [wrap_in] <;> omega) rfl rfl rfl rfl ?_
        refine ⟨k + 1, ⟨by omega, by omega, fun j y hj hy => ?_⟩, by dsimp only; omega, wk_same (by repeat' (first | exact trivial | rfl | refine ⟨?_, ?_⟩ | exact lt_all_v | exact (congrArg some idN_ren_lc.symm) | omega)) (by repeat' (first | exact trivial | rfl | refine ⟨?_, ?_⟩ | exact lt_all_v | exact (congrArg some idN_ren_lc.symm) | omega)) (by simp) (by simp)⟩
        rcases Nat.lt_succ_iff_lt_or_eq.1 hj with h | rfl
        · exact hno j y h hy
        · rw [hr] at hy; cases hy; omega
    · refine endR_ok [] rfl rfl ⟨rfl, rfl⟩ rfl (fun _ => ⟨?_, rfl⟩) (by simp)
      refine ret_bool ?_
      unfold fewB
      have e : decide (t.length ≤ 100) = false := by simp; omega
      rw [e]
      simp
      omega
  · refine endR_ok [] rfl rfl ⟨rfl, rfl⟩ rfl (fun _ => ⟨?_, rfl⟩) (by simp)
    refine ret_bool ?_
    unfold fewB
    rw [List.take_of_length_le (by omega), all_of_at (fun j r hj hr => by simpa using hno j r (by omega) hr)]
    simp only [Bool.and_true, decide_eq_decide]
    omega

end Go.Proofs.Ytnkpmeplapkobaa
