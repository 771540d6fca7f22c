/- Sites, by the symbolic run: the sites of a lock, one by one. -/
import Derived.Test.YtehfodoocfpkoaaDoorStB
namespace Go.Proofs.YtehfodoocfpkoaaDoor
open Go.RowKit Go.Shelf

theorem div_nat (i s : Nat) : ((i : Nat) : Int).tdiv (s : Int) = ((i / s : Nat) : Int) := by rw [Int.ofNat_tdiv]
theorem mod_nat (i s : Nat) : ((i : Nat) : Int).tmod (s : Int) = ((i % s : Nat) : Int) := by rw [Int.ofNat_tmod]
theorem nat_in {q z : Nat} (h : q ≤ z) (hz : z ≤ 1000000) : -9223372036854775808 ≤ ((q : Nat) : Int) ∧ ((q : Nat) : Int) ≤ 9223372036854775807 := by omega
/-- A site's ticket of lock 0. -/
def firstV (s : Nat) (i : Nat) : Value := .agg #[.int .i64 ((i / s : Nat) : Int), .int .i64 0, .int .i64 ((i % s : Nat) : Int), .int .i64 1]
theorem first_c (n l : Int) (s i : Nat) (hs : 1 ≤ s) (hi : i ≤ 1000000) : Cm Tryd.prog 43 [.agg #[.int .i64 n, .int .i64 l, .int .i64 s], .int .i64 i] [] [] (rets (firstV s i)) := by
  refine cm_of (tab := tb) (ok := tbOk) [.g [.v (.int .i64 n), .v (.int .i64 l), .v (.int .i64 s)], .o (.v (.int .i64 i))] Tryd.func43 Tryd.ntmps43 rfl rfl (fun _ _ => rfl) ?_
  intro w0 A0
  have hd := nat_in (Nat.div_le_self i s) hi
  have hm := nat_in (Nat.mod_le i s) hi
  refine cjs_drawn [11] (.op 0 <| .op 1 <| .op 2 <| .op 3 <| .op 4 <| .op 5 <| .op 6 <| .op 7 <| .op 8 <| .op 9 <| .op 10 <| .op 11 .z) [0] [] [] [] (by kernel_rfl) (by kernel_rfl) rfl (by simp) (by simp) ?_
  intro N
  refine ⟨_, yd_div (r := ((i / s : Nat) : Int)) (by omega) hd.1 hd.2 rfl rfl rfl (congrArg some (div_nat i s)), ?_⟩
  refine ⟨_, yd_div (r := ((i % s : Nat) : Int)) (by omega) hm.1 hm.2 rfl rfl rfl (congrArg some (mod_nat i s)), ?_⟩
  refine ⟨_, yd_build rfl rfl rfl rfl, ?_⟩
  refine ⟨⟨(by repeat' (first | exact trivial | refine ⟨Or.inl rfl, ?_⟩ | refine ⟨Or.inr ⟨rfl, Nat.le_of_ble_eq_true rfl, _, rfl, rfl, rfl⟩, ?_⟩)), by simp⟩, ?_⟩
  exact endR_ok [] rfl rfl ⟨rfl, rfl⟩ rfl (fun _ => ⟨rfl, rfl⟩) (by simp)
/-- A lock's sites. -/
def sitesX (n l s : Int) : List Nat := if shapeB n l s = true then List.range (n.toNat * s.toNat) else []
def encSt (s : Int) (i : Nat) : List Value := [.int .i64 i, firstV s.toNat i]
theorem sitesX_le {n l s : Int} : (sitesX n l s).length ≤ 256 := by
  unfold sitesX
  split
  · rename_i h
    have := shapeB_is h
    rw [List.length_range]
    exact (show n.toNat * s.toNat ≤ 64 * 4 from Nat.mul_le_mul (by omega) (by omega))
  · simp
theorem sitesX_at {n l s : Int} {k x : Nat} (h : (sitesX n l s)[k]? = some x) : x = k := by
  unfold sitesX at h
  split at h
  · have := (List.getElem?_eq_some_iff.1 h).1
    rw [List.length_range] at this
    rw [List.getElem?_range this] at h
    cases h; rfl
  · simp at h
theorem seqE_c (n l s : Int) (b : Nat) : SeqC Tryd.prog 42 [.pointer (some ⟨b, 0, none⟩)] [blkF b [.int .i64 n, .int .i64 l, .int .i64 s] 23] (encSt s) (sitesX n l s) := by
  refine seq_of (tab := tb) (ok := tbOk) [.o (.v (.pointer (some ⟨b, 0, none⟩)))] Tryd.func42 Tryd.ntmps42 rfl rfl (fun _ => rfl) ?_
  intro S
  refine cjs_scope rfl ?_
  refine ojs_loadN (vs := [.int .i64 n, .int .i64 l, .int .i64 s]) (S.inF (blkF b [.int .i64 n, .int .i64 l, .int .i64 s] 23)) (by simp) (fun A w h => blk_cells _ _ h.2) rfl rfl rfl ?_
  refine ojs_call [] [] rfl rfl rfl rfl rfl rfl rfl (by simp) (fun _ => check_c n l s) (by simp) (.inl rfl) ?_
  rintro e cs F1 _ ⟨rfl, rfl⟩
  cases hs : shapeB n l s
  · have hx : sitesX n l s = [] := by unfold sitesX; rw [if_neg (by rw [hs]; simp)]
    have hl : (sitesX n l s).length = 0 := by rw [hx]; rfl
    exact endS_done (by rw [hl]; simp) rfl rfl
  have h := shapeB_is hs
  obtain ⟨s', rfl⟩ : ∃ s' : Nat, s = s' := ⟨s.toNat, by omega⟩
  obtain ⟨n', rfl⟩ : ∃ n' : Nat, n = n' := ⟨n.toNat, by omega⟩
  have hx : sitesX n' l s' = List.range (n' * s') := by unfold sitesX; rw [if_pos hs]; rfl
  have hle : n' * s' ≤ 256 := by have := sitesX_le (n := n') (l := l) (s := s'); rw [hx, List.length_range] at this; exact this
  refine ojs_loadN (vs := [.int .i64 n', .int .i64 l, .int .i64 s']) (S.inF (blkF b [.int .i64 n', .int .i64 l, .int .i64 s'] 23)) (by simp) (fun A w h => blk_cells _ _ h.2) rfl rfl rfl ?_
  refine optK_of (yd_bound (v := .agg #[.int .i64 n', .int .i64 l, .int .i64 s']) rfl rfl (fun _ => rfl)) ?_
  refine ojs_call [] [] rfl rfl rfl rfl rfl rfl rfl (by simp) (fun _ => many_c n' l s' hs) (by simp) (.inl rfl) ?_
  rintro e cs F1 _ ⟨rfl, rfl⟩
  refine cjs_loopX (γ := Nat) (fun k => k ≤ n' * s') (fun k => [(15, .o (.v (.int .i64 k)))]) (fun _ => []) (fun k => [S.jF k]) (fun k => n' * s' - k) 0 (Nat.zero_le _) (wk_patch (by repeat' (first | exact trivial | exact Or.inl rfl | refine Or.inr ⟨?_, ?_⟩ | rfl | refine ⟨?_, ?_⟩ | exact lt_all_v)) (by repeat' (first | exact trivial | exact Or.inl rfl | refine Or.inr ⟨?_, ?_⟩ | rfl | refine ⟨?_, ?_⟩ | exact lt_all_v)) (by simp) (by simp [It.X]) D_nil) ?_
  intro k hk
  refine brB_dec (fun h1 => ?_) (fun h1 => ?_)
  · have hkl : k < n' * s' := by rw [← Int.natCast_mul] at h1; omega
    refine ojs_call [] [] rfl rfl rfl rfl rfl rfl rfl (by simp) (fun _ => first_c n' l s' k (by omega) (by omega)) (by simp) (.inl rfl) ?_
    rintro e cs F1 _ ⟨rfl, rfl⟩
    refine ojs_yield k [] rfl rfl rfl rfl (by rw [hx]; exact List.getElem?_range hkl) (fun _ => rfl) (by simp) (by simp) ?_ ?_
    · refine ojs_arith (z := ((k + 1 : Nat) : Int)) (by rw [wrap_in] <;> omega) rfl rfl rfl rfl ?_
      exact ⟨k + 1, by omega, by dsimp only; omega, wk_patch (by repeat' (first | exact trivial | exact Or.inl rfl | refine Or.inr ⟨?_, ?_⟩ | rfl | refine ⟨?_, ?_⟩ | exact lt_all_v)) (by repeat' (first | exact trivial | exact Or.inl rfl | refine Or.inr ⟨?_, ?_⟩ | rfl | refine ⟨?_, ?_⟩ | exact lt_all_v)) (by simp) (by simp [It.X]) D_nil⟩
    · exact endS_stop (k + 1) (by simp) (by omega) (by rw [hx, List.length_range]; omega) rfl rfl
  · obtain rfl : k = n' * s' := by rw [← Int.natCast_mul] at h1; omega
    have hxl : (sitesX n' l s').length = n' * s' := by rw [hx, List.length_range]
    refine endS_done (by rw [hxl]; simp) rfl rfl
def eachR (n l s : Int) : OutT := fun e _ F1 => ∃ b, e = .returned (.func (.func 42) #[] #[.pointer (some ⟨b, 0, none⟩)]) ∧ F1 = [blkF b [.int .i64 n, .int .i64 l, .int .i64 s] 23]
theorem each_c (n l s : Int) : Cm Tryd.prog 23 [.agg #[.int .i64 n, .int .i64 l, .int .i64 s]] [] [] (eachR n l s) := by
  refine cm_of (tab := tb) (ok := tbOk) [.g [.v (.int .i64 n), .v (.int .i64 l), .v (.int .i64 s)]] Tryd.func23 Tryd.ntmps23 rfl rfl (fun _ _ => rfl) ?_
  intro w0 A0
  exact endR_seal [0] [] rfl rfl rfl rfl ⟨rfl, rfl⟩ rfl (fun ρ => ⟨ρ 0, rfl, rfl⟩) (by simp)
theorem sites_c (n l s : Int) : Cm Tryd.prog 9 [.agg #[.int .i64 n, .int .i64 l, .int .i64 s]] [] [] (rets (.tuple #[.int .i64 (sitesX n l s).length, .int .i64 (askE (shapeB n l s) true)])) := by
  refine cm_ofD (tab := tb) (ok := tbOk) [.g [.v (.int .i64 n), .v (.int .i64 l), .v (.int .i64 s)]] Tryd.func9 Tryd.ntmps9 rfl rfl (fun _ _ => rfl) ?_
  intro w0 A0
  refine ojs_call [] [] rfl rfl rfl rfl rfl rfl rfl (by simp) (fun _ => each_c n l s) (by simp) (.inl rfl) ?_
  rintro e cs F1 _ ⟨b, rfl, rfl⟩
  have hle := sitesX_le (n := n) (l := l) (s := s)
  obtain ⟨xs, hxs⟩ : ∃ xs, xs = sitesX n l s := ⟨_, rfl⟩
  have hseq := seqE_c n l s b
  rw [← hxs] at hle hseq ⊢
  refine cjs_range (γ := Unit) (fun _ _ => True) (fun k _ => ([(1, .c [.v (.int .i64 k)] 3), (0, .c [.v (.int .i64 n), .v (.int .i64 l), .v (.int .i64 s)] 23)], [blkF b [.int .i64 n, .int .i64 l, .int .i64 s] 23])) () hseq rfl rfl rfl (fun _ => rfl) rfl (Nat.zero_le _) trivial ?_ (by simp) ?_ ?_
  · exact wk_patch (by repeat' (first | exact trivial | exact Or.inl rfl | refine Or.inr ⟨?_, ?_⟩ | rfl | refine ⟨?_, ?_⟩ | exact lt_all_v)) (by repeat' (first | exact trivial | exact Or.inl rfl | refine Or.inr ⟨?_, ?_⟩ | rfl | refine ⟨?_, ?_⟩ | exact lt_all_v)) (by simp) (by simp) D_nil
  · rintro k x - hx - l1 w1 A1 M1 N1 hN1
    have hkl := (List.getElem?_eq_some_iff.1 hx).1
    intro w2 A2 M2 N2 hN2
    refine ⟨rfl, ?_⟩
    refine ojs_arith (z := ((k + 1 : Nat) : Int)) (by first | decide | (rw [wrap_in] <;> omega) | (dsimp only; rw [wrap_in] <;> omega)) rfl rfl rfl rfl ?_
    exact ⟨(), trivial, wk_patch (by repeat' (first | exact trivial | exact Or.inl rfl | refine Or.inr ⟨?_, ?_⟩ | rfl | refine ⟨?_, ?_⟩ | exact lt_all_v)) (by repeat' (first | exact trivial | exact Or.inl rfl | refine Or.inr ⟨?_, ?_⟩ | rfl | refine ⟨?_, ?_⟩ | exact lt_all_v)) (by simp) (Nat.le_of_eq hN2) D_nil⟩
  · rintro - -
    refine cjs_drawn [2, 3] (.op 0 <| .op 1 <| .op 2 <| .op 3 <| .op 4 .z) [0, 1] [] [] [] (by kernel_rfl) (by kernel_rfl) rfl (by simp) (by simp) ?_
    intro N
    refine ojs_call [] [] rfl rfl rfl rfl rfl rfl rfl (by simp) (fun _ => asked0_c n l s) (by simp) (.inl rfl) ?_
    rintro e cs F1 _ ⟨rfl, rfl⟩
    refine ⟨⟨(by repeat' (first | exact trivial | refine ⟨Or.inl rfl, ?_⟩ | refine ⟨Or.inr ⟨rfl, Nat.le_of_ble_eq_true rfl, _, rfl, rfl, rfl⟩, ?_⟩)), by simp⟩, ?_⟩
    refine ⟨⟨(by repeat' (first | exact trivial | refine ⟨Or.inl rfl, ?_⟩ | refine ⟨Or.inr ⟨rfl, Nat.le_of_ble_eq_true rfl, _, rfl, rfl, rfl⟩, ?_⟩)), by simp⟩, ?_⟩
    refine lv_of (lv_mark ret_ne rfl ?_)
    exact lv_ret (endR_ok [] rfl rfl ⟨rfl, rfl⟩ rfl (fun _ => ⟨rfl, rfl⟩) (by simp))

end Go.Proofs.YtehfodoocfpkoaaDoor
