/- Sites, by the symbolic run: SiteEach. -/
import Derived.Test.YtehfodoocfpkoaaDoorStQ
namespace Go.Proofs.YtehfodoocfpkoaaDoor
open Go.RowKit Go.Shelf

theorem sites_pos {n l s : Int} {k x : Nat} (h : (sitesX n l s)[k]? = some x) : shapeB n l s = true := by
  cases hs : shapeB n l s
  · unfold sitesX at h; rw [hs] at h; simp at h
  · rfl
theorem tdiv_toNat {k : Nat} {s : Int} (h : 1 ≤ s) : ((k : Nat) : Int).tdiv s = ((k / s.toNat : Nat) : Int) := by
  obtain ⟨s', rfl⟩ : ∃ s' : Nat, s = s' := ⟨s.toNat, by omega⟩
  rw [Int.ofNat_tdiv]; rfl
theorem tmod_toNat {k : Nat} {s : Int} (h : 1 ≤ s) : ((k : Nat) : Int).tmod s = ((k % s.toNat : Nat) : Int) := by
  obtain ⟨s', rfl⟩ : ∃ s' : Nat, s = s' := ⟨s.toNat, by omega⟩
  rw [Int.ofNat_tmod]; rfl

theorem nat_bnd {a k : Nat} (h : a ≤ k) (hk : k ≤ 256) : (-9223372036854775808 : Int) ≤ (a : Int) ∧ (a : Int) ≤ 9223372036854775807 := ⟨by omega, by omega⟩

set_option maxRecDepth 20000 in
set_option maxHeartbeats 6000000 in
theorem each_law (n l s many : Int) : Cm Tryd.prog 6 [.agg #[.int .i64 n, .int .i64 l, .int .i64 s], .int .i64 many] [] [libF] (rets (.bool true)) := by
  refine cm_ofD (tab := tb) (ok := tbOk) [.g [.v (.int .i64 n), .v (.int .i64 l), .v (.int .i64 s)], .o (.v (.int .i64 many))] Tryd.func6 Tryd.ntmps6 rfl rfl (fun _ _ => rfl) ?_
  intro w0 A0
  have c1 := refShape_c n l s
  have hle := sitesX_le (n := n) (l := l) (s := s)
  have hat := fun (k x : Nat) (h : (sitesX n l s)[k]? = some x) => (sitesX_at h : x = k)
  have hsp := fun (k x : Nat) (h : (sitesX n l s)[k]? = some x) => (sites_pos h : shapeB n l s = true)
  have hsq := seqE_c n l s
  cases hs : shapeB n l s
  · have h0 : (sitesX n l s).length = 0 := by unfold sitesX; rw [hs]; rfl
    rw [hs] at c1
    obtain ⟨xs, hxs⟩ : ∃ xs, xs = sitesX n l s := ⟨_, rfl⟩
    rw [← hxs] at hle hat hsp hsq h0
    have hz : (0 : Int) = (xs.length : Int) := by rw [h0]; rfl
    refine ojs_call [] [] rfl rfl rfl rfl rfl rfl rfl (by simp) (fun _ => c1) (by simp) (.inl rfl) ?_
    rintro e cs F1 _ ⟨rfl, rfl⟩
    refine ojs_call [] [] rfl rfl rfl rfl rfl rfl rfl (by simp) (fun _ => each_c n l s) (by simp) (.inl rfl) ?_
    rintro e cs F1 _ ⟨b, rfl, rfl⟩
    refine ojs_fnil (by kernel_rfl) rfl rfl ?_
    refine cjs_turns 3 ?_
    refine cjs_range (γ := Unit) (fun k _ => k ≤ xs.length ∧ (k = 0 ∨ (k : Int) < many)) (fun k _ => ([(0, .c [.v (.int .i64 n), .v (.int .i64 l), .v (.int .i64 s)] 23), (1, .c [.v (.int .i64 many)] 3), (2, .c [.v (.bool false)] 4), (3, .c [.v (.int .i64 0)] 3), (4, .c [.v (.int .i64 0)] 3), (5, .c [.v (.int .i64 k)] 3)],
      [blkF b [.int .i64 n, .int .i64 l, .int .i64 s] 23, libF])) () (hsq b) rfl rfl rfl (fun _ => rfl) rfl (Nat.zero_le _) ⟨Nat.zero_le _, .inl rfl⟩ ?_ (by simp) ?_ ?_
    · exact wk_patch (by repeat' (first | exact trivial | exact Or.inl rfl | refine Or.inr ⟨?_, ?_⟩ | rfl | refine ⟨?_, ?_⟩ | exact lt_all_v)) (by repeat' (first | exact trivial | exact Or.inl rfl | refine Or.inr ⟨?_, ?_⟩ | rfl | refine ⟨?_, ?_⟩ | exact lt_all_v)) (by simp) (by simp) D_nil
    · rintro k x - hx ⟨hk, hkm⟩ l1 w1 A1 M1 N1 hN1
      have hkl := (List.getElem?_eq_some_iff.1 hx).1
      exact absurd hkl (by omega)
    · rintro - ⟨hk, hkm⟩
      have hmm : (xs.length : Int) = min (xs.length : Int) (max 1 many) := by omega
      refine ojs_max rfl rfl rfl rfl rfl ?_
      refine ojs_min rfl rfl rfl rfl rfl ?_
      refine brB_split (fun h => ?_) (fun h => ?_)
      · have h' := bne_iff_ne.1 h; omega
      refine ojs_arith (z := 1) (by decide) rfl rfl rfl rfl ?_
      refine cjs_range (γ := Unit) (fun k _ => k ≤ xs.length) (fun k _ => ([(0, .c [.v (.int .i64 n), .v (.int .i64 l), .v (.int .i64 s)] 23), (2, .c [.v (.bool false)] 4), (3, .c [.v (.int .i64 0)] 3), (6, markL), (7, .c [.v (.int .i64 1)] 3), (8, .c [.v (.int .i64 k)] 3)],
        [blkF b [.int .i64 n, .int .i64 l, .int .i64 s] 23, libF])) () (hsq b) rfl rfl rfl (fun _ => rfl) rfl (Nat.zero_le _) (Nat.zero_le _) ?_ (by simp) ?_ ?_
      · exact wk_L (by repeat' (first | exact trivial | rfl | refine ⟨?_, ?_⟩ | exact lt_all_v | exact (congrArg some idN_ren_lc.symm) | omega)) (by simp)
      · rintro k x - hx hk l1 w1 A1 M1 N1 hN1
        have hkl := (List.getElem?_eq_some_iff.1 hx).1
        exact absurd hkl (by omega)
      · rintro - hk
        refine brB_split (fun h => by have h' := bne_iff_ne.1 h; omega) (fun _ => ?_)
        refine ojs_arith (z := 2) (by decide) rfl rfl rfl rfl ?_
        refine ojs_call [] [] rfl rfl rfl rfl rfl rfl rfl (by simp) (fun _ => works_c) (by simp) (.inl rfl) ?_
        rintro e cs F1 _ ⟨rfl, rfl⟩
        refine lv_of (lv_mark ret_ne rfl (lv_mark ret_ne rfl ?_))
        exact lv_ret (endR_ok [] rfl rfl ⟨rfl, rfl⟩ rfl (fun _ => ⟨rfl, rfl⟩) (by simp))
  · have hns := sites_len hs
    have hb := shapeB_is hs
    rw [hs] at c1
    obtain ⟨xs, hxs⟩ : ∃ xs, xs = sitesX n l s := ⟨_, rfl⟩
    rw [← hxs] at hle hat hsp hsq hns
    have hz : (xs.length : Int) = (xs.length : Int) := rfl
    refine ojs_call [] [] rfl rfl rfl rfl rfl rfl rfl (by simp) (fun _ => c1) (by simp) (.inl rfl) ?_
    rintro e cs F1 _ ⟨rfl, rfl⟩
    refine ojs_arith (z := (xs.length : Int)) (by rw [hns, wrap_in] <;> omega) rfl rfl rfl rfl ?_
    refine ojs_call [] [] rfl rfl rfl rfl rfl rfl rfl (by simp) (fun _ => each_c n l s) (by simp) (.inl rfl) ?_
    rintro e cs F1 _ ⟨b, rfl, rfl⟩
    refine ojs_fnil (by kernel_rfl) rfl rfl ?_
    refine cjs_turns 3 ?_
    refine cjs_range (γ := Unit) (fun k _ => k ≤ xs.length ∧ (k = 0 ∨ (k : Int) < many)) (fun k _ => ([(0, .c [.v (.int .i64 n), .v (.int .i64 l), .v (.int .i64 s)] 23), (1, .c [.v (.int .i64 many)] 3), (2, .c [.v (.bool false)] 4), (3, .c [.v (.int .i64 xs.length)] 3), (4, .c [.v (.int .i64 0)] 3), (5, .c [.v (.int .i64 k)] 3)],
      [blkF b [.int .i64 n, .int .i64 l, .int .i64 s] 23, libF])) () (hsq b) rfl rfl rfl (fun _ => rfl) rfl (Nat.zero_le _) ⟨Nat.zero_le _, .inl rfl⟩ ?_ (by simp) ?_ ?_
    · exact wk_patch (by repeat' (first | exact trivial | exact Or.inl rfl | refine Or.inr ⟨?_, ?_⟩ | rfl | refine ⟨?_, ?_⟩ | exact lt_all_v)) (by repeat' (first | exact trivial | exact Or.inl rfl | refine Or.inr ⟨?_, ?_⟩ | rfl | refine ⟨?_, ?_⟩ | exact lt_all_v)) (by simp) (by simp) D_nil
    · rintro k x - hx ⟨hk, hkm⟩ l1 w1 A1 M1 N1 hN1
      have hkl := (List.getElem?_eq_some_iff.1 hx).1
      have hb := shapeB_is (hsp k x hx)
      obtain rfl := hat k x hx
      intro w2 A2 M2 N2 hN2
      refine ⟨rfl, ?_⟩
      refine cjs_drawn [] (.op 0 <| .op 1 <| .op 2 <| .op 3 <| .op 4 <| .op 5 <| .op 6 <| .op 7 <| .op 8 <| .op 9 <| .op 10 <| .op 11 <| .op 12 <| .op 13 <| .op 14 <| .op 15 <| .op 16 <| .op 17 <| .op 18 <| .op 19 <| .op 20 .z) [0, 3, 5, 6] [] [] [] (by kernel_rfl) (by kernel_rfl) rfl (by first | (simp; done) | exact Nat.le_trans (Nat.le_of_eq hN2) (by decide)) (by first | (simp; done) | exact Nat.le_trans (Nat.le_of_eq hN2) (by decide)) ?_
      intro N
      refine brB_split (fun h => by simp at h) (fun _ => ?_)
      refine brB_dec (fun h => absurd h (by omega)) (fun _ => ?_)
      refine ⟨_, yd_div (r := ((x / s.toNat : Nat) : Int)) (by omega) (nat_bnd (Nat.div_le_self x s.toNat) (by omega)).1 (nat_bnd (Nat.div_le_self x s.toNat) (by omega)).2 rfl rfl rfl (by rw [← tdiv_toNat hb.2.2.1]; rfl), ?_⟩
      refine ⟨_, yd_div (r := ((x % s.toNat : Nat) : Int)) (by omega) (nat_bnd (Nat.mod_le x s.toNat) (by omega)).1 (nat_bnd (Nat.mod_le x s.toNat) (by omega)).2 rfl rfl rfl (by rw [← tmod_toNat hb.2.2.1]; rfl), ?_⟩
      refine ⟨_, yd_build rfl rfl rfl rfl, ?_⟩
      refine ⟨_, yd_binOp (u := tkV (((x / s.toNat : Nat) : Int), 0, ((x % s.toNat : Nat) : Int), 1)) (v := tkV (((x / s.toNat : Nat) : Int), 0, ((x % s.toNat : Nat) : Int), 1)) (r := .bool false) rfl rfl rfl (fun _ => rfl) (fun _ => rfl) (guard_ticket _ _ _ _ _) (fun w => (run_neq_ticket _ _ w).trans (by simp)), ?_⟩
      refine ojs_arith (z := ((x + 1 : Nat) : Int)) (by rw [wrap_in] <;> omega) rfl rfl rfl rfl ?_
      refine brB_dec (fun hm => ?_) (fun hm => ?_)
      · refine ⟨rfl, ?_⟩
        have hmm : ((x + 1 : Nat) : Int) = min (xs.length : Int) (max 1 many) := by omega
        refine ojs_max rfl rfl rfl rfl rfl ?_
        refine ojs_min rfl rfl rfl rfl rfl ?_
        refine brB_split (fun h => ?_) (fun h => ?_)
        · have h' := bne_iff_ne.1 h; omega
        refine ojs_arith (z := 1) (by decide) rfl rfl rfl rfl ?_
        refine cjs_range (γ := Unit) (fun k _ => k ≤ xs.length) (fun k _ => ([(0, .c [.v (.int .i64 n), .v (.int .i64 l), .v (.int .i64 s)] 23), (2, .c [.v (.bool false)] 4), (3, .c [.v (.int .i64 xs.length)] 3), (7, markL), (8, .c [.v (.int .i64 1)] 3), (9, .c [.v (.int .i64 k)] 3)],
          [blkF b [.int .i64 n, .int .i64 l, .int .i64 s] 23, libF])) () (hsq b) rfl rfl rfl (fun _ => rfl) rfl (Nat.zero_le _) (Nat.zero_le _) ?_ (by simp) ?_ ?_
        · exact wk_L (by repeat' (first | exact trivial | rfl | refine ⟨?_, ?_⟩ | exact lt_all_v | exact (congrArg some idN_ren_lc.symm) | omega)) (by simp)
        · rintro k x - hx hk l1 w1 A1 M1 N1 hN1
          have hkl := (List.getElem?_eq_some_iff.1 hx).1
          have hb := shapeB_is (hsp k x hx)
          obtain rfl := hat k x hx
          intro w2 A2 M2 N2 hN2
          refine ⟨rfl, ?_⟩
          refine cjs_drawn [] (.op 0 <| .op 1 <| .op 2 <| .op 3 <| .op 4 <| .op 5 <| .op 6 <| .op 7 <| .op 8 <| .op 9 <| .op 10 <| .op 11 <| .op 12 <| .op 13 <| .op 14 <| .op 15 <| .op 16 <| .op 17 <| .op 18 <| .op 19 <| .op 20 .z) [0, 3, 9, 10] [] [] [] (by kernel_rfl) (by kernel_rfl) rfl (by first | (simp; done) | exact Nat.le_trans (Nat.le_of_eq hN2) (by decide)) (by first | (simp; done) | exact Nat.le_trans (Nat.le_of_eq hN2) (by decide)) ?_
          intro N
          refine brB_split (fun h => by simp at h) (fun _ => ?_)
          refine brB_dec (fun h => absurd h (by omega)) (fun _ => ?_)
          refine ⟨_, yd_div (r := ((x / s.toNat : Nat) : Int)) (by omega) (nat_bnd (Nat.div_le_self x s.toNat) (by omega)).1 (nat_bnd (Nat.div_le_self x s.toNat) (by omega)).2 rfl rfl rfl (by rw [← tdiv_toNat hb.2.2.1]; rfl), ?_⟩
          refine ⟨_, yd_div (r := ((x % s.toNat : Nat) : Int)) (by omega) (nat_bnd (Nat.mod_le x s.toNat) (by omega)).1 (nat_bnd (Nat.mod_le x s.toNat) (by omega)).2 rfl rfl rfl (by rw [← tmod_toNat hb.2.2.1]; rfl), ?_⟩
          refine ⟨_, yd_build rfl rfl rfl rfl, ?_⟩
          refine ⟨_, yd_binOp (u := tkV (((x / s.toNat : Nat) : Int), 0, ((x % s.toNat : Nat) : Int), 1)) (v := tkV (((x / s.toNat : Nat) : Int), 0, ((x % s.toNat : Nat) : Int), 1)) (r := .bool false) rfl rfl rfl (fun _ => rfl) (fun _ => rfl) (guard_ticket _ _ _ _ _) (fun w => (run_neq_ticket _ _ w).trans (by simp)), ?_⟩
          refine ojs_arith (z := ((x + 1 : Nat) : Int)) (by rw [wrap_in] <;> omega) rfl rfl rfl rfl ?_
          exact ⟨(), by omega, wk_patch (by repeat' (first | exact trivial | exact Or.inl rfl | refine Or.inr ⟨?_, ?_⟩ | rfl | refine ⟨?_, ?_⟩ | exact lt_all_v)) (by repeat' (first | exact trivial | exact Or.inl rfl | refine Or.inr ⟨?_, ?_⟩ | rfl | refine ⟨?_, ?_⟩ | exact lt_all_v)) (by simp) (Nat.le_of_eq hN2) D_nil⟩
        · rintro - hk
          refine brB_split (fun h => by have h' := bne_iff_ne.1 h; omega) (fun _ => ?_)
          refine ojs_arith (z := 2) (by decide) rfl rfl rfl rfl ?_
          refine ojs_call [] [] rfl rfl rfl rfl rfl rfl rfl (by simp) (fun _ => works_c) (by simp) (.inl rfl) ?_
          rintro e cs F1 _ ⟨rfl, rfl⟩
          refine lv_of (lv_mark ret_ne rfl (lv_mark ret_ne rfl ?_))
          exact lv_ret (endR_ok [] rfl rfl ⟨rfl, rfl⟩ rfl (fun _ => ⟨rfl, rfl⟩) (by simp))
      · exact ⟨(), ⟨by omega, .inr (by omega)⟩, wk_patch (by repeat' (first | exact trivial | exact Or.inl rfl | refine Or.inr ⟨?_, ?_⟩ | rfl | refine ⟨?_, ?_⟩ | exact lt_all_v)) (by repeat' (first | exact trivial | exact Or.inl rfl | refine Or.inr ⟨?_, ?_⟩ | rfl | refine ⟨?_, ?_⟩ | exact lt_all_v)) (by simp) (Nat.le_of_eq hN2) D_nil⟩
    · rintro - ⟨hk, hkm⟩
      have hmm : (xs.length : Int) = min (xs.length : Int) (max 1 many) := by omega
      refine ojs_max rfl rfl rfl rfl rfl ?_
      refine ojs_min rfl rfl rfl rfl rfl ?_
      refine brB_split (fun h => ?_) (fun h => ?_)
      · have h' := bne_iff_ne.1 h; omega
      refine ojs_arith (z := 1) (by decide) rfl rfl rfl rfl ?_
      refine cjs_range (γ := Unit) (fun k _ => k ≤ xs.length) (fun k _ => ([(0, .c [.v (.int .i64 n), .v (.int .i64 l), .v (.int .i64 s)] 23), (2, .c [.v (.bool false)] 4), (3, .c [.v (.int .i64 xs.length)] 3), (6, markL), (7, .c [.v (.int .i64 1)] 3), (8, .c [.v (.int .i64 k)] 3)],
        [blkF b [.int .i64 n, .int .i64 l, .int .i64 s] 23, libF])) () (hsq b) rfl rfl rfl (fun _ => rfl) rfl (Nat.zero_le _) (Nat.zero_le _) ?_ (by simp) ?_ ?_
      · exact wk_L (by repeat' (first | exact trivial | rfl | refine ⟨?_, ?_⟩ | exact lt_all_v | exact (congrArg some idN_ren_lc.symm) | omega)) (by simp)
      · rintro k x - hx hk l1 w1 A1 M1 N1 hN1
        have hkl := (List.getElem?_eq_some_iff.1 hx).1
        have hb := shapeB_is (hsp k x hx)
        obtain rfl := hat k x hx
        intro w2 A2 M2 N2 hN2
        refine ⟨rfl, ?_⟩
        refine cjs_drawn [] (.op 0 <| .op 1 <| .op 2 <| .op 3 <| .op 4 <| .op 5 <| .op 6 <| .op 7 <| .op 8 <| .op 9 <| .op 10 <| .op 11 <| .op 12 <| .op 13 <| .op 14 <| .op 15 <| .op 16 <| .op 17 <| .op 18 <| .op 19 <| .op 20 .z) [0, 3, 8, 9] [] [] [] (by kernel_rfl) (by kernel_rfl) rfl (by first | (simp; done) | exact Nat.le_trans (Nat.le_of_eq hN2) (by decide)) (by first | (simp; done) | exact Nat.le_trans (Nat.le_of_eq hN2) (by decide)) ?_
        intro N
        refine brB_split (fun h => by simp at h) (fun _ => ?_)
        refine brB_dec (fun h => absurd h (by omega)) (fun _ => ?_)
        refine ⟨_, yd_div (r := ((x / s.toNat : Nat) : Int)) (by omega) (nat_bnd (Nat.div_le_self x s.toNat) (by omega)).1 (nat_bnd (Nat.div_le_self x s.toNat) (by omega)).2 rfl rfl rfl (by rw [← tdiv_toNat hb.2.2.1]; rfl), ?_⟩
        refine ⟨_, yd_div (r := ((x % s.toNat : Nat) : Int)) (by omega) (nat_bnd (Nat.mod_le x s.toNat) (by omega)).1 (nat_bnd (Nat.mod_le x s.toNat) (by omega)).2 rfl rfl rfl (by rw [← tmod_toNat hb.2.2.1]; rfl), ?_⟩
        refine ⟨_, yd_build rfl rfl rfl rfl, ?_⟩
        refine ⟨_, yd_binOp (u := tkV (((x / s.toNat : Nat) : Int), 0, ((x % s.toNat : Nat) : Int), 1)) (v := tkV (((x / s.toNat : Nat) : Int), 0, ((x % s.toNat : Nat) : Int), 1)) (r := .bool false) rfl rfl rfl (fun _ => rfl) (fun _ => rfl) (guard_ticket _ _ _ _ _) (fun w => (run_neq_ticket _ _ w).trans (by simp)), ?_⟩
        refine ojs_arith (z := ((x + 1 : Nat) : Int)) (by rw [wrap_in] <;> omega) rfl rfl rfl rfl ?_
        exact ⟨(), by omega, wk_patch (by repeat' (first | exact trivial | exact Or.inl rfl | refine Or.inr ⟨?_, ?_⟩ | rfl | refine ⟨?_, ?_⟩ | exact lt_all_v)) (by repeat' (first | exact trivial | exact Or.inl rfl | refine Or.inr ⟨?_, ?_⟩ | rfl | refine ⟨?_, ?_⟩ | exact lt_all_v)) (by simp) (Nat.le_of_eq hN2) D_nil⟩
      · rintro - hk
        refine brB_split (fun h => by have h' := bne_iff_ne.1 h; omega) (fun _ => ?_)
        refine ojs_arith (z := 2) (by decide) rfl rfl rfl rfl ?_
        refine ojs_call [] [] rfl rfl rfl rfl rfl rfl rfl (by simp) (fun _ => works_c) (by simp) (.inl rfl) ?_
        rintro e cs F1 _ ⟨rfl, rfl⟩
        refine lv_of (lv_mark ret_ne rfl (lv_mark ret_ne rfl ?_))
        exact lv_ret (endR_ok [] rfl rfl ⟨rfl, rfl⟩ rfl (fun _ => ⟨rfl, rfl⟩) (by simp))

end Go.Proofs.YtehfodoocfpkoaaDoor
