/- Reports, by the symbolic run: the law ReportHolds. -/
import Derived.Test.YtnkpmeplapkobaaRpN
namespace Go.Proofs.Ytnkpmeplapkobaa
open Go.RowKit Go.Shelf

set_option maxHeartbeats 8000000 in
theorem lawRHolds_c (nodes : Int) (aw : Option Addr) (cw : Nat) (ways : List Wy) (ao : Option Addr) (co : Nat) (order : List Int) :
    Cm Try.prog 4 [.int .i64 nodes, .slice aw ways.length cw, .slice ao order.length co] [] [waysF (.slice aw ways.length cw) ways, slF encI 1 (.slice ao order.length co) order] (rets (.bool true)) := by
  refine cm_of (tab := tb) (ok := tbOk) [.o (.v (.int .i64 nodes)), .o (.v (.slice aw ways.length cw)), .o (.v (.slice ao order.length co))] Try.func4 Try.ntmps4 rfl rfl (fun _ _ => rfl) ?_
  intro w0 A0
  refine brB_dec (fun h1 => ?_) (fun h1 => ?_)
  · refine ojs_call [] [] rfl rfl rfl rfl rfl rfl rfl (by simp) (fun _ => works_c) (by simp) (.inl rfl) ?_
    rintro e cs F1 _ ⟨rfl, rfl⟩
    exact endR_ok [] rfl rfl ⟨rfl, rfl⟩ rfl (fun _ => ⟨rfl, rfl⟩) (by simp)
  refine brB_dec (fun h2 => ?_) (fun h2 => ?_)
  · refine ojs_call [] [] rfl rfl rfl rfl rfl rfl rfl (by simp) (fun _ => works_c) (by simp) (.inl rfl) ?_
    rintro e cs F1 _ ⟨rfl, rfl⟩
    exact endR_ok [] rfl rfl ⟨rfl, rfl⟩ rfl (fun _ => ⟨rfl, rfl⟩) (by simp)
  refine brB_dec (fun h3 => ?_) (fun h3 => ?_)
  · refine ojs_call [] [] rfl rfl rfl rfl rfl rfl rfl (by simp) (fun _ => works_c) (by simp) (.inl rfl) ?_
    rintro e cs F1 _ ⟨rfl, rfl⟩
    exact endR_ok [] rfl rfl ⟨rfl, rfl⟩ rfl (fun _ => ⟨rfl, rfl⟩) (by simp)
  refine brB_dec (fun h4 => ?_) (fun h4 => ?_)
  · refine ojs_call [] [] rfl rfl rfl rfl rfl rfl rfl (by simp) (fun _ => works_c) (by simp) (.inl rfl) ?_
    rintro e cs F1 _ ⟨rfl, rfl⟩
    exact endR_ok [] rfl rfl ⟨rfl, rfl⟩ rfl (fun _ => ⟨rfl, rfl⟩) (by simp)
  refine brB_dec (fun h5 => ?_) (fun h5 => ?_)
  · refine ojs_call [] [] rfl rfl rfl rfl rfl rfl rfl (by simp) (fun _ => works_c) (by simp) (.inl rfl) ?_
    rintro e cs F1 _ ⟨rfl, rfl⟩
    exact endR_ok [] rfl rfl ⟨rfl, rfl⟩ rfl (fun _ => ⟨rfl, rfl⟩) (by simp)
  obtain ⟨N, rfl⟩ : ∃ N : Nat, nodes = N := ⟨nodes.toNat, by omega⟩
  obtain ⟨W, hW⟩ : ∃ W, W = ways.length := ⟨_, rfl⟩
  rw [← hW] at h3 h4 ⊢
  have hN : 1 ≤ N ∧ N ≤ 20 := by omega
  have hW8 : 1 ≤ W ∧ W ≤ 8 := by omega
  have hO : order.length ≤ 40 := by omega
  clear h1 h2 h3 h4 h5
  refine ojs_makeSlice (m := N) rfl rfl rfl rfl rfl rfl rfl rfl rfl (by omega) (by simp [maxLen]; omega) ?_
  intro a8
  rw [madeNil, ← outM_zero (W := W) (g := fun _ => 0)]
  refine cjs_ownAddr 1 rfl (by omega) ?_
  rintro ga rfl
  refine cjs_weak (wk_own 44 3) ?_
  have hmade : (madeCells ([0, 1].map zdec).toArray (W * 2)).toList = (List.replicate W (false, 0)).flatMap encR := made_flat (enc := encR) (z := (false, 0)) (by decide) rfl W
  refine cjs_loopT (γ := Nat × (Nat → Nat)) (fun x => x.1 ≤ N) (fun x => [(9, .o (.v (.int .i64 x.1)))])
    (fun x => [(2, .own (.slice none 0 0) 44 3 0 []), (1, .own (.slice (some ⟨ga, 0, none⟩) N N) 37 1 N (outM N W x.1 x.2)), (0, .c [.v (.int .i64 N), .v (.int .i64 W), .v (.int .i64 1)] 23)] ++ famF 42 2 encR 3 W x.2 (rowM W zeroM) x.1)
    (fun x => x.1 + 3) (fun _ => []) (fun x => N - x.1) (0, fun _ => 0) (Nat.zero_le _) (wk_fam (by repeat' (first | exact trivial | exact Or.inl rfl | refine Or.inr ⟨?_, ?_⟩ | rfl | refine ⟨?_, ?_⟩ | exact lt_all_v)) (by repeat' (first | exact trivial | exact Or.inl rfl | refine Or.inr ⟨?_, ?_⟩ | rfl | refine ⟨?_, ?_⟩ | exact lt_all_v)) (fun j hj => absurd hj (Nat.not_lt_zero _)) (by simp) (fun A w h => h) (by simp) D_nil) ?_
  · rintro ⟨i, g⟩ hi
    simp only at hi
    refine brB_dec (fun h => ?_) (fun h => ?_)
    · have hiN : i < N := by dsimp only at h; omega
      refine ojs_makeSlice (m := W) rfl rfl rfl rfl rfl rfl rfl rfl rfl (by omega) (by simp [maxLen]; omega) ?_
      intro a1
      rw [hmade, ← rowM_zero (j := i)]
      refine ojs_ownAddr (i + 3) (alook_head _ _ _) (by omega) ?_
      rintro b1 rfl
      refine ojs_index (i := i) rfl hiN rfl rfl rfl rfl ?_
      refine ojs_storeW (xs := [.slice (some ⟨b1, 0, none⟩) W W]) (cells' := outM N W (i + 1) (updG g i b1)) 1 rfl rfl rfl rfl rfl rfl rfl (by omega) rfl (by dsimp only; rw [outM_len]; simp; omega) (by simp [Value.oneCell']) (by dsimp only; rw [Nat.zero_add, Nat.mul_one]; exact outM_set hiN) ?_
      refine ojs_arith (z := ((i + 1 : Nat) : Int)) (by first | decide | (rw [wrap_in] <;> omega) | (dsimp only; rw [wrap_in] <;> omega)) rfl rfl rfl rfl ?_
      refine ⟨(i + 1, updG g i b1), (by first | omega | (dsimp only; omega)), (by first | omega | (dsimp only; omega)), wk_fam (by repeat' (first | exact trivial | exact Or.inl rfl | refine Or.inr ⟨?_, ?_⟩ | rfl | refine ⟨?_, ?_⟩ | exact lt_all_v)) (by repeat' (first | exact trivial | exact Or.inl rfl | refine Or.inr ⟨?_, ?_⟩ | rfl | refine ⟨?_, ?_⟩ | exact lt_all_v)) (fun j hj => ?_) (Nat.le_refl _) (fun A w h => h) (by simp) D_nil⟩
      dsimp only
      rcases Nat.lt_succ_iff_lt_or_eq.1 hj with h | rfl
      · rw [alook_cons, if_neg (by omega), alook_cons, if_neg (by omega), updG_ne (by omega)]
        exact fam_look rfl h
      · rw [alook_cons, if_neg (by omega), updG_eq]
        exact alook_head _ _ _
    · obtain rfl : i = N := by dsimp only at h; omega
      refine cjs_loopT (γ := Nat × Mx × (Nat → Option Bk) × Option Addr × Nat) (fun x => x.1 ≤ W ∧ (∀ q, q < x.1 → DoneC i q x.2.1 (x.2.2.1 q)) ∧ ∀ q, x.1 ≤ q → q < W → ∀ j, j < i → x.2.1 j q = (false, 0))
        (fun x => [(10, .o (.v (.slice x.2.2.2.1 ((List.range x.1).filterMap x.2.2.1).length x.2.2.2.2))), (11, .o (.v (.int .i64 x.1)))])
        (fun x => [(2, .own (.slice x.2.2.2.1 ((List.range x.1).filterMap x.2.2.1).length x.2.2.2.2) 44 3 ((List.range x.1).filterMap x.2.2.1).length (((List.range x.1).filterMap x.2.2.1).flatMap encB)), (1, .own (.slice (some ⟨ga, 0, none⟩) i i) 37 1 i (outM i W i g)), (0, .c [.v (.int .i64 i), .v (.int .i64 W), .v (.int .i64 1)] 23)] ++ famF 42 2 encR 3 W g (rowM W x.2.1) i)
        (fun _ => i + 3) (fun _ => []) (fun x => W - x.1) (0, zeroM, fun _ => none, none, 0) ⟨Nat.zero_le _, fun q hq => by omega, fun _ _ _ _ _ => rfl⟩ (wk_fam (by repeat' (first | exact trivial | exact Or.inl rfl | refine Or.inr ⟨?_, ?_⟩ | rfl | refine ⟨?_, ?_⟩ | exact lt_all_v)) (by repeat' (first | exact trivial | exact Or.inl rfl | refine Or.inr ⟨?_, ?_⟩ | rfl | refine ⟨?_, ?_⟩ | exact lt_all_v)) (fun j hj => fam_look rfl hj) (Nat.le_refl _) (fun A w h => h) (by simp) D_nil) ?_
      rintro ⟨k, M, res, a2, c2⟩ ⟨hk, hdone, hzero⟩
      simp only at hk hdone hzero
      refine brB_dec (fun h2 => ?_) (fun h2 => ?_)
      · have hkW : k < W := by dsimp only at h2; omega
        obtain ⟨y, hy⟩ := at_some (xs := ways) (k := k) (by omega)
        refine cjs_ex _ (fun A w hF => waysF_at hy A w (hF (waysF (.slice aw W cw) ways) (by simp))) ?_
        rintro ⟨b, off, ra, rc⟩ (rfl : aw = some ⟨b, off, none⟩)
        refine cjs_loopT (γ := Nat × Nat × Nat × Nat × Mx) (fun x => x.1 ≤ y.1.length ∧ x.1 ≤ 40 ∧ x.2.1 < i ∧ x.2.2.1 < i ∧ x.2.2.2.1 ≤ x.1 ∧ ColI i k M x.2.2.2.2 x.2.2.1 x.2.2.2.1)
          (fun x => [(12, .o (.v (.int .i64 x.2.1))), (13, .o (.v (.int .i64 x.2.2.1))), (14, .o (.v (.int .i64 x.2.2.2.1))), (15, .o (.v (.int .i64 x.1)))])
          (fun x => [(2, .own (.slice a2 ((List.range k).filterMap res).length c2) 44 3 ((List.range k).filterMap res).length (((List.range k).filterMap res).flatMap encB)), (1, .own (.slice (some ⟨ga, 0, none⟩) i i) 37 1 i (outM i W i g)), (0, .c [.v (.int .i64 i), .v (.int .i64 W), .v (.int .i64 1)] 23)] ++ famF 42 2 encR 3 W g (rowM W x.2.2.2.2) i)
          (fun _ => i + 3) (fun _ => []) (fun x => y.1.length - x.1) (0, 0, 0, 0, M) ⟨Nat.zero_le _, Nat.zero_le _, by dsimp only; omega, by dsimp only; omega, Nat.le_refl _, ColI.init fun j hj => hzero k (Nat.le_refl _) hkW j hj⟩ (wk_fam (by repeat' (first | exact trivial | exact Or.inl rfl | refine Or.inr ⟨?_, ?_⟩ | rfl | refine ⟨?_, ?_⟩ | exact lt_all_v)) (by repeat' (first | exact trivial | exact Or.inl rfl | refine Or.inr ⟨?_, ?_⟩ | rfl | refine ⟨?_, ?_⟩ | exact lt_all_v)) (fun j hj => fam_look rfl hj) (Nat.le_refl _) (fun A w h => h) (by simp) D_nil) ?_
        rintro ⟨n, at_, frm, hop, M'⟩ ⟨hn1, hn2, hat, hfr, hhop, hcol⟩
        simp only at hn1 hn2 hat hfr hhop hcol
        refine ojs_index (i := k) rfl (by omega) rfl rfl rfl rfl ?_
        refine ojs_load1 (celF b (off + k * 2) (.slice ra y.1.length rc)) (by simp) celF_at rfl rfl rfl ?_
        refine brB_dec (fun h3 => ?_) (fun h3 => ?_)
        · refine brB_dec (fun h4 => ?_) (fun h4 => ?_)
          · have hny : n < y.1.length := by dsimp only at h3; omega
            have hn40 : n < 40 := by dsimp only at h4; omega
            obtain ⟨z, hz⟩ := at_some (xs := y.1) (k := n) hny
            refine ojs_index (i := k) rfl (by omega) rfl rfl rfl rfl ?_
            refine ojs_load1 (celF b (off + k * 2) (.slice ra y.1.length rc)) (by simp) celF_at rfl rfl rfl ?_
            refine ojs_fact (slF encI 1 (.slice ra y.1.length rc) y.1) (by simp) (slF_ne hz) ?_
            rintro ⟨b3, o3, rfl⟩
            refine ojs_index (i := n) rfl hny rfl rfl rfl rfl ?_
            refine ojs_load1 (slF encI 1 (.slice (some ⟨b3, o3, none⟩) y.1.length rc) y.1) (by simp) (slF_at hz (j := 0) rfl) rfl rfl rfl ?_
            refine brB_dec (fun h5 => ?_) (fun h5 => ?_)
            · refine ojs_arith (z := ((n + 1 : Nat) : Int)) (by first | decide | (rw [wrap_in] <;> omega) | (dsimp only; rw [wrap_in] <;> omega)) rfl rfl rfl rfl ?_
              exact ⟨(n + 1, at_, frm, hop, M'), ⟨(by first | omega | (dsimp only; omega)), (by first | omega | (dsimp only; omega)), hat, hfr, (by first | omega | (dsimp only; omega)), hcol⟩, (by first | omega | (dsimp only; omega)), wk_fam (by repeat' (first | exact trivial | exact Or.inl rfl | refine Or.inr ⟨?_, ?_⟩ | rfl | refine ⟨?_, ?_⟩ | exact lt_all_v)) (by repeat' (first | exact trivial | exact Or.inl rfl | refine Or.inr ⟨?_, ?_⟩ | rfl | refine ⟨?_, ?_⟩ | exact lt_all_v)) (fun j hj => fam_look rfl hj) (Nat.le_refl _) (fun A w h => h) (by simp) D_nil⟩
            refine brB_dec (fun h6 => ?_) (fun h6 => ?_)
            · refine ojs_arith (z := ((n + 1 : Nat) : Int)) (by first | decide | (rw [wrap_in] <;> omega) | (dsimp only; rw [wrap_in] <;> omega)) rfl rfl rfl rfl ?_
              exact ⟨(n + 1, at_, frm, hop, M'), ⟨(by first | omega | (dsimp only; omega)), (by first | omega | (dsimp only; omega)), hat, hfr, (by first | omega | (dsimp only; omega)), hcol⟩, (by first | omega | (dsimp only; omega)), wk_fam (by repeat' (first | exact trivial | exact Or.inl rfl | refine Or.inr ⟨?_, ?_⟩ | rfl | refine ⟨?_, ?_⟩ | exact lt_all_v)) (by repeat' (first | exact trivial | exact Or.inl rfl | refine Or.inr ⟨?_, ?_⟩ | rfl | refine ⟨?_, ?_⟩ | exact lt_all_v)) (fun j hj => fam_look rfl hj) (Nat.le_refl _) (fun A w h => h) (by simp) D_nil⟩
            refine brB_split (fun h7 => ?_) (fun h7 => ?_)
            · refine ojs_arith (z := ((n + 1 : Nat) : Int)) (by first | decide | (rw [wrap_in] <;> omega) | (dsimp only; rw [wrap_in] <;> omega)) rfl rfl rfl rfl ?_
              exact ⟨(n + 1, at_, frm, hop, M'), ⟨(by first | omega | (dsimp only; omega)), (by first | omega | (dsimp only; omega)), hat, hfr, (by first | omega | (dsimp only; omega)), hcol⟩, (by first | omega | (dsimp only; omega)), wk_fam (by repeat' (first | exact trivial | exact Or.inl rfl | refine Or.inr ⟨?_, ?_⟩ | rfl | refine ⟨?_, ?_⟩ | exact lt_all_v)) (by repeat' (first | exact trivial | exact Or.inl rfl | refine Or.inr ⟨?_, ?_⟩ | rfl | refine ⟨?_, ?_⟩ | exact lt_all_v)) (fun j hj => fam_look rfl hj) (Nat.le_refl _) (fun A w h => h) (by simp) D_nil⟩
            obtain ⟨zt, rfl⟩ : ∃ zt : Nat, z = zt := ⟨z.toNat, by omega⟩
            have hto : zt < i := by omega
            refine ojs_arith (z := ((hop + 1 : Nat) : Int)) (by dsimp only; rw [wrap_in] <;> omega) rfl rfl rfl rfl ?_
            refine ojs_index (i := at_) rfl hat rfl rfl rfl rfl ?_
            refine ojs_loadW (u := .o (.v (.slice (some ⟨g at_, 0, none⟩) W W))) 1 rfl rfl rfl rfl (by omega) (by simp only [partS, Nat.zero_add, Nat.mul_one, List.getElem?_map, outM_at hat, Option.map_some]; rfl) ?_
            refine ojs_index (i := k) rfl hkW rfl rfl rfl rfl ?_
            have hrow : rowM W (updM M' at_ k (false, ((hop + 1 : Nat) : Int))) at_ = (rowM W M' at_).set k ((M' at_ k).1, ((hop + 1 : Nat) : Int)) := by
              rw [rowM_upd, if_pos rfl, (hcol.fl at_ hat).1]
            refine ojs_storeW (xs := [.int .i64 ((hop + 1 : Nat) : Int)]) (cells' := (rowM W (updM M' at_ k (false, ((hop + 1 : Nat) : Int))) at_).flatMap encR) (at_ + 3) (fam_look rfl hat) rfl rfl rfl rfl rfl rfl (by omega) rfl (by rw [flat_len encR_len, rowM_len]; simp; omega) (by simp [Value.oneCell']) (by rw [Nat.zero_add, hrow]; exact flat_hop _ _ k _ (rowM_at hkW)) ?_
            refine ojs_arith (z := ((n + 1 : Nat) : Int)) (by first | decide | (rw [wrap_in] <;> omega) | (dsimp only; rw [wrap_in] <;> omega)) rfl rfl rfl rfl ?_
            refine ⟨(n + 1, zt, at_, hop + 1, updM M' at_ k (false, ((hop + 1 : Nat) : Int))), ⟨(by first | omega | (dsimp only; omega)), (by first | omega | (dsimp only; omega)), hto, hat, (by first | omega | (dsimp only; omega)), hcol.step⟩, (by first | omega | (dsimp only; omega)), wk_fam (by repeat' (first | exact trivial | exact Or.inl rfl | refine Or.inr ⟨?_, ?_⟩ | rfl | refine ⟨?_, ?_⟩ | exact lt_all_v)) (by repeat' (first | exact trivial | exact Or.inl rfl | refine Or.inr ⟨?_, ?_⟩ | rfl | refine ⟨?_, ?_⟩ | exact lt_all_v)) (fun j hj => ?_) (Nat.le_refl _) (fun A w h => h) (by simp) D_nil⟩
            dsimp only
            by_cases hj2 : j = at_
            · subst hj2
              exact alook_head _ _ _
            · rw [alook_cons, if_neg (by omega), rowM_upd, if_neg hj2]
              exact fam_look rfl hj
          · refine brB_split (fun h0 => ?_) (fun h0 => ?_)
            · refine ojs_index (i := at_) rfl hat rfl rfl rfl rfl ?_
              refine ojs_loadW (u := .o (.v (.slice (some ⟨g at_, 0, none⟩) W W))) 1 rfl rfl rfl rfl (by omega) (by simp only [partS, Nat.zero_add, Nat.mul_one, List.getElem?_map, outM_at hat, Option.map_some]; rfl) ?_
              refine ojs_index (i := k) rfl hkW rfl rfl rfl rfl ?_
              have hrow : rowM W (updM M' at_ k (true, (hop : Int))) at_ = (rowM W M' at_).set k (true, (hop : Int)) := by
                rw [rowM_upd, if_pos rfl]
              refine ojs_storeW (xs := [.bool true, .int .i64 hop]) (cells' := (rowM W (updM M' at_ k (true, (hop : Int))) at_).flatMap encR) (at_ + 3) (fam_look rfl hat) rfl rfl rfl rfl rfl rfl (by omega) rfl (by rw [flat_len encR_len, rowM_len]; simp; omega) (by simp [Value.oneCell']) (by rw [Nat.zero_add, hrow]; exact flat_set encR_len (true, (hop : Int)) (rowM W M' at_) k (by rw [rowM_len]; exact hkW)) ?_
              refine ojs_arith (z := ((k + 1 : Nat) : Int)) (by first | decide | (rw [wrap_in] <;> omega) | (dsimp only; rw [wrap_in] <;> omega)) rfl rfl rfl rfl ?_
              have e1 := wantR_succ (res := res) (k := k) (v := none)
              rw [Option.toList_none, List.append_nil] at e1
              refine ⟨(k + 1, updM M' at_ k (true, (hop : Int)), updR res k none, a2, c2), ⟨(by first | omega | (dsimp only; omega)), fun q hq => ?_, fun q hq1 hq2 j hj => ?_⟩, (by first | omega | (dsimp only; omega)), ?_⟩
              · dsimp only at hq ⊢
                by_cases hqk : q = k
                · subst hqk
                  unfold updR
                  rw [if_pos rfl]
                  exact hcol.arr hat (by omega)
                · unfold updR
                  rw [if_neg hqk]
                  exact DoneC_congr (fun j => by rw [updM_oth hqk]; exact hcol.oth j q hqk) (hdone q (by omega))
              · dsimp only at hq1 ⊢
                rw [updM_oth (by omega), hcol.oth j q (by omega)]
                exact hzero q (by omega) hq2 j hj
              · dsimp only
                rw [e1]
                refine wk_fam (by repeat' (first | exact trivial | exact Or.inl rfl | refine Or.inr ⟨?_, ?_⟩ | rfl | refine ⟨?_, ?_⟩ | exact lt_all_v)) (by repeat' (first | exact trivial | exact Or.inl rfl | refine Or.inr ⟨?_, ?_⟩ | rfl | refine ⟨?_, ?_⟩ | exact lt_all_v)) (fun j hj => ?_) (Nat.le_refl _) (fun A w h f hf => h f (by simp at hf ⊢; simp [hf])) (by simp) D_nil
                by_cases hj2 : j = at_
                · subst hj2
                  exact alook_head _ _ _
                · rw [alook_cons, if_neg (by omega), rowM_upd, if_neg hj2]
                  exact fam_look rfl hj
            refine ojs_index (i := k) rfl (by omega) rfl rfl rfl rfl ?_
            refine ojs_load1 (celF b (off + k * 2 + 1) (.bool y.2)) (by simp) celF_at rfl rfl rfl ?_
            refine brB_split (fun h6 => ?_) (fun h6 => ?_)
            · refine ojs_index (i := at_) rfl hat rfl rfl rfl rfl ?_
              refine ojs_loadW (u := .o (.v (.slice (some ⟨g at_, 0, none⟩) W W))) 1 rfl rfl rfl rfl (by omega) (by simp only [partS, Nat.zero_add, Nat.mul_one, List.getElem?_map, outM_at hat, Option.map_some]; rfl) ?_
              refine ojs_index (i := k) rfl hkW rfl rfl rfl rfl ?_
              have hrow : rowM W (updM M' at_ k (true, (hop : Int))) at_ = (rowM W M' at_).set k (true, (hop : Int)) := by
                rw [rowM_upd, if_pos rfl]
              refine ojs_storeW (xs := [.bool true, .int .i64 hop]) (cells' := (rowM W (updM M' at_ k (true, (hop : Int))) at_).flatMap encR) (at_ + 3) (fam_look rfl hat) rfl rfl rfl rfl rfl rfl (by omega) rfl (by rw [flat_len encR_len, rowM_len]; simp; omega) (by simp [Value.oneCell']) (by rw [Nat.zero_add, hrow]; exact flat_set encR_len (true, (hop : Int)) (rowM W M' at_) k (by rw [rowM_len]; exact hkW)) ?_
              refine ojs_arith (z := ((k + 1 : Nat) : Int)) (by first | decide | (rw [wrap_in] <;> omega) | (dsimp only; rw [wrap_in] <;> omega)) rfl rfl rfl rfl ?_
              have e1 := wantR_succ (res := res) (k := k) (v := none)
              rw [Option.toList_none, List.append_nil] at e1
              refine ⟨(k + 1, updM M' at_ k (true, (hop : Int)), updR res k none, a2, c2), ⟨(by first | omega | (dsimp only; omega)), fun q hq => ?_, fun q hq1 hq2 j hj => ?_⟩, (by first | omega | (dsimp only; omega)), ?_⟩
              · dsimp only at hq ⊢
                by_cases hqk : q = k
                · subst hqk
                  unfold updR
                  rw [if_pos rfl]
                  exact hcol.arr hat (by omega)
                · unfold updR
                  rw [if_neg hqk]
                  exact DoneC_congr (fun j => by rw [updM_oth hqk]; exact hcol.oth j q hqk) (hdone q (by omega))
              · dsimp only at hq1 ⊢
                rw [updM_oth (by omega), hcol.oth j q (by omega)]
                exact hzero q (by omega) hq2 j hj
              · dsimp only
                rw [e1]
                refine wk_fam (by repeat' (first | exact trivial | exact Or.inl rfl | refine Or.inr ⟨?_, ?_⟩ | rfl | refine ⟨?_, ?_⟩ | exact lt_all_v)) (by repeat' (first | exact trivial | exact Or.inl rfl | refine Or.inr ⟨?_, ?_⟩ | rfl | refine ⟨?_, ?_⟩ | exact lt_all_v)) (fun j hj => ?_) (Nat.le_refl _) (fun A w h f hf => h f (by simp at hf ⊢; simp [hf])) (by simp) D_nil
                by_cases hj2 : j = at_
                · subst hj2
                  exact alook_head _ _ _
                · rw [alook_cons, if_neg (by omega), rowM_upd, if_neg hj2]
                  exact fam_look rfl hj
            have h0 : 0 < hop := by simp at h0; omega
            have hwl := wantR_len (res := res) (k := k)
            refine ojs_append 2 rfl rfl rfl rfl rfl rfl rfl rfl rfl (by omega) rfl rfl rfl (srcL (q := i + 3) (news := [.int .i64 k, .int .i64 frm, .int .i64 hop]) rfl (alook_head _ _ _)) rfl (by simp [Value.oneCell']) (by omega) (by simp [maxLen]; omega) ?_
            intro a4 c4
            refine ojs_arith (z := ((k + 1 : Nat) : Int)) (by first | decide | (rw [wrap_in] <;> omega) | (dsimp only; rw [wrap_in] <;> omega)) rfl rfl rfl rfl ?_
            have e1 := wantR_succ (res := res) (k := k) (v := some ((k : Int), (frm : Int), (hop : Int)))
            have e2 : ((List.range (k + 1)).filterMap (updR res k (some ((k : Int), (frm : Int), (hop : Int))))).length = ((List.range k).filterMap res).length + 1 := by rw [e1]; simp
            have e3 : ((List.range (k + 1)).filterMap (updR res k (some ((k : Int), (frm : Int), (hop : Int))))).flatMap encB = ((List.range k).filterMap res).flatMap encB ++ [.int .i64 k, .int .i64 frm, .int .i64 hop] := by rw [e1, List.flatMap_append]; rfl
            refine ⟨(k + 1, M', updR res k (some ((k : Int), (frm : Int), (hop : Int))), a4, c4), ⟨(by first | omega | (dsimp only; omega)), fun q hq => ?_, fun q hq1 hq2 j hj => ?_⟩, (by first | omega | (dsimp only; omega)), ?_⟩
            · dsimp only at hq ⊢
              by_cases hqk : q = k
              · subst hqk
                unfold updR
                rw [if_pos rfl]
                exact hcol.lost hfr h0 (by omega)
              · unfold updR
                rw [if_neg hqk]
                exact DoneC_congr (fun j => hcol.oth j q hqk) (hdone q (by omega))
            · dsimp only at hq1 ⊢
              rw [hcol.oth j q (by omega)]
              exact hzero q (by omega) hq2 j hj
            · dsimp only
              rw [e2, e3]
              refine wk_fam (by repeat' (first | exact trivial | exact Or.inl rfl | refine Or.inr ⟨?_, ?_⟩ | rfl | refine ⟨?_, ?_⟩ | exact lt_all_v)) (by repeat' (first | exact trivial | exact Or.inl rfl | refine Or.inr ⟨?_, ?_⟩ | rfl | refine ⟨?_, ?_⟩ | exact lt_all_v)) (fun j hj => ?_) (Nat.le_refl _) (fun A w h f hf => h f (by simp at hf ⊢; simp [hf])) (by simp) D_nil
              rw [alook_cons, if_neg (by omega), alook_cons, if_neg (by omega)]
              exact fam_look rfl hj
        · refine brB_split (fun h0 => ?_) (fun h0 => ?_)
          · refine ojs_index (i := at_) rfl hat rfl rfl rfl rfl ?_
            refine ojs_loadW (u := .o (.v (.slice (some ⟨g at_, 0, none⟩) W W))) 1 rfl rfl rfl rfl (by omega) (by simp only [partS, Nat.zero_add, Nat.mul_one, List.getElem?_map, outM_at hat, Option.map_some]; rfl) ?_
            refine ojs_index (i := k) rfl hkW rfl rfl rfl rfl ?_
            have hrow : rowM W (updM M' at_ k (true, (hop : Int))) at_ = (rowM W M' at_).set k (true, (hop : Int)) := by
              rw [rowM_upd, if_pos rfl]
            refine ojs_storeW (xs := [.bool true, .int .i64 hop]) (cells' := (rowM W (updM M' at_ k (true, (hop : Int))) at_).flatMap encR) (at_ + 3) (fam_look rfl hat) rfl rfl rfl rfl rfl rfl (by omega) rfl (by rw [flat_len encR_len, rowM_len]; simp; omega) (by simp [Value.oneCell']) (by rw [Nat.zero_add, hrow]; exact flat_set encR_len (true, (hop : Int)) (rowM W M' at_) k (by rw [rowM_len]; exact hkW)) ?_
            refine ojs_arith (z := ((k + 1 : Nat) : Int)) (by first | decide | (rw [wrap_in] <;> omega) | (dsimp only; rw [wrap_in] <;> omega)) rfl rfl rfl rfl ?_
            have e1 := wantR_succ (res := res) (k := k) (v := none)
            rw [Option.toList_none, List.append_nil] at e1
            refine ⟨(k + 1, updM M' at_ k (true, (hop : Int)), updR res k none, a2, c2), ⟨(by first | omega | (dsimp only; omega)), fun q hq => ?_, fun q hq1 hq2 j hj => ?_⟩, (by first | omega | (dsimp only; omega)), ?_⟩
            · dsimp only at hq ⊢
              by_cases hqk : q = k
              · subst hqk
                unfold updR
                rw [if_pos rfl]
                exact hcol.arr hat (by omega)
              · unfold updR
                rw [if_neg hqk]
                exact DoneC_congr (fun j => by rw [updM_oth hqk]; exact hcol.oth j q hqk) (hdone q (by omega))
            · dsimp only at hq1 ⊢
              rw [updM_oth (by omega), hcol.oth j q (by omega)]
              exact hzero q (by omega) hq2 j hj
            · dsimp only
              rw [e1]
              refine wk_fam (by repeat' (first | exact trivial | exact Or.inl rfl | refine Or.inr ⟨?_, ?_⟩ | rfl | refine ⟨?_, ?_⟩ | exact lt_all_v)) (by repeat' (first | exact trivial | exact Or.inl rfl | refine Or.inr ⟨?_, ?_⟩ | rfl | refine ⟨?_, ?_⟩ | exact lt_all_v)) (fun j hj => ?_) (Nat.le_refl _) (fun A w h f hf => h f (by simp at hf ⊢; simp [hf])) (by simp) D_nil
              by_cases hj2 : j = at_
              · subst hj2
                exact alook_head _ _ _
              · rw [alook_cons, if_neg (by omega), rowM_upd, if_neg hj2]
                exact fam_look rfl hj
          refine ojs_index (i := k) rfl (by omega) rfl rfl rfl rfl ?_
          refine ojs_load1 (celF b (off + k * 2 + 1) (.bool y.2)) (by simp) celF_at rfl rfl rfl ?_
          refine brB_split (fun h6 => ?_) (fun h6 => ?_)
          · refine ojs_index (i := at_) rfl hat rfl rfl rfl rfl ?_
            refine ojs_loadW (u := .o (.v (.slice (some ⟨g at_, 0, none⟩) W W))) 1 rfl rfl rfl rfl (by omega) (by simp only [partS, Nat.zero_add, Nat.mul_one, List.getElem?_map, outM_at hat, Option.map_some]; rfl) ?_
            refine ojs_index (i := k) rfl hkW rfl rfl rfl rfl ?_
            have hrow : rowM W (updM M' at_ k (true, (hop : Int))) at_ = (rowM W M' at_).set k (true, (hop : Int)) := by
              rw [rowM_upd, if_pos rfl]
            refine ojs_storeW (xs := [.bool true, .int .i64 hop]) (cells' := (rowM W (updM M' at_ k (true, (hop : Int))) at_).flatMap encR) (at_ + 3) (fam_look rfl hat) rfl rfl rfl rfl rfl rfl (by omega) rfl (by rw [flat_len encR_len, rowM_len]; simp; omega) (by simp [Value.oneCell']) (by rw [Nat.zero_add, hrow]; exact flat_set encR_len (true, (hop : Int)) (rowM W M' at_) k (by rw [rowM_len]; exact hkW)) ?_
            refine ojs_arith (z := ((k + 1 : Nat) : Int)) (by first | decide | (rw [wrap_in] <;> omega) | (dsimp only; rw [wrap_in] <;> omega)) rfl rfl rfl rfl ?_
            have e1 := wantR_succ (res := res) (k := k) (v := none)
            rw [Option.toList_none, List.append_nil] at e1
            refine ⟨(k + 1, updM M' at_ k (true, (hop : Int)), updR res k none, a2, c2), ⟨(by first | omega | (dsimp only; omega)), fun q hq => ?_, fun q hq1 hq2 j hj => ?_⟩, (by first | omega | (dsimp only; omega)), ?_⟩
            · dsimp only at hq ⊢
              by_cases hqk : q = k
              · subst hqk
                unfold updR
                rw [if_pos rfl]
                exact hcol.arr hat (by omega)
              · unfold updR
                rw [if_neg hqk]
                exact DoneC_congr (fun j => by rw [updM_oth hqk]; exact hcol.oth j q hqk) (hdone q (by omega))
            · dsimp only at hq1 ⊢
              rw [updM_oth (by omega), hcol.oth j q (by omega)]
              exact hzero q (by omega) hq2 j hj
            · dsimp only
              rw [e1]
              refine wk_fam (by repeat' (first | exact trivial | exact Or.inl rfl | refine Or.inr ⟨?_, ?_⟩ | rfl | refine ⟨?_, ?_⟩ | exact lt_all_v)) (by repeat' (first | exact trivial | exact Or.inl rfl | refine Or.inr ⟨?_, ?_⟩ | rfl | refine ⟨?_, ?_⟩ | exact lt_all_v)) (fun j hj => ?_) (Nat.le_refl _) (fun A w h f hf => h f (by simp at hf ⊢; simp [hf])) (by simp) D_nil
              by_cases hj2 : j = at_
              · subst hj2
                exact alook_head _ _ _
              · rw [alook_cons, if_neg (by omega), rowM_upd, if_neg hj2]
                exact fam_look rfl hj
          have h0 : 0 < hop := by simp at h0; omega
          have hwl := wantR_len (res := res) (k := k)
          refine ojs_append 2 rfl rfl rfl rfl rfl rfl rfl rfl rfl (by omega) rfl rfl rfl (srcL (q := i + 3) (news := [.int .i64 k, .int .i64 frm, .int .i64 hop]) rfl (alook_head _ _ _)) rfl (by simp [Value.oneCell']) (by omega) (by simp [maxLen]; omega) ?_
          intro a4 c4
          refine ojs_arith (z := ((k + 1 : Nat) : Int)) (by first | decide | (rw [wrap_in] <;> omega) | (dsimp only; rw [wrap_in] <;> omega)) rfl rfl rfl rfl ?_
          have e1 := wantR_succ (res := res) (k := k) (v := some ((k : Int), (frm : Int), (hop : Int)))
          have e2 : ((List.range (k + 1)).filterMap (updR res k (some ((k : Int), (frm : Int), (hop : Int))))).length = ((List.range k).filterMap res).length + 1 := by rw [e1]; simp
          have e3 : ((List.range (k + 1)).filterMap (updR res k (some ((k : Int), (frm : Int), (hop : Int))))).flatMap encB = ((List.range k).filterMap res).flatMap encB ++ [.int .i64 k, .int .i64 frm, .int .i64 hop] := by rw [e1, List.flatMap_append]; rfl
          refine ⟨(k + 1, M', updR res k (some ((k : Int), (frm : Int), (hop : Int))), a4, c4), ⟨(by first | omega | (dsimp only; omega)), fun q hq => ?_, fun q hq1 hq2 j hj => ?_⟩, (by first | omega | (dsimp only; omega)), ?_⟩
          · dsimp only at hq ⊢
            by_cases hqk : q = k
            · subst hqk
              unfold updR
              rw [if_pos rfl]
              exact hcol.lost hfr h0 (by omega)
            · unfold updR
              rw [if_neg hqk]
              exact DoneC_congr (fun j => hcol.oth j q hqk) (hdone q (by omega))
          · dsimp only at hq1 ⊢
            rw [hcol.oth j q (by omega)]
            exact hzero q (by omega) hq2 j hj
          · dsimp only
            rw [e2, e3]
            refine wk_fam (by repeat' (first | exact trivial | exact Or.inl rfl | refine Or.inr ⟨?_, ?_⟩ | rfl | refine ⟨?_, ?_⟩ | exact lt_all_v)) (by repeat' (first | exact trivial | exact Or.inl rfl | refine Or.inr ⟨?_, ?_⟩ | rfl | refine ⟨?_, ?_⟩ | exact lt_all_v)) (fun j hj => ?_) (Nat.le_refl _) (fun A w h f hf => h f (by simp at hf ⊢; simp [hf])) (by simp) D_nil
            rw [alook_cons, if_neg (by omega), alook_cons, if_neg (by omega)]
            exact fam_look rfl hj
      · obtain rfl : k = W := by dsimp only at h2; omega
        have hdec := decX_M hN hW8 hdone
        have hbd : ∀ j q, j < i → q < k → 0 ≤ (M j q).2 ∧ (M j q).2 ≤ 40 := fun j q hj hq => (hdone q hq).1 j hj
        have hwl := wantR_len (res := res) (k := k)
        obtain ⟨want, hwant⟩ : ∃ want, want = (List.range k).filterMap res := ⟨_, rfl⟩
        dsimp only
        rw [← hwant] at hdec hwl ⊢
        refine ojs_weak ((wk_sealFam rfl rfl encR_len (fun j => rowM_len) i _).trans ((wk_seal (m := want.length) (j := 2) (enc := encB) (xs := want) (.inl rfl) encB_len rfl rfl).trans ((wk_seal (m := i) (j := 1) (enc := encV id) (xs := outM i k i g) (.inl rfl) (fun _ => rfl) outM_len.symm (by rw [flat_id]; rfl)).trans ((wk_add (rowsF (.slice (some ⟨ga, 0, none⟩) i i) (rowsM i k M)) fun A w hF => rowsF_M (hF _ (List.mem_cons_self ..)) (hF _ (by simp))).trans (wk_down (n' := 3) (L' := [(0, .c [.v (.int .i64 i), .v (.int .i64 k), .v (.int .i64 1)] 23)]) (F' := [rowsF (.slice (some ⟨ga, 0, none⟩) i i) (rowsM i k M), slF encB 3 (.slice a2 want.length c2) want, slF encI 1 (.slice ao order.length co) order]) (by repeat' (first | exact trivial | exact Or.inl rfl | refine Or.inr ⟨?_, ?_⟩ | rfl | refine ⟨?_, ?_⟩ | exact lt_all_v)) (by repeat' (first | exact trivial | exact Or.inl rfl | refine Or.inr ⟨?_, ?_⟩ | rfl | refine ⟨?_, ?_⟩ | exact lt_all_v)) (by simp) (by simp) D_nil))))) ?_
        refine ojs_call [] [] rfl rfl rfl rfl rfl rfl rfl (by simp) (fun _ => new_c i k 1) (by simp) (.inl rfl) ?_
        rintro e cs F1 _ (⟨hs, rfl, rfl⟩ | ⟨hs, m, an, hm, rfl, rfl⟩)
        · rw [shapeB_mk (by omega) (by omega) (by omega)] at hs; cases hs
        obtain rfl : i = m := by omega
        refine ojs_call [] [] rfl rfl rfl rfl rfl rfl rfl (by simp) (fun _ => num_c _) (by simp) (.inl rfl) ?_
        rintro e cs F1 _ ⟨rfl, rfl⟩
        refine cjs_loopP (γ := Nat × (Nat → Bool) × Option Addr × Nat) (fun x => x.1 ≤ order.length + i ∧ ∀ j, j < i → j + order.length < x.1 → x.2.1 j = true) (fun x => [(19, .o (.v (.int .i64 ((List.range i).countP x.2.1)))), (20, .o (.v (.int .i64 x.1)))]) (fun x => [(3, .c [.v (.slice x.2.2.1 i x.2.2.2)] 26)]) (fun x => [rowsF (.slice x.2.2.1 i x.2.2.2) (tD i k M x.2.1)]) (fun x => order.length + i - x.1) (0, fun _ => false, an, i) ⟨Nat.zero_le _, fun j _ hj => by dsimp only at hj; omega⟩ ?_ ?_
        · dsimp only
          rw [countP_none (fun _ _ => rfl), tD_none]
          exact wk_patchF (by repeat' (first | exact trivial | exact Or.inl rfl | refine Or.inr ⟨?_, ?_⟩ | rfl | refine ⟨?_, ?_⟩ | exact lt_all_v)) (by repeat' (first | exact trivial | exact Or.inl rfl | refine Or.inr ⟨?_, ?_⟩ | rfl | refine ⟨?_, ?_⟩ | exact lt_all_v)) (fun A w h f hf => h f (by simp at hf ⊢; simp [hf])) (by simp) D_nil
        rintro ⟨u, D, a3, c3⟩ ⟨hu, hD⟩
        simp only at hu hD
        refine ojs_arith (z := ((order.length + i : Nat) : Int)) (by rw [wrap_in] <;> omega) rfl rfl rfl rfl ?_
        refine brB_dec (fun h3 => ?_) (fun h3 => ?_)
        · have hu : u < order.length + i := by dsimp only at h3; omega
          refine ojs_arith (z := (u : Int) - order.length) (by dsimp only; rw [wrap_in] <;> omega) rfl rfl rfl rfl ?_
          refine brB_dec (fun h4 => ?_) (fun h4 => ?_)
          · have hul : u < order.length := by dsimp only at h4; omega
            obtain ⟨z, hz⟩ := at_some (xs := order) (k := u) hul
            refine ojs_fact (slF encI 1 (.slice ao order.length co) order) (by simp) (slF_ne hz) ?_
            rintro ⟨b3, o3, rfl⟩
            refine ojs_index (i := u) rfl hul rfl rfl rfl rfl ?_
            refine ojs_load1 (slF encI 1 (.slice (some ⟨b3, o3, none⟩) order.length co) order) (by simp) (slF_at hz (j := 0) rfl) rfl rfl rfl ?_
            have hz2 : ∀ j : Nat, j + order.length = u → z = j := fun j hj => by omega
            obtain ⟨c, hc1, hc2, hc3⟩ := clamp_is (z := z) hN.1
            have hX := addX_M (D := D) (n := z) (r := rowM k M c) hN hW8 hbd (fun q h1 h2 => by rw [hc3 q h1 h2]) ⟨c, hc2, rfl⟩
            refine cjs_ex _ (fun A w hF => rowsF_at (rowsM_at hc2) A w (hF (rowsF (.slice (some ⟨ga, 0, none⟩) i i) (rowsM i k M)) (by simp))) ?_
            rintro ⟨b5, o5, ra5, rc5⟩ e5
            cases e5
            have hadd := add_c i k 1 a3 c3 (tD i k M D) z ra5 rc5 (rowM k M c) (fun r hr => by obtain ⟨j, _, rfl⟩ := List.mem_map.1 hr; split <;> simp [rowM_len]; omega) (by rw [rowM_len]; omega)
            rw [tD_len] at hadd
            rcases hX with ⟨q, hq, hqi, hDq, hX⟩ | ⟨hno, e, he, hX⟩
            · rw [hX] at hadd
              unfold addR at hadd
              simp only [tD_len] at hadd
              refine cjs_drawn [11, 16, 17] (.op 0 <| .op 1 <| .op 2 <| .op 3 <| .op 4 <| .op 5 <| .op 6 <| .op 7 <| .op 8 <| .op 9 <| .op 10 <| .alt (.op 11 <| .op 12 <| .op 13 <| .op 14 <| .op 15 <| .op 16 <| .op 17 <| .op 18 <| .op 19 .z) (.op 16 <| .op 11 <| .op 12 <| .op 13 <| .op 14 <| .op 15 <| .op 17 <| .op 18 <| .op 19 .z)) [0, 3] [] [] [celF b5 (0 + c * 1) (.slice ra5 (rowM k M c).length rc5)] (by kernel_rfl) (by kernel_rfl) rfl (by simp) (by simp) ?_
              intro N
              refine ⟨_, yd_arith (z := (i : Int) - 1) (by rw [wrap_in] <;> omega) rfl rfl rfl rfl, ?_⟩
              refine ⟨_, yd_min rfl rfl rfl rfl rfl, ?_⟩
              refine ⟨_, yd_max rfl rfl rfl rfl rfl, ?_⟩
              refine ⟨_, yd_index (i := c) hc1 hc2 rfl rfl rfl rfl, ?_⟩
              refine ⟨_, yd_load1 _ (List.mem_singleton.2 rfl) celF_at rfl rfl rfl, ?_⟩
              refine ⟨?_, ?_⟩
              · refine ojs_call [] [] rfl rfl rfl rfl rfl rfl rfl (by simp) (fun _ => hadd) (by simp) (.inl rfl) ?_
                rintro e cs F1 _ ⟨a6, c6, rfl, rfl⟩
                refine ⟨⟨(by repeat' (first | exact trivial | refine ⟨Or.inl rfl, ?_⟩ | refine ⟨Or.inr ⟨rfl, Nat.le_of_ble_eq_true rfl, _, rfl, rfl, rfl⟩, ?_⟩)), by simp⟩, ?_⟩
                refine ⟨⟨(by repeat' (first | exact trivial | refine ⟨Or.inl rfl, ?_⟩ | refine ⟨Or.inr ⟨rfl, Nat.le_of_ble_eq_true rfl, _, rfl, rfl, rfl⟩, ?_⟩)), by simp⟩, ?_⟩
                refine ⟨⟨(by repeat' (first | exact trivial | refine ⟨Or.inl rfl, ?_⟩ | refine ⟨Or.inr ⟨rfl, Nat.le_of_ble_eq_true rfl, _, rfl, rfl, rfl⟩, ?_⟩)), by simp⟩, ?_⟩
                refine ojs_call [] [] rfl rfl rfl rfl rfl rfl rfl (by simp) (fun _ => num_c _) (by simp) (.inl rfl) ?_
                rintro e cs F1 _ ⟨rfl, rfl⟩
                refine ojs_arith (z := (((List.range i).countP (updD D q) : Nat) : Int)) (by have := count_le (N := i) (D := D); rw [count_upd hqi hDq]; dsimp only; rw [wrap_in] <;> omega) rfl rfl rfl rfl ?_
                refine optK_of (yd_boolNe (r := false) (by kernel_rfl) natEq_dec rfl rfl rfl) ?_
                refine ojs_arith (z := ((u + 1 : Nat) : Int)) (by first | decide | (rw [wrap_in] <;> omega) | (dsimp only; rw [wrap_in] <;> omega)) rfl rfl rfl rfl ?_
                refine ⟨(u + 1, updD D q, a6, c6), ⟨(by first | omega | (dsimp only; omega)), fun j hj hju => ?_⟩, (by first | omega | (dsimp only; omega)), (wk_patch (by repeat' (first | exact trivial | exact Or.inl rfl | refine Or.inr ⟨?_, ?_⟩ | rfl | refine ⟨?_, ?_⟩ | exact lt_all_v)) (by repeat' (first | exact trivial | exact Or.inl rfl | refine Or.inr ⟨?_, ?_⟩ | rfl | refine ⟨?_, ?_⟩ | exact lt_all_v)) (by simp) (by simp) D_nil)⟩
                dsimp only at hju ⊢
                unfold updD
                by_cases hjq : j = q
                · rw [if_pos hjq]
                · rw [if_neg hjq]
                  refine hD j hj ?_
                  have := hz2 j
                  omega
              · refine ⟨⟨(by repeat' (first | exact trivial | refine ⟨Or.inl rfl, ?_⟩ | refine ⟨Or.inr ⟨rfl, Nat.le_of_ble_eq_true rfl, _, rfl, rfl, rfl⟩, ?_⟩)), by simp⟩, ?_⟩
                refine ojs_call [] [] rfl rfl rfl rfl rfl rfl rfl (by simp) (fun _ => hadd) (by simp) (.inl rfl) ?_
                rintro e cs F1 _ ⟨a6, c6, rfl, rfl⟩
                refine ⟨⟨(by repeat' (first | exact trivial | refine ⟨Or.inl rfl, ?_⟩ | refine ⟨Or.inr ⟨rfl, Nat.le_of_ble_eq_true rfl, _, rfl, rfl, rfl⟩, ?_⟩)), by simp⟩, ?_⟩
                refine ⟨⟨(by repeat' (first | exact trivial | refine ⟨Or.inl rfl, ?_⟩ | refine ⟨Or.inr ⟨rfl, Nat.le_of_ble_eq_true rfl, _, rfl, rfl, rfl⟩, ?_⟩)), by simp⟩, ?_⟩
                refine ojs_call [] [] rfl rfl rfl rfl rfl rfl rfl (by simp) (fun _ => num_c _) (by simp) (.inl rfl) ?_
                rintro e cs F1 _ ⟨rfl, rfl⟩
                refine ojs_arith (z := (((List.range i).countP (updD D q) : Nat) : Int)) (by have := count_le (N := i) (D := D); rw [count_upd hqi hDq]; dsimp only; rw [wrap_in] <;> omega) rfl rfl rfl rfl ?_
                refine optK_of (yd_boolNe (r := false) (by kernel_rfl) natEq_dec rfl rfl rfl) ?_
                refine ojs_arith (z := ((u + 1 : Nat) : Int)) (by first | decide | (rw [wrap_in] <;> omega) | (dsimp only; rw [wrap_in] <;> omega)) rfl rfl rfl rfl ?_
                refine ⟨(u + 1, updD D q, a6, c6), ⟨(by first | omega | (dsimp only; omega)), fun j hj hju => ?_⟩, (by first | omega | (dsimp only; omega)), (wk_patch (by repeat' (first | exact trivial | exact Or.inl rfl | refine Or.inr ⟨?_, ?_⟩ | rfl | refine ⟨?_, ?_⟩ | exact lt_all_v)) (by repeat' (first | exact trivial | exact Or.inl rfl | refine Or.inr ⟨?_, ?_⟩ | rfl | refine ⟨?_, ?_⟩ | exact lt_all_v)) (by simp) (by simp) D_nil)⟩
                dsimp only at hju ⊢
                unfold updD
                by_cases hjq : j = q
                · rw [if_pos hjq]
                · rw [if_neg hjq]
                  refine hD j hj ?_
                  have := hz2 j
                  omega
            · rw [hX] at hadd
              refine cjs_drawn [11, 16, 17] (.op 0 <| .op 1 <| .op 2 <| .op 3 <| .op 4 <| .op 5 <| .op 6 <| .op 7 <| .op 8 <| .op 9 <| .op 10 <| .alt (.op 11 <| .op 12 <| .op 13 <| .op 14 <| .op 15 <| .op 16 <| .op 17 <| .op 18 <| .op 19 .z) (.op 16 <| .op 11 <| .op 12 <| .op 13 <| .op 14 <| .op 15 <| .op 17 <| .op 18 <| .op 19 .z)) [0, 3] [] [] [celF b5 (0 + c * 1) (.slice ra5 (rowM k M c).length rc5)] (by kernel_rfl) (by kernel_rfl) rfl (by simp) (by simp) ?_
              intro N
              refine ⟨_, yd_arith (z := (i : Int) - 1) (by rw [wrap_in] <;> omega) rfl rfl rfl rfl, ?_⟩
              refine ⟨_, yd_min rfl rfl rfl rfl rfl, ?_⟩
              refine ⟨_, yd_max rfl rfl rfl rfl rfl, ?_⟩
              refine ⟨_, yd_index (i := c) hc1 hc2 rfl rfl rfl rfl, ?_⟩
              refine ⟨_, yd_load1 _ (List.mem_singleton.2 rfl) celF_at rfl rfl rfl, ?_⟩
              refine ⟨?_, ?_⟩
              · refine ojs_call [] [] rfl rfl rfl rfl rfl rfl rfl (by simp) (fun _ => hadd) (by simp) (.inl rfl) ?_
                rintro e' cs F1 _ ⟨a6, c6, rfl, rfl⟩
                refine ⟨⟨(by repeat' (first | exact trivial | refine ⟨Or.inl rfl, ?_⟩ | refine ⟨Or.inr ⟨rfl, Nat.le_of_ble_eq_true rfl, _, rfl, rfl, rfl⟩, ?_⟩)), by simp⟩, ?_⟩
                refine ⟨⟨(by repeat' (first | exact trivial | refine ⟨Or.inl rfl, ?_⟩ | refine ⟨Or.inr ⟨rfl, Nat.le_of_ble_eq_true rfl, _, rfl, rfl, rfl⟩, ?_⟩)), by simp⟩, ?_⟩
                refine ⟨⟨(by repeat' (first | exact trivial | refine ⟨Or.inl rfl, ?_⟩ | refine ⟨Or.inr ⟨rfl, Nat.le_of_ble_eq_true rfl, _, rfl, rfl, rfl⟩, ?_⟩)), by simp⟩, ?_⟩
                refine ojs_call [] [] rfl rfl rfl rfl rfl rfl rfl (by simp) (fun _ => num_c _) (by simp) (.inl rfl) ?_
                rintro e cs F1 _ ⟨rfl, rfl⟩
                refine brB_split (fun _ => ?_) (fun h => absurd (by simpa using h) he)
                refine ojs_arith (z := ((u + 1 : Nat) : Int)) (by first | decide | (rw [wrap_in] <;> omega) | (dsimp only; rw [wrap_in] <;> omega)) rfl rfl rfl rfl ?_
                refine ⟨(u + 1, D, a3, c3), ⟨(by first | omega | (dsimp only; omega)), fun j hj hju => ?_⟩, (by first | omega | (dsimp only; omega)), (wk_patch (by repeat' (first | exact trivial | exact Or.inl rfl | refine Or.inr ⟨?_, ?_⟩ | rfl | refine ⟨?_, ?_⟩ | exact lt_all_v)) (by repeat' (first | exact trivial | exact Or.inl rfl | refine Or.inr ⟨?_, ?_⟩ | rfl | refine ⟨?_, ?_⟩ | exact lt_all_v)) (by simp) (by simp) D_nil)⟩
                dsimp only at hju ⊢
                by_cases hjq : j + order.length = u
                · exact hno j (hz2 j hjq) hj
                · exact hD j hj (by omega)
              · refine ⟨⟨(by repeat' (first | exact trivial | refine ⟨Or.inl rfl, ?_⟩ | refine ⟨Or.inr ⟨rfl, Nat.le_of_ble_eq_true rfl, _, rfl, rfl, rfl⟩, ?_⟩)), by simp⟩, ?_⟩
                refine ojs_call [] [] rfl rfl rfl rfl rfl rfl rfl (by simp) (fun _ => hadd) (by simp) (.inl rfl) ?_
                rintro e' cs F1 _ ⟨a6, c6, rfl, rfl⟩
                refine ⟨⟨(by repeat' (first | exact trivial | refine ⟨Or.inl rfl, ?_⟩ | refine ⟨Or.inr ⟨rfl, Nat.le_of_ble_eq_true rfl, _, rfl, rfl, rfl⟩, ?_⟩)), by simp⟩, ?_⟩
                refine ⟨⟨(by repeat' (first | exact trivial | refine ⟨Or.inl rfl, ?_⟩ | refine ⟨Or.inr ⟨rfl, Nat.le_of_ble_eq_true rfl, _, rfl, rfl, rfl⟩, ?_⟩)), by simp⟩, ?_⟩
                refine ojs_call [] [] rfl rfl rfl rfl rfl rfl rfl (by simp) (fun _ => num_c _) (by simp) (.inl rfl) ?_
                rintro e cs F1 _ ⟨rfl, rfl⟩
                refine brB_split (fun _ => ?_) (fun h => absurd (by simpa using h) he)
                refine ojs_arith (z := ((u + 1 : Nat) : Int)) (by first | decide | (rw [wrap_in] <;> omega) | (dsimp only; rw [wrap_in] <;> omega)) rfl rfl rfl rfl ?_
                refine ⟨(u + 1, D, a3, c3), ⟨(by first | omega | (dsimp only; omega)), fun j hj hju => ?_⟩, (by first | omega | (dsimp only; omega)), (wk_patch (by repeat' (first | exact trivial | exact Or.inl rfl | refine Or.inr ⟨?_, ?_⟩ | rfl | refine ⟨?_, ?_⟩ | exact lt_all_v)) (by repeat' (first | exact trivial | exact Or.inl rfl | refine Or.inr ⟨?_, ?_⟩ | rfl | refine ⟨?_, ?_⟩ | exact lt_all_v)) (by simp) (by simp) D_nil)⟩
                dsimp only at hju ⊢
                by_cases hjq : j + order.length = u
                · exact hno j (hz2 j hjq) hj
                · exact hD j hj (by omega)
          · have hul : order.length ≤ u := by dsimp only at h4; omega
            obtain ⟨z, hz⟩ : ∃ z : Int, z = (u : Int) - order.length := ⟨_, rfl⟩
            rw [← hz]
            have hz2 : ∀ j : Nat, j + order.length = u → z = j := fun j hj => by omega
            obtain ⟨c, hc1, hc2, hc3⟩ := clamp_is (z := z) hN.1
            have hX := addX_M (D := D) (n := z) (r := rowM k M c) hN hW8 hbd (fun q h1 h2 => by rw [hc3 q h1 h2]) ⟨c, hc2, rfl⟩
            refine cjs_ex _ (fun A w hF => rowsF_at (rowsM_at hc2) A w (hF (rowsF (.slice (some ⟨ga, 0, none⟩) i i) (rowsM i k M)) (by simp))) ?_
            rintro ⟨b5, o5, ra5, rc5⟩ e5
            cases e5
            have hadd := add_c i k 1 a3 c3 (tD i k M D) z ra5 rc5 (rowM k M c) (fun r hr => by obtain ⟨j, _, rfl⟩ := List.mem_map.1 hr; split <;> simp [rowM_len]; omega) (by rw [rowM_len]; omega)
            rw [tD_len] at hadd
            rcases hX with ⟨q, hq, hqi, hDq, hX⟩ | ⟨hno, e, he, hX⟩
            · rw [hX] at hadd
              unfold addR at hadd
              simp only [tD_len] at hadd
              refine cjs_drawn [11, 16, 17] (.op 0 <| .op 1 <| .op 2 <| .op 3 <| .op 4 <| .op 5 <| .op 6 <| .op 7 <| .op 8 <| .op 9 <| .op 10 <| .alt (.op 11 <| .op 12 <| .op 13 <| .op 14 <| .op 15 <| .op 16 <| .op 17 <| .op 18 <| .op 19 .z) (.op 16 <| .op 11 <| .op 12 <| .op 13 <| .op 14 <| .op 15 <| .op 17 <| .op 18 <| .op 19 .z)) [0, 3] [] [] [celF b5 (0 + c * 1) (.slice ra5 (rowM k M c).length rc5)] (by kernel_rfl) (by kernel_rfl) rfl (by simp) (by simp) ?_
              intro N
              refine ⟨_, yd_arith (z := (i : Int) - 1) (by rw [wrap_in] <;> omega) rfl rfl rfl rfl, ?_⟩
              refine ⟨_, yd_min rfl rfl rfl rfl rfl, ?_⟩
              refine ⟨_, yd_max rfl rfl rfl rfl rfl, ?_⟩
              refine ⟨_, yd_index (i := c) hc1 hc2 rfl rfl rfl rfl, ?_⟩
              refine ⟨_, yd_load1 _ (List.mem_singleton.2 rfl) celF_at rfl rfl rfl, ?_⟩
              refine ⟨?_, ?_⟩
              · refine ojs_call [] [] rfl rfl rfl rfl rfl rfl rfl (by simp) (fun _ => hadd) (by simp) (.inl rfl) ?_
                rintro e cs F1 _ ⟨a6, c6, rfl, rfl⟩
                refine ⟨⟨(by repeat' (first | exact trivial | refine ⟨Or.inl rfl, ?_⟩ | refine ⟨Or.inr ⟨rfl, Nat.le_of_ble_eq_true rfl, _, rfl, rfl, rfl⟩, ?_⟩)), by simp⟩, ?_⟩
                refine ⟨⟨(by repeat' (first | exact trivial | refine ⟨Or.inl rfl, ?_⟩ | refine ⟨Or.inr ⟨rfl, Nat.le_of_ble_eq_true rfl, _, rfl, rfl, rfl⟩, ?_⟩)), by simp⟩, ?_⟩
                refine ⟨⟨(by repeat' (first | exact trivial | refine ⟨Or.inl rfl, ?_⟩ | refine ⟨Or.inr ⟨rfl, Nat.le_of_ble_eq_true rfl, _, rfl, rfl, rfl⟩, ?_⟩)), by simp⟩, ?_⟩
                refine ojs_call [] [] rfl rfl rfl rfl rfl rfl rfl (by simp) (fun _ => num_c _) (by simp) (.inl rfl) ?_
                rintro e cs F1 _ ⟨rfl, rfl⟩
                refine ojs_arith (z := (((List.range i).countP (updD D q) : Nat) : Int)) (by have := count_le (N := i) (D := D); rw [count_upd hqi hDq]; dsimp only; rw [wrap_in] <;> omega) rfl rfl rfl rfl ?_
                refine optK_of (yd_boolNe (r := false) (by kernel_rfl) natEq_dec rfl rfl rfl) ?_
                refine ojs_arith (z := ((u + 1 : Nat) : Int)) (by first | decide | (rw [wrap_in] <;> omega) | (dsimp only; rw [wrap_in] <;> omega)) rfl rfl rfl rfl ?_
                refine ⟨(u + 1, updD D q, a6, c6), ⟨(by first | omega | (dsimp only; omega)), fun j hj hju => ?_⟩, (by first | omega | (dsimp only; omega)), (wk_patch (by repeat' (first | exact trivial | exact Or.inl rfl | refine Or.inr ⟨?_, ?_⟩ | rfl | refine ⟨?_, ?_⟩ | exact lt_all_v)) (by repeat' (first | exact trivial | exact Or.inl rfl | refine Or.inr ⟨?_, ?_⟩ | rfl | refine ⟨?_, ?_⟩ | exact lt_all_v)) (by simp) (by simp) D_nil)⟩
                dsimp only at hju ⊢
                unfold updD
                by_cases hjq : j = q
                · rw [if_pos hjq]
                · rw [if_neg hjq]
                  refine hD j hj ?_
                  have := hz2 j
                  omega
              · refine ⟨⟨(by repeat' (first | exact trivial | refine ⟨Or.inl rfl, ?_⟩ | refine ⟨Or.inr ⟨rfl, Nat.le_of_ble_eq_true rfl, _, rfl, rfl, rfl⟩, ?_⟩)), by simp⟩, ?_⟩
                refine ojs_call [] [] rfl rfl rfl rfl rfl rfl rfl (by simp) (fun _ => hadd) (by simp) (.inl rfl) ?_
                rintro e cs F1 _ ⟨a6, c6, rfl, rfl⟩
                refine ⟨⟨(by repeat' (first | exact trivial | refine ⟨Or.inl rfl, ?_⟩ | refine ⟨Or.inr ⟨rfl, Nat.le_of_ble_eq_true rfl, _, rfl, rfl, rfl⟩, ?_⟩)), by simp⟩, ?_⟩
                refine ⟨⟨(by repeat' (first | exact trivial | refine ⟨Or.inl rfl, ?_⟩ | refine ⟨Or.inr ⟨rfl, Nat.le_of_ble_eq_true rfl, _, rfl, rfl, rfl⟩, ?_⟩)), by simp⟩, ?_⟩
                refine ojs_call [] [] rfl rfl rfl rfl rfl rfl rfl (by simp) (fun _ => num_c _) (by simp) (.inl rfl) ?_
                rintro e cs F1 _ ⟨rfl, rfl⟩
                refine ojs_arith (z := (((List.range i).countP (updD D q) : Nat) : Int)) (by have := count_le (N := i) (D := D); rw [count_upd hqi hDq]; dsimp only; rw [wrap_in] <;> omega) rfl rfl rfl rfl ?_
                refine optK_of (yd_boolNe (r := false) (by kernel_rfl) natEq_dec rfl rfl rfl) ?_
                refine ojs_arith (z := ((u + 1 : Nat) : Int)) (by first | decide | (rw [wrap_in] <;> omega) | (dsimp only; rw [wrap_in] <;> omega)) rfl rfl rfl rfl ?_
                refine ⟨(u + 1, updD D q, a6, c6), ⟨(by first | omega | (dsimp only; omega)), fun j hj hju => ?_⟩, (by first | omega | (dsimp only; omega)), (wk_patch (by repeat' (first | exact trivial | exact Or.inl rfl | refine Or.inr ⟨?_, ?_⟩ | rfl | refine ⟨?_, ?_⟩ | exact lt_all_v)) (by repeat' (first | exact trivial | exact Or.inl rfl | refine Or.inr ⟨?_, ?_⟩ | rfl | refine ⟨?_, ?_⟩ | exact lt_all_v)) (by simp) (by simp) D_nil)⟩
                dsimp only at hju ⊢
                unfold updD
                by_cases hjq : j = q
                · rw [if_pos hjq]
                · rw [if_neg hjq]
                  refine hD j hj ?_
                  have := hz2 j
                  omega
            · rw [hX] at hadd
              refine cjs_drawn [11, 16, 17] (.op 0 <| .op 1 <| .op 2 <| .op 3 <| .op 4 <| .op 5 <| .op 6 <| .op 7 <| .op 8 <| .op 9 <| .op 10 <| .alt (.op 11 <| .op 12 <| .op 13 <| .op 14 <| .op 15 <| .op 16 <| .op 17 <| .op 18 <| .op 19 .z) (.op 16 <| .op 11 <| .op 12 <| .op 13 <| .op 14 <| .op 15 <| .op 17 <| .op 18 <| .op 19 .z)) [0, 3] [] [] [celF b5 (0 + c * 1) (.slice ra5 (rowM k M c).length rc5)] (by kernel_rfl) (by kernel_rfl) rfl (by simp) (by simp) ?_
              intro N
              refine ⟨_, yd_arith (z := (i : Int) - 1) (by rw [wrap_in] <;> omega) rfl rfl rfl rfl, ?_⟩
              refine ⟨_, yd_min rfl rfl rfl rfl rfl, ?_⟩
              refine ⟨_, yd_max rfl rfl rfl rfl rfl, ?_⟩
              refine ⟨_, yd_index (i := c) hc1 hc2 rfl rfl rfl rfl, ?_⟩
              refine ⟨_, yd_load1 _ (List.mem_singleton.2 rfl) celF_at rfl rfl rfl, ?_⟩
              refine ⟨?_, ?_⟩
              · refine ojs_call [] [] rfl rfl rfl rfl rfl rfl rfl (by simp) (fun _ => hadd) (by simp) (.inl rfl) ?_
                rintro e' cs F1 _ ⟨a6, c6, rfl, rfl⟩
                refine ⟨⟨(by repeat' (first | exact trivial | refine ⟨Or.inl rfl, ?_⟩ | refine ⟨Or.inr ⟨rfl, Nat.le_of_ble_eq_true rfl, _, rfl, rfl, rfl⟩, ?_⟩)), by simp⟩, ?_⟩
                refine ⟨⟨(by repeat' (first | exact trivial | refine ⟨Or.inl rfl, ?_⟩ | refine ⟨Or.inr ⟨rfl, Nat.le_of_ble_eq_true rfl, _, rfl, rfl, rfl⟩, ?_⟩)), by simp⟩, ?_⟩
                refine ⟨⟨(by repeat' (first | exact trivial | refine ⟨Or.inl rfl, ?_⟩ | refine ⟨Or.inr ⟨rfl, Nat.le_of_ble_eq_true rfl, _, rfl, rfl, rfl⟩, ?_⟩)), by simp⟩, ?_⟩
                refine ojs_call [] [] rfl rfl rfl rfl rfl rfl rfl (by simp) (fun _ => num_c _) (by simp) (.inl rfl) ?_
                rintro e cs F1 _ ⟨rfl, rfl⟩
                refine brB_split (fun _ => ?_) (fun h => absurd (by simpa using h) he)
                refine ojs_arith (z := ((u + 1 : Nat) : Int)) (by first | decide | (rw [wrap_in] <;> omega) | (dsimp only; rw [wrap_in] <;> omega)) rfl rfl rfl rfl ?_
                refine ⟨(u + 1, D, a3, c3), ⟨(by first | omega | (dsimp only; omega)), fun j hj hju => ?_⟩, (by first | omega | (dsimp only; omega)), (wk_patch (by repeat' (first | exact trivial | exact Or.inl rfl | refine Or.inr ⟨?_, ?_⟩ | rfl | refine ⟨?_, ?_⟩ | exact lt_all_v)) (by repeat' (first | exact trivial | exact Or.inl rfl | refine Or.inr ⟨?_, ?_⟩ | rfl | refine ⟨?_, ?_⟩ | exact lt_all_v)) (by simp) (by simp) D_nil)⟩
                dsimp only at hju ⊢
                by_cases hjq : j + order.length = u
                · exact hno j (hz2 j hjq) hj
                · exact hD j hj (by omega)
              · refine ⟨⟨(by repeat' (first | exact trivial | refine ⟨Or.inl rfl, ?_⟩ | refine ⟨Or.inr ⟨rfl, Nat.le_of_ble_eq_true rfl, _, rfl, rfl, rfl⟩, ?_⟩)), by simp⟩, ?_⟩
                refine ojs_call [] [] rfl rfl rfl rfl rfl rfl rfl (by simp) (fun _ => hadd) (by simp) (.inl rfl) ?_
                rintro e' cs F1 _ ⟨a6, c6, rfl, rfl⟩
                refine ⟨⟨(by repeat' (first | exact trivial | refine ⟨Or.inl rfl, ?_⟩ | refine ⟨Or.inr ⟨rfl, Nat.le_of_ble_eq_true rfl, _, rfl, rfl, rfl⟩, ?_⟩)), by simp⟩, ?_⟩
                refine ⟨⟨(by repeat' (first | exact trivial | refine ⟨Or.inl rfl, ?_⟩ | refine ⟨Or.inr ⟨rfl, Nat.le_of_ble_eq_true rfl, _, rfl, rfl, rfl⟩, ?_⟩)), by simp⟩, ?_⟩
                refine ojs_call [] [] rfl rfl rfl rfl rfl rfl rfl (by simp) (fun _ => num_c _) (by simp) (.inl rfl) ?_
                rintro e cs F1 _ ⟨rfl, rfl⟩
                refine brB_split (fun _ => ?_) (fun h => absurd (by simpa using h) he)
                refine ojs_arith (z := ((u + 1 : Nat) : Int)) (by first | decide | (rw [wrap_in] <;> omega) | (dsimp only; rw [wrap_in] <;> omega)) rfl rfl rfl rfl ?_
                refine ⟨(u + 1, D, a3, c3), ⟨(by first | omega | (dsimp only; omega)), fun j hj hju => ?_⟩, (by first | omega | (dsimp only; omega)), (wk_patch (by repeat' (first | exact trivial | exact Or.inl rfl | refine Or.inr ⟨?_, ?_⟩ | rfl | refine ⟨?_, ?_⟩ | exact lt_all_v)) (by repeat' (first | exact trivial | exact Or.inl rfl | refine Or.inr ⟨?_, ?_⟩ | rfl | refine ⟨?_, ?_⟩ | exact lt_all_v)) (by simp) (by simp) D_nil)⟩
                dsimp only at hju ⊢
                by_cases hjq : j + order.length = u
                · exact hno j (hz2 j hjq) hj
                · exact hD j hj (by omega)
        · have hall : ∀ j, j < i → D j = true := fun j hj => hD j hj (by dsimp only at h3; omega)
          have hcount : (List.range i).countP D = i := count_all.2 hall
          rw [tD_all hall, hcount]
          refine ojs_call [] [] rfl rfl rfl rfl rfl rfl rfl (by simp) (fun _ => (by have := decide_c i k 1 a3 c3 (rowsM i k M) (fun r hr => by obtain ⟨j, _, rfl⟩ := List.mem_map.1 hr; rw [rowM_len]; omega); rw [rowsM_len, hdec] at this; exact this)) (by simp) (.inl rfl) ?_
          rintro e cs F1 _ ⟨a7, c7, rfl, rfl⟩
          refine brB_split (fun _ => ?_) (fun h => by simp at h)
          refine ojs_call [] [] rfl rfl rfl rfl rfl rfl rfl (by simp) (fun _ => num_c _) (by simp) (.inl rfl) ?_
          rintro e cs F1 _ ⟨rfl, rfl⟩
          refine ojs_call [] [] rfl rfl rfl rfl rfl rfl rfl (by simp) (fun _ => same_c a7 c7 a2 c2 want (by omega)) (by simp) (.inl rfl) ?_
          rintro e cs F1 _ ⟨rfl, rfl⟩
          refine ojs_call [] [] rfl rfl rfl rfl rfl rfl rfl (by simp) (fun _ => works_c) (by simp) (.inl rfl) ?_
          rintro e cs F1 _ ⟨rfl, rfl⟩
          exact endR_ok [] rfl rfl ⟨rfl, rfl⟩ rfl (fun _ => ⟨rfl, rfl⟩) (by simp)

end Go.Proofs.Ytnkpmeplapkobaa
