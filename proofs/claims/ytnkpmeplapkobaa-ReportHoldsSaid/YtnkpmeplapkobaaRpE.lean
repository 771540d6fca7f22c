/- Reports, by the symbolic run: the reference's Decide and Of. -/
import Derived.Test.YtnkpmeplapkobaaRpD
namespace Go.Proofs.Ytnkpmeplapkobaa
open Go.RowKit Go.Shelf

theorem bestOf_step {k : Nat} {t : List (List (Bool × Int))} {i : Nat} {r : List (Bool × Int)} (h : t[i]? = some r) : bestOf (colN k 0 (t.take (max (i + 1) 1))) =
    (if (bestOf (colN k 0 (t.take (max i 1)))).2.2 < (rowAt k r).2 then ((k : Int), (i : Int), (rowAt k r).2) else bestOf (colN k 0 (t.take (max i 1)))) := by
  rw [show max (i + 1) 1 = i + 1 by omega, colN_at h]
  cases i with
  | zero =>
    have e := colN_at (k := k) h
    simp only [Nat.zero_add, List.take_zero] at e
    rw [show max 0 1 = 1 by omega, e]
    simp [colN, bestOf]
  | succ i =>
    rw [bestOf_snoc, show max (i + 1) 1 = i + 1 by omega]
    have hl := (List.getElem?_eq_some_iff.1 h).1
    rw [if_neg (by intro e; have := congrArg List.length e; rw [colN_len, List.length_take, List.length_nil] at this; omega)]
    rfl
theorem best_lock {k : Nat} {t : List (List (Bool × Int))} (h : t ≠ []) : ∀ m, (bestOf (colN k 0 (t.take (max m 1)))).1 = (k : Int) := by
  intro m
  induction m with
  | zero =>
    cases t with
    | nil => exact absurd rfl h
    | cons r t => simp [colN, bestOf]
  | succ m ih =>
    cases hr : t[m]? with
    | some r => rw [bestOf_step hr]; split
                · rfl
                · exact ih
    | none =>
      have hm : t.length ≤ m := by rw [List.getElem?_eq_none_iff] at hr; exact hr
      rw [List.take_of_length_le (by omega)]
      rw [List.take_of_length_le (by omega)] at ih
      exact ih

structure RG where
  k : Nat
  a : Option Addr
  c : Nat
  done : List Bk
def RG.p (t : List (List (Bool × Int))) (m : Nat) (g : RG) : Prop := g.k ≤ m ∧ decGo t m 0 = (decGo t (m - g.k) g.k).map (g.done ++ ·) ∧ g.done.length ≤ g.k

set_option maxHeartbeats 2000000 in
theorem refDecide_c (n l s : Int) (a : Option Addr) (cap : Nat) (t : List (List (Bool × Int))) (htl : t.length ≤ 100) (hlen : ∀ r ∈ t, r.length ≤ 1099511627776) :
    Cm Try.prog 23 [.agg #[.int .i64 n, .int .i64 l, .int .i64 s], .agg #[.slice a t.length cap]] [] [rowsF (.slice a t.length cap) t] (decR (decX n l s t)) := by
  refine cm_of (tab := tb) (ok := tbOk) [.g [.v (.int .i64 n), .v (.int .i64 l), .v (.int .i64 s)], .g [.v (.slice a t.length cap)]] Try.func23 Try.ntmps23 rfl rfl (fun _ _ => rfl) ?_
  intro w0 A0
  have bad : ∀ x : List Bk × Int, x.1 = [] → decR x (.returned (.tuple #[.slice none 0 0, .int .i64 x.2])) [] [slF encB 3 (.slice none 0 0) []] := by
    rintro ⟨x, z⟩ (rfl : x = [])
    exact ⟨none, 0, rfl, rfl⟩
  refine ojs_call [] [] rfl rfl rfl rfl rfl rfl rfl (by simp) (fun _ => refTally_c n l s a cap t hlen (by omega)) (by simp) (.inl rfl) ?_
  rintro e cs F1 _ ⟨rfl, rfl⟩
  cases ht : tallyB n l s t
  · refine endR_facts [slF encB 3 (.slice none 0 0) []] (fun A w _ f hf => by cases List.mem_singleton.1 hf; exact slF_nil _ _ _ _) ?_
    refine endR_ok [slF encB 3 (.slice none 0 0) []] rfl rfl ⟨rfl, rfl⟩ rfl (fun _ => ?_) (by simp)
    have : decX n l s t = ([], 2) := by unfold decX; rw [if_pos ht]
    rw [this]
    exact bad _ rfl
  have hbd := tally_bd ht
  refine ojs_call [] [] rfl rfl rfl rfl rfl rfl rfl (by simp) (fun _ => refMissing_c a cap t htl) (by simp) (.inl rfl) ?_
  rintro e cs F1 _ ⟨am, cm, rfl, rfl⟩
  refine brB_dec (fun hm => ?_) (fun hm => ?_)
  · have hm : (missN 0 t).isEmpty = false := by cases h : missN 0 t with | nil => rw [h] at hm; simp at hm | cons x y => rfl
    refine endR_facts [slF encB 3 (.slice none 0 0) []] (fun A w _ f hf => by cases List.mem_singleton.1 hf; exact slF_nil _ _ _ _) ?_
    refine endR_ok [slF encB 3 (.slice none 0 0) []] rfl rfl ⟨rfl, rfl⟩ rfl (fun _ => ?_) (by simp)
    have : decX n l s t = ([], 271) := by unfold decX; rw [if_neg (by rw [ht]; simp), if_pos hm]
    rw [this]
    exact bad _ rfl
  have hm : (missN 0 t).isEmpty = true := by cases h : missN 0 t with | nil => rfl | cons x y => rw [h] at hm; simp at hm
  have hsh := shapeB_is (show shapeB n l s = true by unfold tallyB at ht; simp only [Bool.and_eq_true] at ht; exact ht.1.1)
  obtain ⟨m, rfl⟩ : ∃ m : Nat, l = m := ⟨l.toNat, by omega⟩
  have hfull := row_full ht hm
  have hne : t ≠ [] := by intro e; rw [e] at hbd; simp at hbd; omega
  refine cjs_weak (wk_own 44 3) ?_
  refine cjs_loop (γ := RG) (RG.p t m) (fun g => ⟨[(2, .o (.p 0 0)), (3, .o (.p 1 0)), (6, .o (.v (.slice g.a g.done.length g.c))), (7, .o (.v (.int .i64 g.k)))],
    [(0, .c [.v (.int .i64 n), .v (.int .i64 m), .v (.int .i64 s)] 23), (1, .c [.v (.slice a t.length cap)] 26), (2, .own (.slice g.a g.done.length g.c) 44 3 g.done.length (g.done.flatMap encB))], 3, [rowsF (.slice a t.length cap) t], fun _ => []⟩) (fun g => m - g.k) ⟨0, none, 0, []⟩ ⟨Nat.zero_le _, by simp, Nat.le_refl _⟩ (wk_same (by repeat' (first | exact trivial | rfl | refine ⟨?_, ?_⟩ | exact lt_all_v | exact (congrArg some idN_ren_lc.symm) | omega)) (by repeat' (first | exact trivial | rfl | refine ⟨?_, ?_⟩ | exact lt_all_v | exact (congrArg some idN_ren_lc.symm) | omega)) (by simp) (by simp)) ?_
  rintro ⟨k, a1, c1, done⟩ ⟨hk, hgo, hdl⟩
  simp only at hk hgo hdl
  refine brB_dec (fun hkm => ?_) (fun hkm => ?_)
  rotate_left
  · obtain rfl : k = m := by dsimp only at hkm; omega
    refine endR_weak (wk_seal (j := 2) (enc := encB) (xs := done) (.inl rfl) encB_len rfl rfl) ?_
    refine endR_ok [slF encB 3 (.slice a1 done.length c1) done] rfl rfl ⟨rfl, rfl⟩ rfl (fun _ => ?_) (by simp)
    unfold decX
    rw [ht, if_neg (by simp), if_neg (by rw [hm]; simp), Int.toNat_natCast, hgo]
    simp only [Nat.sub_self, decGo, Option.map_some, decEnd, List.append_nil]
    exact ⟨_, _, rfl, rfl⟩
  have hkm : k < m := by dsimp only at hkm; omega
  have hgk : decGo t (m - k) k = if 1 < hasN k t then none else (decGo t (m - (k + 1)) (k + 1)).map fun xs => if hasN k t = 0 then bestOf (colN k 0 t) :: xs else xs := by
    rw [show m - k = (m - (k + 1)) + 1 by omega]; rfl
  obtain ⟨r0, hr0⟩ := at_some (xs := t) (k := 0) (by cases t with | nil => exact absurd rfl hne | cons => simp)
  have hrl0 := hfull r0 (List.mem_of_getElem? hr0)
  obtain ⟨x0, hx0⟩ := at_some (xs := r0) (k := k) (by omega)
  refine ojs_ex _ (fun A w hF => rowsF_at hr0 A w (hF _ (List.mem_cons_self ..))) ?_
  rintro ⟨b, off, ra, rc⟩ (rfl : a = some ⟨b, off, none⟩)
  refine ojs_index (i := 0) rfl (by omega) rfl rfl rfl rfl ?_
  refine ojs_load1 _ (List.mem_cons_self ..) celF_at rfl rfl rfl ?_
  refine ojs_fact (slF encR 2 (.slice ra r0.length rc) r0) (by simp) (fun A w hF => slF_addr hF (by intro e; rw [e] at hx0; simp at hx0)) ?_
  rintro ⟨rb, ro, rfl⟩
  refine ojs_index rfl (by omega) rfl rfl rfl rfl ?_
  refine ojs_load1 (slF encR 2 (.slice (some ⟨rb, ro, none⟩) r0.length rc) r0) (by simp) (slF_at hx0 (j := 1) rfl) rfl rfl rfl ?_
  obtain ⟨B, hB⟩ : ∃ B : Nat → Bk, B = fun i => bestOf (colN k 0 (t.take (max i 1))) := ⟨_, rfl⟩
  have hB0 : B 0 = ((k : Int), 0, x0.2) := by
    rw [hB]
    have e := colN_at (k := k) hr0
    have hra : rowAt k r0 = x0 := by unfold rowAt; rw [List.getD_eq_getElem?_getD, hx0]; rfl
    simp only [Nat.zero_add, List.take_zero] at e
    show bestOf (colN k 0 (t.take (max 0 1))) = _
    rw [show max 0 1 = 1 by omega, e, hra]
    simp [colN, bestOf]
  have hB1 : ∀ i, (B i).1 = (k : Int) := by rw [hB]; exact best_lock hne
  refine cjs_loop (γ := Nat) (fun i => i ≤ t.length) (fun i => ⟨[(2, .o (.p 0 0)), (3, .o (.p 1 0)), (6, .o (.v (.slice a1 done.length c1))), (7, .o (.v (.int .i64 k))), (8, .o (.v (.int .i64 (hasN k (t.take i))))), (9, .o (.p 3 0)), (10, .o (.v (.int .i64 i)))],
    [(0, .c [.v (.int .i64 n), .v (.int .i64 m), .v (.int .i64 s)] 23), (1, .c [.v (.slice (some ⟨b, off, none⟩) t.length cap)] 26), (2, .own (.slice a1 done.length c1) 44 3 done.length (done.flatMap encB)), (3, .c [.v (.int .i64 k), .v (.int .i64 (B i).2.1), .v (.int .i64 (B i).2.2)] 44)], 4, [rowsF (.slice (some ⟨b, off, none⟩) t.length cap) t], fun _ => []⟩) (fun i => t.length - i) 0 (Nat.zero_le _) ?_ ?_
  · dsimp only
    rw [hB0]
    exact wk_same (by repeat' (first | exact trivial | rfl | refine ⟨?_, ?_⟩ | exact lt_all_v | exact (congrArg some idN_ren_lc.symm) | omega)) (by repeat' (first | exact trivial | rfl | refine ⟨?_, ?_⟩ | exact lt_all_v | exact (congrArg some idN_ren_lc.symm) | omega)) (by simp) (by simp)
  intro i hi
  refine brB_dec (fun hit => ?_) (fun hit => ?_)
  · have hit : i < t.length := by omega
    obtain ⟨r, hr⟩ := at_some (xs := t) (k := i) hit
    have hrl := hfull r (List.mem_of_getElem? hr)
    obtain ⟨x, hx⟩ := at_some (xs := r) (k := k) (by omega)
    have hra : rowAt k r = x := by unfold rowAt; rw [List.getD_eq_getElem?_getD, hx]; rfl
    have hhas := hasN_at (k := k) hr
    have hle := hasN_len (k := k) (t := t) (i := i)
    have hst := bestOf_step (k := k) hr
    rw [hra] at hhas hst
    have hst : B (i + 1) = if (B i).2.2 < x.2 then ((k : Int), (i : Int), x.2) else B i := by rw [hB]; exact hst
    refine ojs_ex _ (fun A w hF => rowsF_at hr A w (hF _ (List.mem_singleton.2 rfl))) ?_
    rintro ⟨b', off', ra', rc'⟩ e
    cases e
    refine ojs_index rfl hit rfl rfl rfl rfl ?_
    refine ojs_load1 _ (List.mem_cons_self ..) celF_at rfl rfl rfl ?_
    refine ojs_fact (slF encR 2 (.slice ra' r.length rc') r) (by simp) (fun A w hF => slF_addr hF (by intro e; rw [e] at hx; simp at hx)) ?_
    rintro ⟨rb', ro', rfl⟩
    refine ojs_index rfl (by omega) rfl rfl rfl rfl ?_
    refine ojs_loadN (vs := [.bool x.1, .int .i64 x.2]) (slF encR 2 (.slice (some ⟨rb', ro', none⟩) r.length rc') r) (by simp) (fun A w h j u hu => slF_at hx hu A w h) rfl rfl rfl ?_
    cases hx1 : x.1
    · rw [hx1] at hhas
      simp only [Bool.false_eq_true, if_false, Nat.add_zero] at hhas
      refine brB_dec (fun hg => ?_) (fun hg => ?_)
      · rw [if_pos (by omega)] at hst
        refine cjs_drawn [4, 6] (.op 0 <| .op 1 <| .op 2 <| .op 3 <| .op 4 <| .op 5 <| .op 6 .z) [4] [] [] [] (by kernel_rfl) (by kernel_rfl) rfl (by simp) (by simp) ?_
        intro N
        refine ⟨⟨(by repeat' (first | exact trivial | refine ⟨Or.inl rfl, ?_⟩ | refine ⟨Or.inr ⟨rfl, Nat.le_of_ble_eq_true rfl, _, rfl, rfl, rfl⟩, ?_⟩)), by simp⟩, ?_⟩
        refine ⟨⟨(by repeat' (first | exact trivial | refine ⟨Or.inl rfl, ?_⟩ | refine ⟨Or.inr ⟨rfl, Nat.le_of_ble_eq_true rfl, _, rfl, rfl, rfl⟩, ?_⟩)), by simp⟩, ?_⟩
        refine ojs_arith (z := ((i + 1 : Nat) : Int)) (by rw [wrap_in] <;> omega) rfl rfl rfl rfl ?_
        refine ⟨i + 1, by omega, by dsimp only; omega, ?_⟩
        dsimp only
        rw [hhas, hst]
        exact wk_same (by repeat' (first | exact trivial | rfl | refine ⟨?_, ?_⟩ | exact lt_all_v | exact (congrArg some idN_ren_lc.symm) | omega)) (by repeat' (first | exact trivial | rfl | refine ⟨?_, ?_⟩ | exact lt_all_v | exact (congrArg some idN_ren_lc.symm) | omega)) (by simp) (by simp)
      · rw [if_neg (by omega)] at hst
        refine ojs_arith (z := ((i + 1 : Nat) : Int)) (by rw [wrap_in] <;> omega) rfl rfl rfl rfl ?_
        refine ⟨i + 1, by omega, by dsimp only; omega, ?_⟩
        dsimp only
        rw [hhas, hst]
        exact wk_same (by repeat' (first | exact trivial | rfl | refine ⟨?_, ?_⟩ | exact lt_all_v | exact (congrArg some idN_ren_lc.symm) | omega)) (by repeat' (first | exact trivial | rfl | refine ⟨?_, ?_⟩ | exact lt_all_v | exact (congrArg some idN_ren_lc.symm) | omega)) (by simp) (by simp)
    · rw [hx1] at hhas
      simp only [if_true] at hhas
      refine ojs_arith (z := ((hasN k (t.take (i + 1)) : Nat) : Int)) (by rw [hhas, wrap_in] <;> omega) rfl rfl rfl rfl ?_
      refine brB_dec (fun hg => ?_) (fun hg => ?_)
      · rw [if_pos (by omega)] at hst
        refine cjs_drawn [4, 6] (.op 0 <| .op 1 <| .op 2 <| .op 3 <| .op 4 <| .op 5 <| .op 6 .z) [4] [] [] [] (by kernel_rfl) (by kernel_rfl) rfl (by simp) (by simp) ?_
        intro N
        refine ⟨⟨(by repeat' (first | exact trivial | refine ⟨Or.inl rfl, ?_⟩ | refine ⟨Or.inr ⟨rfl, Nat.le_of_ble_eq_true rfl, _, rfl, rfl, rfl⟩, ?_⟩)), by simp⟩, ?_⟩
        refine ⟨⟨(by repeat' (first | exact trivial | refine ⟨Or.inl rfl, ?_⟩ | refine ⟨Or.inr ⟨rfl, Nat.le_of_ble_eq_true rfl, _, rfl, rfl, rfl⟩, ?_⟩)), by simp⟩, ?_⟩
        refine ojs_arith (z := ((i + 1 : Nat) : Int)) (by rw [wrap_in] <;> omega) rfl rfl rfl rfl ?_
        refine ⟨i + 1, by omega, by dsimp only; omega, ?_⟩
        dsimp only
        rw [hst]
        exact wk_same (by repeat' (first | exact trivial | rfl | refine ⟨?_, ?_⟩ | exact lt_all_v | exact (congrArg some idN_ren_lc.symm) | omega)) (by repeat' (first | exact trivial | rfl | refine ⟨?_, ?_⟩ | exact lt_all_v | exact (congrArg some idN_ren_lc.symm) | omega)) (by simp) (by simp)
      · rw [if_neg (by omega)] at hst
        refine ojs_arith (z := ((i + 1 : Nat) : Int)) (by rw [wrap_in] <;> omega) rfl rfl rfl rfl ?_
        refine ⟨i + 1, by omega, by dsimp only; omega, ?_⟩
        dsimp only
        rw [hst]
        exact wk_same (by repeat' (first | exact trivial | rfl | refine ⟨?_, ?_⟩ | exact lt_all_v | exact (congrArg some idN_ren_lc.symm) | omega)) (by repeat' (first | exact trivial | rfl | refine ⟨?_, ?_⟩ | exact lt_all_v | exact (congrArg some idN_ren_lc.symm) | omega)) (by simp) (by simp)
  · obtain rfl : i = t.length := by omega
    have hBt : bestOf (colN k 0 t) = B t.length := by
      rw [hB]
      show _ = bestOf (colN k 0 (t.take (max t.length 1)))
      rw [List.take_of_length_le (by omega)]
    rw [List.take_length]
    refine brB_dec (fun h1 => ?_) (fun h1 => ?_)
    · rw [if_pos (by omega)] at hgk
      refine endR_facts [slF encB 3 (.slice none 0 0) []] (fun A w _ f hf => by cases List.mem_singleton.1 hf; exact slF_nil _ _ _ _) ?_
      refine endR_ok [slF encB 3 (.slice none 0 0) []] rfl rfl ⟨rfl, rfl⟩ rfl (fun _ => ?_) (by simp)
      have : decX n m s t = ([], 272) := by
        unfold decX
        rw [ht, if_neg (by simp), if_neg (by rw [hm]; simp), Int.toNat_natCast, hgo, hgk]
        rfl
      rw [this]
      exact bad _ rfl
    rw [if_neg (by omega)] at hgk
    refine brB_split (fun h0 => ?_) (fun h0 => ?_)
    · have h0 : hasN k t = 0 := by simpa using h0
      refine ojs_append 2 rfl rfl rfl rfl rfl rfl rfl rfl rfl (by omega) rfl rfl rfl (srcL (news := [.int .i64 k, .int .i64 (B t.length).2.1, .int .i64 (B t.length).2.2]) rfl rfl) rfl (by simp [Value.oneCell']) (by omega) (by simp [maxLen]; omega) ?_
      intro a4 c4
      refine ojs_arith (z := ((k + 1 : Nat) : Int)) (by rw [wrap_in] <;> omega) rfl rfl rfl rfl ?_
      have hl4 : (done ++ [bestOf (colN k 0 t)]).length = done.length + 1 := by simp
      have hf4 : done.flatMap encB ++ [.int .i64 k, .int .i64 (B t.length).2.1, .int .i64 (B t.length).2.2] = (done ++ [bestOf (colN k 0 t)]).flatMap encB := by
        rw [List.flatMap_append, hBt]
        have := hB1 t.length
        simp [encB, this]
      refine ⟨⟨k + 1, a4, c4, done ++ [bestOf (colN k 0 t)]⟩, ⟨by dsimp only; omega, ?_, by dsimp only; rw [hl4]; omega⟩, by dsimp only; omega, ?_⟩
      · dsimp only
        rw [hgo, hgk]
        simp [h0, Option.map_map, Function.comp_def]
      · dsimp only
        rw [hl4, ← hf4]
        exact wk_same (by repeat' (first | exact trivial | rfl | refine ⟨?_, ?_⟩ | exact lt_all_v | exact (congrArg some idN_ren_lc.symm) | omega)) (by repeat' (first | exact trivial | rfl | refine ⟨?_, ?_⟩ | exact lt_all_v | exact (congrArg some idN_ren_lc.symm) | omega)) (by simp) (by simp)
    · have h0 : hasN k t ≠ 0 := by simpa using h0
      refine ojs_arith (z := ((k + 1 : Nat) : Int)) (by rw [wrap_in] <;> omega) rfl rfl rfl rfl ?_
      refine ⟨⟨k + 1, a1, c1, done⟩, ⟨by dsimp only; omega, ?_, by dsimp only; omega⟩, by dsimp only; omega, wk_same (by repeat' (first | exact trivial | rfl | refine ⟨?_, ?_⟩ | exact lt_all_v | exact (congrArg some idN_ren_lc.symm) | omega)) (by repeat' (first | exact trivial | rfl | refine ⟨?_, ?_⟩ | exact lt_all_v | exact (congrArg some idN_ren_lc.symm) | omega)) (by simp) (by simp)⟩
      dsimp only
      rw [hgo, hgk]
      simp [h0]

end Go.Proofs.Ytnkpmeplapkobaa
