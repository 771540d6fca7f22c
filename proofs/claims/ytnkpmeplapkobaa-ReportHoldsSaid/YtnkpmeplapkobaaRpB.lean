/- Reports, by the symbolic run: Decide. -/
import Derived.Test.YtnkpmeplapkobaaRpA
namespace Go.Proofs.Ytnkpmeplapkobaa
open Go.RowKit Go.Shelf

theorem rowsF_rows {v : Value} {t : List (List (Bool × Int))} {A : Nat → Prop} {w : World} (hA : ∀ b, A b → b < w.heap.size) (h : (rowsF v t).h A w) : Rows2 w v t := by
  obtain ⟨vs, h1, h2, h3⟩ := h
  exact ⟨vs, slF_sl h1 hA, h2, fun i u xs hu hx => slF_sl (h3 i u xs hu hx) hA⟩
def mustR (b : Bool) (e : Int) : OutT := fun r _ F1 => ((b = true ∧ r = .returned (.tuple #[])) ∨ (b = false ∧ r = .panicked [{ v := upV e, recovered := false }])) ∧ F1 = []
theorem must_c (b : Bool) (e : Int) : Cm Try.prog 35 [.bool b, .int .i64 e] [] [] (mustR b e) := by
  refine cm_any (R := fun r => (b = true ∧ r = .returned (.tuple #[])) ∨ (b = false ∧ r = .panicked [{ v := upV e, recovered := false }])) fun A w _ _ => ?_
  cases b
  · refine (must_no e w).mono ?_
    rintro r w' ⟨rfl, rfl⟩
    exact ⟨.inr ⟨rfl, rfl⟩, Below.refl _ _⟩
  · refine (must_yes e w).mono ?_
    rintro r w' ⟨rfl, rfl⟩
    exact ⟨.inl ⟨rfl, rfl⟩, Below.refl _ _⟩
def ofR (n l s : Int) (v : Value) (t : List (List (Bool × Int))) : OutT := fun e _ F1 => ((tallyB n l s t = true ∧ e = .returned (.agg #[v, .int .i64 n, .int .i64 l, .int .i64 s])) ∨ (tallyB n l s t = false ∧ e = .panicked [{ v := upV 2, recovered := false }])) ∧ F1 = []
theorem of_c (n l s : Int) (a : Option Addr) (cap : Nat) (t : List (List (Bool × Int))) (hlen : ∀ r ∈ t, r.length ≤ 1099511627776) :
    Cm Try.prog 30 [.agg #[.int .i64 n, .int .i64 l, .int .i64 s], .agg #[.slice a t.length cap]] [] [rowsF (.slice a t.length cap) t] (ofR n l s (.slice a t.length cap) t) := by
  refine cm_any (R := fun e => (tallyB n l s t = true ∧ e = .returned (.agg #[.slice a t.length cap, .int .i64 n, .int .i64 l, .int .i64 s])) ∨ (tallyB n l s t = false ∧ e = .panicked [{ v := upV 2, recovered := false }])) fun A w hA hF => ?_
  exact of_any n l s w _ t (rowsF_rows hA (hF _ (List.mem_singleton.2 rfl))) hlen
theorem whole_c (n l s : Int) (a : Option Addr) (cap : Nat) (t : List (List (Bool × Int))) (hlen : ∀ r ∈ t, r.length ≤ 1099511627776) (htl : t.length ≤ 1099511627776) :
    Cm Try.prog 38 [.agg #[.slice a t.length cap, .int .i64 n, .int .i64 l, .int .i64 s]] [] [rowsF (.slice a t.length cap) t] (rets (.bool (missX n l s t).isEmpty)) :=
  cm_old fun _ w hA hF => whole_any n l s w _ t (rowsF_rows hA (hF _ (List.mem_singleton.2 rfl))) hlen htl
theorem best_c (a : Option Addr) (cap : Nat) (xs : List Bk) (hlen : xs.length ≤ 1000) :
    Cm Try.prog 40 [.func (.func 41) #[] #[], .slice a xs.length cap] [] [slF encB 3 (.slice a xs.length cap) xs] (rets (.agg #[.int .i64 (bestOf xs).1, .int .i64 (bestOf xs).2.1, .int .i64 (bestOf xs).2.2])) :=
  cm_old fun _ w hA hF => best_any w _ xs hlen (slF_sl (hF _ (List.mem_singleton.2 rfl)) hA)
theorem clearD_c (b : Nat) (v : Value) : Cm Try.prog 39 [.pointer (some ⟨b, 0, none⟩)] [(b, [v], 38)] [] (fun e cs F1 => e = .returned (.tuple #[]) ∧ cs = [[.slice none 0 0]] ∧ F1 = []) := by
  refine cm_of (tab := tb) (ok := tbOk) [.o (.p 0 0)] Try.func39 Try.ntmps39 rfl rfl (fun ρ h => by simp [TV.den, SV.den, h 0 b rfl]) ?_
  intro w0 A0
  exact endR_ok [] rfl rfl ⟨rfl, rfl⟩ rfl (fun _ => ⟨rfl, rfl, rfl⟩) (by simp)

structure DG where
  k : Nat
  a : Option Addr
  c : Nat
  hs : List Value
  done : List Bk
def DG.p (t : List (List (Bool × Int))) (m : Nat) (g : DG) : Prop :=
  g.k ≤ m ∧ g.hs.length = 8 ∧ (∀ j, g.k ≤ j → j < 8 → g.hs[j]? = some (.int .i64 0)) ∧ decGo t m 0 = (decGo t (m - g.k) g.k).map (g.done ++ ·) ∧ g.done.length ≤ g.k
def decR (x : List Bk × Int) : OutT := fun e _ F1 => ∃ a c, e = .returned (.tuple #[.slice a x.1.length c, .int .i64 x.2]) ∧ F1 = [slF encB 3 (.slice a x.1.length c) x.1]
theorem slF_nil (k : Nat) (enc : Bk → List Value) (A : Nat → Prop) (w : World) : (slF enc k (.slice none 0 0) ([] : List Bk)).h A w := ⟨none, 0, rfl, ⟨Nat.le_refl _, fun _ => rfl⟩, .inl rfl⟩

set_option maxHeartbeats 2000000 in
theorem decide_c (n l s : Int) (a : Option Addr) (cap : Nat) (t : List (List (Bool × Int))) (hlen : ∀ r ∈ t, r.length ≤ 1099511627776) :
    Cm Try.prog 15 [.agg #[.int .i64 n, .int .i64 l, .int .i64 s], .agg #[.slice a t.length cap]] [] [rowsF (.slice a t.length cap) t] (decR (decX n l s t)) := by
  refine cm_ofD (tab := tb) (ok := tbOk) [.g [.v (.int .i64 n), .v (.int .i64 l), .v (.int .i64 s)], .g [.v (.slice a t.length cap)]] Try.func15 Try.ntmps15 rfl rfl (fun _ _ => rfl) ?_
  intro w0 A0
  refine ojs_caught rfl rfl rfl rfl rfl rfl rfl rfl ?_
  refine ojs_call [] [] rfl rfl rfl rfl rfl rfl rfl (by simp) (fun _ => of_c n l s a cap t hlen) (by simp) (.inl rfl) ?_
  rintro e cs F1 _ ⟨⟨ht, rfl⟩ | ⟨ht, rfl⟩, rfl⟩
  rotate_left
  · refine lv_up [2] caughtUpR (enters_of Try.func28 (by kernel_rfl) rfl) (enters_of Try.func39 (by kernel_rfl) rfl) rfl (by simp) (fun ρ => clearD_c _ _) rfl (lv_ret ?_)
    refine endR_facts [slF encB 3 (.slice none 0 0) []] (fun A w _ f hf => by cases List.mem_singleton.1 hf; exact slF_nil _ _ _ _) ?_
    refine endR_ok [slF encB 3 (.slice none 0 0) []] rfl rfl ⟨rfl, rfl⟩ rfl (fun _ => ?_) (by simp)
    unfold decX
    rw [ht]
    exact ⟨none, 0, rfl, rfl⟩
  have hbd := tally_bd ht
  refine ojs_call [] [] rfl rfl rfl rfl rfl rfl rfl (by simp) (fun _ => whole_c n l s a cap t hlen (by omega)) (by simp) (.inl rfl) ?_
  rintro e cs F1 _ ⟨rfl, rfl⟩
  have hmx : missX n l s t = missN 0 t := by unfold missX; rw [if_pos ht]
  rw [hmx]
  refine ojs_call [] [] rfl rfl rfl rfl rfl rfl rfl (by simp) (fun _ => must_c _ _) (by simp) (.inl rfl) ?_
  rintro e cs F1 _ ⟨⟨hm, rfl⟩ | ⟨hm, rfl⟩, rfl⟩
  rotate_left
  · refine lv_up [2] caughtUpR (enters_of Try.func28 (by kernel_rfl) rfl) (enters_of Try.func39 (by kernel_rfl) rfl) rfl (by simp) (fun ρ => clearD_c _ _) rfl (lv_ret ?_)
    refine endR_facts [slF encB 3 (.slice none 0 0) []] (fun A w _ f hf => by cases List.mem_singleton.1 hf; exact slF_nil _ _ _ _) ?_
    refine endR_ok [slF encB 3 (.slice none 0 0) []] rfl rfl ⟨rfl, rfl⟩ rfl (fun _ => ?_) (by simp)
    unfold decX
    rw [ht, if_neg (by simp), if_pos hm]
    exact ⟨none, 0, rfl, rfl⟩
  have hsh := shapeB_is (show shapeB n l s = true by unfold tallyB at ht; simp only [Bool.and_eq_true] at ht; exact ht.1.1)
  obtain ⟨m, rfl⟩ : ∃ m : Nat, l = m := ⟨l.toNat, by omega⟩
  have hfull := row_full ht hm
  refine cjs_weak ((wk_own 44 3).trans (wk_c2o (j := 5) (List.replicate 8 (.int .i64 0)) rfl)) ?_
  refine cjs_loop (γ := DG) (DG.p t m) (fun g => ⟨[(4, .o (.p 2 0)), (5, .o (.p 3 0)), (6, .o (.p 4 0)), (7, .o (.p 5 0)), (20, .o (.v (.int .i64 m))), (21, .o (.v (.int .i64 g.k)))],
    [(2, .c [.v (.slice g.a g.done.length g.c)] 38), (3, .c [.v (.int .i64 0)] 45), (4, .c [.v (.slice a t.length cap), .v (.int .i64 n), .v (.int .i64 m), .v (.int .i64 s)] 74), (5, objC g.hs 80), (6, .own (.slice g.a g.done.length g.c) 44 3 g.done.length (g.done.flatMap encB))], 7, [rowsF (.slice a t.length cap) t], cauD 28 3 39 [.p 2 0] fun _ => []⟩) (fun g => m - g.k) ⟨0, none, 0, List.replicate 8 (.int .i64 0), []⟩ ?_ (wk_cau (by repeat' (first | exact trivial | rfl | refine ⟨?_, ?_⟩ | exact lt_all_v | exact (congrArg some idN_ren_lc.symm) | omega)) (by repeat' (first | exact trivial | rfl | refine ⟨?_, ?_⟩ | exact lt_all_v | exact (congrArg some idN_ren_lc.symm) | omega)) (by simp) (by simp) rfl rfl) ?_
  · refine ⟨Nat.zero_le _, rfl, fun j _ hj => by show (List.replicate 8 (Value.int .i64 0))[j]? = _; rw [List.getElem?_replicate, if_pos hj], by simp, Nat.le_refl _⟩
  rintro ⟨k, a1, c1, hs, done⟩ ⟨hk, hhs, hz, hgo, hdl⟩
  simp only at hk hhs hz hgo hdl
  refine brB_dec (fun hkm => ?_) (fun hkm => ?_)
  rotate_left
  · obtain rfl : k = m := by dsimp only at hkm; omega
    refine lv_idle caughtIdleR (enters_of Try.func28 (by kernel_rfl) rfl) (lv_ret ?_)
    refine endR_weak (wk_seal (j := 6) (enc := encB) (xs := done) (.inl rfl) encB_len rfl rfl) ?_
    refine endR_ok [slF encB 3 (.slice a1 done.length c1) done] rfl rfl ⟨rfl, rfl⟩ rfl (fun _ => ?_) (by simp)
    unfold decX
    rw [ht, if_neg (by simp), if_neg (by rw [hm]; simp), Int.toNat_natCast, hgo]
    simp only [Nat.sub_self, decGo, Option.map_some, decEnd, List.append_nil]
    exact ⟨_, _, rfl, rfl⟩
  have hkm : k < m := by dsimp only at hkm; omega
  refine cjs_weak (wk_own 44 3) ?_
  refine cjs_loop (γ := Nat × Option Addr × Nat) (fun g => g.1 ≤ t.length) (fun g => ⟨[(4, .o (.p 2 0)), (5, .o (.p 3 0)), (6, .o (.p 4 0)), (7, .o (.p 5 0)), (8, .o (.v (.int .i64 k))), (9, .o (.v (.slice g.2.1 g.1 g.2.2))), (20, .o (.v (.int .i64 m))), (21, .o (.v (.int .i64 k))), (27, .o (.v (.slice a t.length cap))), (28, .o (.v (.int .i64 t.length))), (29, .o (.v (.int .i64 g.1)))],
    [(2, .c [.v (.slice a1 done.length c1)] 38), (3, .c [.v (.int .i64 0)] 45), (4, .c [.v (.slice a t.length cap), .v (.int .i64 n), .v (.int .i64 m), .v (.int .i64 s)] 74), (5, objC (hs.set k (.int .i64 (hasN k (t.take g.1)))) 80), (6, .own (.slice a1 done.length c1) 44 3 done.length (done.flatMap encB)), (7, .own (.slice g.2.1 g.1 g.2.2) 44 3 g.1 ((colN k 0 (t.take g.1)).flatMap encB))], 8, [rowsF (.slice a t.length cap) t], cauD 28 3 39 [.p 2 0] fun _ => []⟩) (fun g => t.length - g.1) (0, none, 0) (Nat.zero_le _) ?_ ?_
  · have e : hs.set k (.int .i64 ((hasN k (t.take 0) : Nat) : Int)) = hs := by
      apply List.ext_getElem?
      intro j
      rw [List.getElem?_set]
      split
      · rename_i ek; subst ek; rw [hz k (Nat.le_refl _) (by omega)]; simp [hasN]; omega
      · rfl
    dsimp only
    rw [e]
    exact wk_cau (by repeat' (first | exact trivial | rfl | refine ⟨?_, ?_⟩ | exact lt_all_v | exact (congrArg some idN_ren_lc.symm) | omega)) (by repeat' (first | exact trivial | rfl | refine ⟨?_, ?_⟩ | exact lt_all_v | exact (congrArg some idN_ren_lc.symm) | omega)) (by simp) (by simp) rfl rfl
  rintro ⟨i, a2, c2⟩ hi
  simp only at hi
  refine brB_dec (fun hit => ?_) (fun hit => ?_)
  · obtain ⟨r, hr⟩ := at_some (xs := t) (k := i) (by dsimp only at hit; omega)
    have hrl := hfull r (List.mem_of_getElem? hr)
    obtain ⟨x, hx⟩ := at_some (xs := r) (k := k) (by omega)
    refine ojs_ex _ (fun A w hF => rowsF_at hr A w (hF _ (List.mem_cons_self ..))) ?_
    rintro ⟨b, off, ra, rc⟩ (rfl : a = some ⟨b, off, none⟩)
    refine ojs_index rfl (by dsimp only at hit; omega) rfl rfl rfl rfl ?_
    refine ojs_load1 _ (List.mem_cons_self ..) celF_at rfl rfl rfl ?_
    refine ojs_fact (slF encR 2 (.slice ra r.length rc) r) (by simp) (fun A w hF => slF_addr hF (by intro e; rw [e] at hx; simp at hx)) ?_
    rintro ⟨rb, ro, rfl⟩
    refine ojs_index rfl (by omega) rfl rfl rfl rfl ?_
    refine ojs_load1 (slF encR 2 (.slice (some ⟨rb, ro, none⟩) r.length rc) r) (by simp) (slF_at hx (j := 1) rfl) rfl rfl rfl ?_
    refine ojs_append 7 rfl rfl rfl rfl rfl rfl rfl rfl rfl (by omega) rfl rfl rfl (srcL (news := [.int .i64 k, .int .i64 i, .int .i64 x.2]) rfl rfl) rfl (by simp [Value.oneCell']) (by omega) (by simp [maxLen]; omega) ?_
    intro a3 c3
    refine ojs_index rfl (by omega) rfl rfl rfl rfl ?_
    refine ojs_load1 (slF encR 2 (.slice (some ⟨rb, ro, none⟩) r.length rc) r) (by simp) (slF_at hx (j := 0) rfl) rfl rfl rfl ?_
    have hcol := colN_at (k := k) hr
    have hhas := hasN_at (k := k) hr
    have hra : rowAt k r = x := by unfold rowAt; rw [List.getD_eq_getElem?_getD, hx]; rfl
    rw [hra] at hcol hhas
    have hfl : (colN k 0 (t.take i)).flatMap encB ++ [Value.int .i64 k, .int .i64 i, .int .i64 x.2] = (colN k 0 (t.take (i + 1))).flatMap encB := by
      rw [hcol, List.flatMap_append]; rfl
    cases hx1 : x.1
    · refine ojs_arith (z := ((i + 1 : Nat) : Int)) (by rw [wrap_in] <;> omega) rfl rfl rfl rfl ?_
      rw [hx1] at hhas
      simp only [Bool.false_eq_true, if_false, Nat.add_zero] at hhas
      refine ⟨(i + 1, a3, c3), by dsimp only at hit ⊢; omega, by dsimp only at hit ⊢; omega, ?_⟩
      dsimp only
      rw [hhas, ← hfl]
      exact wk_cau (by repeat' (first | exact trivial | rfl | refine ⟨?_, ?_⟩ | exact lt_all_v | exact (congrArg some idN_ren_lc.symm) | omega)) (by repeat' (first | exact trivial | rfl | refine ⟨?_, ?_⟩ | exact lt_all_v | exact (congrArg some idN_ren_lc.symm) | omega)) (by simp) (by simp) rfl rfl
    · have h8 : k < (hs.set k (.int .i64 ((hasN k (t.take i) : Nat) : Int))).length := by rw [List.length_set]; omega
      have hle := hasN_len (k := k) (t := t) (i := i)
      refine ojs_indexA rfl (by omega) rfl rfl rfl rfl ?_
      refine ojs_loadO (v := .int .i64 ((hasN k (t.take i) : Nat) : Int)) rfl rfl rfl rfl (by simp only [Nat.zero_add, Nat.mul_one, List.getElem?_set_self (show k < hs.length by omega)]) ?_
      refine ojs_arith (z := ((hasN k (t.take i) + 1 : Nat) : Int)) (by rw [wrap_in] <;> omega) rfl rfl rfl rfl ?_
      refine ojs_indexA rfl (by omega) rfl rfl rfl rfl ?_
      refine ojs_storeO rfl rfl rfl rfl rfl rfl rfl (by simp; omega) ?_
      simp only [Nat.zero_add, Nat.mul_one, List.set_set]
      refine ojs_arith (z := ((i + 1 : Nat) : Int)) (by rw [wrap_in] <;> omega) rfl rfl rfl rfl ?_
      rw [hx1] at hhas
      simp only [if_true] at hhas
      refine ⟨(i + 1, a3, c3), by dsimp only at hit ⊢; omega, by dsimp only at hit ⊢; omega, ?_⟩
      dsimp only
      rw [hhas, ← hfl]
      exact wk_cau (by repeat' (first | exact trivial | rfl | refine ⟨?_, ?_⟩ | exact lt_all_v | exact (congrArg some idN_ren_lc.symm) | omega)) (by repeat' (first | exact trivial | rfl | refine ⟨?_, ?_⟩ | exact lt_all_v | exact (congrArg some idN_ren_lc.symm) | omega)) (by simp) (by simp) rfl rfl
  · obtain rfl : i = t.length := by dsimp only at hit; omega
    rw [List.take_length]
    refine ojs_indexA rfl (by omega) rfl rfl rfl rfl ?_
    refine ojs_loadO (v := .int .i64 ((hasN k t : Nat) : Int)) rfl rfl rfl rfl (by simp only [Nat.zero_add, Nat.mul_one, List.getElem?_set_self (show k < hs.length by omega)]) ?_
    have hgk : decGo t (m - k) k = if 1 < hasN k t then none else (decGo t (m - (k + 1)) (k + 1)).map fun xs => if hasN k t = 0 then bestOf (colN k 0 t) :: xs else xs := by
      rw [show m - k = (m - (k + 1)) + 1 by omega]; rfl
    refine ojs_call [] [] rfl rfl rfl rfl rfl rfl rfl (by simp) (fun _ => must_c _ _) (by simp) (.inl rfl) ?_
    rintro e cs F1 _ ⟨⟨h1, rfl⟩ | ⟨h1, rfl⟩, rfl⟩
    rotate_left
    · refine lv_up [2] caughtUpR (enters_of Try.func28 (by kernel_rfl) rfl) (enters_of Try.func39 (by kernel_rfl) rfl) rfl (by simp) (fun ρ => clearD_c _ _) rfl (lv_ret ?_)
      refine endR_facts [slF encB 3 (.slice none 0 0) []] (fun A w _ f hf => by cases List.mem_singleton.1 hf; exact slF_nil _ _ _ _) ?_
      refine endR_ok [slF encB 3 (.slice none 0 0) []] rfl rfl ⟨rfl, rfl⟩ rfl (fun _ => ?_) (by simp)
      unfold decX
      rw [ht, if_neg (by simp), if_neg (by rw [hm]; simp), Int.toNat_natCast, hgo, hgk, if_pos (by simp at h1; omega)]
      exact ⟨none, 0, rfl, rfl⟩
    have h1 : hasN k t ≤ 1 := by simp at h1; omega
    rw [if_neg (by omega)] at hgk
    refine ojs_indexA rfl (by omega) rfl rfl rfl rfl ?_
    refine ojs_loadO (v := .int .i64 ((hasN k t : Nat) : Int)) rfl rfl rfl rfl (by simp only [Nat.zero_add, Nat.mul_one, List.getElem?_set_self (show k < hs.length by omega)]) ?_
    have fin : ∀ (d2 : List Bk), decGo t m 0 = (decGo t (m - (k + 1)) (k + 1)).map (d2 ++ ·) → d2.length ≤ k + 1 → ∀ a' c', DG.p t m ⟨k + 1, a', c', hs.set k (.int .i64 ((hasN k t : Nat) : Int)), d2⟩ := by
      intro d2 h2 h3 a' c'
      refine ⟨by dsimp only; omega, by simp [hhs], fun j hj1 hj2 => ?_, h2, h3⟩
      dsimp only at hj1 ⊢
      rw [List.getElem?_set_ne (by omega)]
      exact hz j (by omega) hj2
    refine brB_split (fun h0 => ?_) (fun h0 => ?_)
    · have h0 : hasN k t = 0 := by simpa using h0
      refine cjs_weak (wk_seal (j := 7) (enc := encB) (xs := colN k 0 t) (.inl rfl) encB_len (colN_len k 0 t).symm rfl) ?_
      refine cjs_drawn [2, 3, 4, 5] (.op 0 <| .op 1 <| .op 2 <| .op 3 <| .op 4 <| .op 5 .z) [2] [(5, 2)] [] [] (by kernel_rfl) (by kernel_rfl) rfl (by simp) (by simp) ?_
      intro N
      refine ojs_call [] [] rfl rfl rfl rfl rfl rfl rfl (by simp) (fun _ => by have := best_c a2 c2 (colN k 0 t) (by rw [colN_len]; omega); rw [colN_len] at this; exact this) (by simp) (.inl rfl) ?_
      rintro e cs F1 _ ⟨rfl, rfl⟩
      refine ⟨⟨(by repeat' (first | exact trivial | refine ⟨Or.inl rfl, ?_⟩ | refine ⟨Or.inr ⟨rfl, Nat.le_of_ble_eq_true rfl, _, rfl, rfl, rfl⟩, ?_⟩)), by simp⟩, ?_⟩
      refine ⟨⟨(by repeat' (first | exact trivial | refine ⟨Or.inl rfl, ?_⟩ | refine ⟨Or.inr ⟨rfl, Nat.le_of_ble_eq_true rfl, _, rfl, rfl, rfl⟩, ?_⟩)), by simp⟩, ?_⟩
      refine ojs_append 6 rfl rfl rfl rfl rfl rfl rfl rfl rfl (by omega) rfl rfl rfl (srcL (news := encB (bestOf (colN k 0 t))) rfl rfl) rfl (by simp [encB, Value.oneCell']) (by omega) (by simp [maxLen]; omega) ?_
      intro a4 c4
      refine ⟨⟨(by repeat' (first | exact trivial | refine ⟨Or.inl rfl, ?_⟩ | refine ⟨Or.inr ⟨rfl, Nat.le_of_ble_eq_true rfl, _, rfl, rfl, rfl⟩, ?_⟩)), by simp⟩, ?_⟩
      refine ⟨⟨(by repeat' (first | exact trivial | refine ⟨Or.inl rfl, ?_⟩ | refine ⟨Or.inr ⟨rfl, Nat.le_of_ble_eq_true rfl, _, rfl, rfl, rfl⟩, ?_⟩)), by simp⟩, ?_⟩
      refine ojs_arith (z := ((k + 1 : Nat) : Int)) (by rw [wrap_in] <;> omega) rfl rfl rfl rfl ?_
      have hl4 : (done ++ [bestOf (colN k 0 t)]).length = done.length + 1 := by simp
      have hf4 : done.flatMap encB ++ encB (bestOf (colN k 0 t)) = (done ++ [bestOf (colN k 0 t)]).flatMap encB := by simp
      refine ⟨⟨k + 1, a4, c4, hs.set k (.int .i64 ((hasN k t : Nat) : Int)), done ++ [bestOf (colN k 0 t)]⟩, fin _ ?_ (by rw [hl4]; omega) _ _, by dsimp only; omega, ?_⟩
      · rw [hgo, hgk]
        simp [h0, Option.map_map, Function.comp_def]
      · dsimp only
        rw [hl4, ← hf4]
        exact wk_cau (by repeat' (first | exact trivial | rfl | refine ⟨?_, ?_⟩ | exact lt_all_v | exact (congrArg some idN_ren_lc.symm) | omega)) (by repeat' (first | exact trivial | rfl | refine ⟨?_, ?_⟩ | exact lt_all_v | exact (congrArg some idN_ren_lc.symm) | omega)) (by simp) (by simp) rfl rfl
    · have h0 : hasN k t ≠ 0 := by simpa using h0
      refine ojs_arith (z := ((k + 1 : Nat) : Int)) (by rw [wrap_in] <;> omega) rfl rfl rfl rfl ?_
      refine ⟨⟨k + 1, a1, c1, hs.set k (.int .i64 ((hasN k t : Nat) : Int)), done⟩, fin done ?_ (by omega) _ _, by dsimp only; omega, wk_cau (by repeat' (first | exact trivial | rfl | refine ⟨?_, ?_⟩ | exact lt_all_v | exact (congrArg some idN_ren_lc.symm) | omega)) (by repeat' (first | exact trivial | rfl | refine ⟨?_, ?_⟩ | exact lt_all_v | exact (congrArg some idN_ren_lc.symm) | omega)) (by simp) (by simp) rfl rfl⟩
      rw [hgo, hgk]
      simp [h0]

end Go.Proofs.Ytnkpmeplapkobaa
