/- Configs, by the symbolic run: which may be, by the reference. -/
import Derived.Test.YthnkjgffahkecaaGreatScH
namespace Go.Proofs.YthnkjgffahkecaaGreat
open Go.RowKit Go.Shelf

theorem refCap_c (z : Int) : Cm Tryz.prog 32 [.int .i64 z] [] [] (retB (0 ≤ z ∧ z ≤ 64)) := by
  refine Cm.retB (b := inB z 0 64) ?_ inB_iff
  refine cm_of (tab := tb) (ok := tbOk) [.o (.v (.int .i64 z))] Tryz.func32 Tryz.ntmps32 rfl rfl (fun _ _ => rfl) ?_
  intro w0 A0
  repeat' (first | (refine endR_ok [] rfl rfl ⟨rfl, rfl⟩ rfl (fun _ => ⟨ret_bool ?_, rfl⟩) (by simp); first | (simp [inB, *]; done) | (rw [Bool.eq_iff_iff]; simp [inB]; omega)) | refine brB_dec (fun _ => ?_) (fun _ => ?_))
theorem refSpan_c (z a : Int) : Cm Tryz.prog 33 [.int .i64 z, .int .i64 a] [] [] (retB (a ≤ z ∧ z ≤ 1048576)) := by
  refine Cm.retB (b := inB z a 1048576) ?_ inB_iff
  refine cm_of (tab := tb) (ok := tbOk) [.o (.v (.int .i64 z)), .o (.v (.int .i64 a))] Tryz.func33 Tryz.ntmps33 rfl rfl (fun _ _ => rfl) ?_
  intro w0 A0
  repeat' (first | (refine endR_ok [] rfl rfl ⟨rfl, rfl⟩ rfl (fun _ => ⟨ret_bool ?_, rfl⟩) (by simp); first | (simp [inB, *]; done) | (rw [Bool.eq_iff_iff]; simp [inB]; omega)) | refine brB_dec (fun _ => ?_) (fun _ => ?_))
set_option maxRecDepth 20000 in
set_option maxHeartbeats 1000000 in
theorem refCfg_c (c : Cfg) (a : Option Addr) (cap : Nat) (hlen : c.fs.length ≤ 1099511627776) : Cm Tryz.prog 18 [.agg (cfgL c a cap).toArray] [] [slF frmL 4 (.slice a c.fs.length cap) c.fs] (rets (.bool (cfgB c))) := by
  obtain ⟨n, l, s, fs, lim, ret, far, sus, apt⟩ := c
  simp only at hlen
  have hP : cfgB ⟨n, l, s, fs, lim, ret, far, sus, apt⟩ = true ↔ shapeB n l s = true ∧ (fs.length : Int) = l ∧ (0 ≤ lim ∧ lim ≤ 64) ∧ (1 ≤ ret ∧ ret ≤ 1048576) ∧ (1 ≤ far ∧ far ≤ 1048576) ∧ (2 ≤ sus ∧ sus ≤ 1048576 ∧ ret < sus) ∧ (0 ≤ apt ∧ apt ≤ 1048576) ∧ (fs.all fun f => ctrB f.2) = true := by
    simp only [cfgB, Bool.and_eq_true, inB_iff, decide_eq_true_eq, and_assoc]
  generalize cfgB ⟨n, l, s, fs, lim, ret, far, sus, apt⟩ = R at hP ⊢
  have bad : ¬ R = true → ∀ (e : Ending) (cs : List (List Value)), e = .returned (.bool false) → rets (.bool R) e cs [] := fun h _ _ e => by
    have : R = false := by simpa using h
    rw [this]; exact ⟨e, rfl⟩
  refine cm_of (tab := tb) (ok := tbOk) [.g [.v (.int .i64 n), .v (.int .i64 l), .v (.int .i64 s), .v (.slice a fs.length cap), .v (.int .i64 lim), .v (.int .i64 ret), .v (.int .i64 far), .v (.int .i64 sus), .v (.int .i64 apt)]] Tryz.func18 Tryz.ntmps18 rfl rfl (fun _ _ => rfl) ?_
  intro w0 A0
  refine ojs_call [] [] rfl rfl rfl rfl rfl rfl rfl (by simp) (fun _ => refShape_c n l s) (by simp) (.inl rfl) ?_
  rintro e cs F1 _ ⟨rfl, rfl⟩
  cases hs : shapeB n l s
  · exact endR_ok [] rfl rfl ⟨rfl, rfl⟩ rfl (fun _ => bad (by rw [hP, hs]; simp) _ _ rfl) (by simp)
  refine brB_split (fun h0 => ?_) (fun h0 => ?_)
  · have h0 : ¬ (fs.length : Int) = l := by simpa using h0
    exact endR_ok [] rfl rfl ⟨rfl, rfl⟩ rfl (fun _ => bad (by rw [hP]; omega) _ _ rfl) (by simp)
  have h0 : (fs.length : Int) = l := by simpa using h0
  refine ojs_call [] [] rfl rfl rfl rfl rfl rfl rfl (by simp) (fun _ => refCap_c lim) (by simp) (.inl rfl) ?_
  rintro e cs F1 _ ⟨r, h1, rfl, rfl⟩
  cases r
  · have h1 : ¬ _ := fun q => Bool.false_ne_true (h1.2 q)
    exact endR_ok [] rfl rfl ⟨rfl, rfl⟩ rfl (fun _ => bad (by rw [hP]; omega) _ _ rfl) (by simp)
  replace h1 := h1.1 rfl
  refine ojs_call [] [] rfl rfl rfl rfl rfl rfl rfl (by simp) (fun _ => refSpan_c ret 1) (by simp) (.inl rfl) ?_
  rintro e cs F1 _ ⟨r, h2, rfl, rfl⟩
  cases r
  · have h2 : ¬ _ := fun q => Bool.false_ne_true (h2.2 q)
    exact endR_ok [] rfl rfl ⟨rfl, rfl⟩ rfl (fun _ => bad (by rw [hP]; omega) _ _ rfl) (by simp)
  replace h2 := h2.1 rfl
  refine ojs_call [] [] rfl rfl rfl rfl rfl rfl rfl (by simp) (fun _ => refSpan_c far 1) (by simp) (.inl rfl) ?_
  rintro e cs F1 _ ⟨r, h3, rfl, rfl⟩
  cases r
  · have h3 : ¬ _ := fun q => Bool.false_ne_true (h3.2 q)
    exact endR_ok [] rfl rfl ⟨rfl, rfl⟩ rfl (fun _ => bad (by rw [hP]; omega) _ _ rfl) (by simp)
  replace h3 := h3.1 rfl
  refine ojs_call [] [] rfl rfl rfl rfl rfl rfl rfl (by simp) (fun _ => refSpan_c sus 2) (by simp) (.inl rfl) ?_
  rintro e cs F1 _ ⟨r, h4, rfl, rfl⟩
  cases r
  · have h4 : ¬ _ := fun q => Bool.false_ne_true (h4.2 q)
    exact endR_ok [] rfl rfl ⟨rfl, rfl⟩ rfl (fun _ => bad (by rw [hP]; omega) _ _ rfl) (by simp)
  replace h4 := h4.1 rfl
  refine brB_dec (fun h7 => ?_) (fun h7 => ?_)
  · exact endR_ok [] rfl rfl ⟨rfl, rfl⟩ rfl (fun _ => bad (by rw [hP]; omega) _ _ rfl) (by simp)
  refine ojs_call [] [] rfl rfl rfl rfl rfl rfl rfl (by simp) (fun _ => refSpan_c apt 0) (by simp) (.inl rfl) ?_
  rintro e cs F1 _ ⟨r, h5, rfl, rfl⟩
  cases r
  · have h5 : ¬ _ := fun q => Bool.false_ne_true (h5.2 q)
    exact endR_ok [] rfl rfl ⟨rfl, rfl⟩ rfl (fun _ => bad (by rw [hP]; omega) _ _ rfl) (by simp)
  replace h5 := h5.1 rfl
  refine cjs_loopP (γ := Nat) (fun k => k ≤ fs.length ∧ ∀ j x, j < k → fs[j]? = some x → ctrB x.2 = true) (fun k => [(3, .o (.v (.int .i64 k)))]) (fun _ => []) (fun _ => []) (fun k => fs.length - k) 0 ⟨Nat.zero_le _, fun j x hj => by omega⟩ (wk_patch (by repeat' (first | exact trivial | exact Or.inl rfl | refine Or.inr ⟨?_, ?_⟩ | rfl | refine ⟨?_, ?_⟩ | exact lt_all_v)) (by repeat' (first | exact trivial | exact Or.inl rfl | refine Or.inr ⟨?_, ?_⟩ | rfl | refine ⟨?_, ?_⟩ | exact lt_all_v)) (fun f hf => hf) (by simp) D_nil) ?_
  rintro k ⟨hk, hyes⟩
  refine brB_dec (fun h6 => ?_) (fun h6 => ?_)
  · obtain ⟨x, hx⟩ := at_some (xs := fs) (k := k) (by omega)
    refine ojs_fact (slF frmL 4 (.slice a fs.length cap) fs) (by simp) (slF_neE hx) ?_
    rintro ⟨b, off, rfl⟩
    refine ojs_index rfl (by omega) rfl rfl rfl rfl ?_
    refine ojs_loadN (vs := ctrL x.2) (slF frmL 4 (.slice (some ⟨b, off, none⟩) fs.length cap) fs) (by simp) (fun A w h j u hu => by rw [Nat.add_assoc]; exact slF_at (j := 1 + j) hx (by rw [Nat.add_comm]; exact hu) A w h) rfl rfl rfl ?_
    refine ojs_call [] [] rfl rfl rfl rfl rfl rfl rfl (by simp) (fun _ => ctr_p x.2) (by simp) (.inl rfl) ?_
    rintro e cs F1 _ ⟨r, hc, rfl, rfl⟩
    cases r
    · refine endR_ok [] rfl rfl ⟨rfl, rfl⟩ rfl (fun _ => bad (fun h => ?_) _ _ rfl) (by simp)
      have := all_at (hP.1 h).2.2.2.2.2.2.2 hx
      exact Bool.false_ne_true (hc.2 this)
    · refine ojs_arith (z := ((k + 1 : Nat) : Int)) (by first | decide | (rw [wrap_in] <;> omega) | (dsimp only; rw [wrap_in] <;> omega)) rfl rfl rfl rfl ?_
      refine ⟨k + 1, ⟨by omega, fun j y hj hy => ?_⟩, (by first | omega | (dsimp only; omega)), wk_patch (by repeat' (first | exact trivial | exact Or.inl rfl | refine Or.inr ⟨?_, ?_⟩ | rfl | refine ⟨?_, ?_⟩ | exact lt_all_v)) (by repeat' (first | exact trivial | exact Or.inl rfl | refine Or.inr ⟨?_, ?_⟩ | rfl | refine ⟨?_, ?_⟩ | exact lt_all_v)) (fun f hf => hf) (by simp) D_nil⟩
      rcases Nat.lt_succ_iff_lt_or_eq.1 hj with h | rfl
      · exact hyes j y h hy
      · rw [hx] at hy; cases hy; exact hc.1 rfl
  · obtain rfl : k = fs.length := by omega
    have hR : R = true := hP.2 ⟨hs, h0, h1, h2, h3, by omega, h5, List.all_eq_true.2 fun x hx => by
      obtain ⟨j, hj⟩ := List.mem_iff_getElem?.1 hx
      exact hyes j x (List.getElem?_eq_some_iff.1 hj).1 hj⟩
    rw [hR]
    exact endR_ok [] rfl rfl ⟨rfl, rfl⟩ rfl (fun _ => ⟨rfl, rfl⟩) (by simp)

end Go.Proofs.YthnkjgffahkecaaGreat
