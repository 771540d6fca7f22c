/- Configs, by the symbolic run: which may be. -/
import Derived.Test.YthnkjgffahkecaaGreatScG
namespace Go.Proofs.YthnkjgffahkecaaGreat
open Go.RowKit Go.Shelf

theorem nodeMust_c (b : Bool) (e : Int) : Cm Tryz.prog 75 [.bool b, .int .i64 e] [] [] (mustE 30 b e) := by
  refine cm_of (tab := tb) (ok := tbOk) [.o (.v (.bool b)), .o (.v (.int .i64 e))] Tryz.func75 Tryz.ntmps75 rfl rfl (fun _ _ => rfl) ?_
  intro w0 A0
  cases b
  · refine ojs_yd (yd_iface (by kernel_rfl) rfl rfl) rfl ?_
    refine ojs_panic rfl rfl ?_
    exact endP_ok [] rfl ⟨rfl, rfl⟩ rfl (fun _ => ⟨.inr ⟨rfl, rfl⟩, rfl⟩) (by simp)
  · exact endR_ok [] rfl rfl ⟨rfl, rfl⟩ rfl (fun _ => ⟨.inl ⟨rfl, rfl⟩, rfl⟩) (by simp)
theorem nodeRight_c (b : Bool) : Cm Tryz.prog 51 [.bool b] [] [] (mustE 30 b 2) := by
  refine cm_of (tab := tb) (ok := tbOk) [.o (.v (.bool b))] Tryz.func51 Tryz.ntmps51 rfl rfl (fun _ _ => rfl) ?_
  intro w0 A0
  refine ojs_call [] [] rfl rfl rfl rfl rfl rfl rfl (by simp) (fun _ => nodeMust_c b 2) (by simp) (.inl rfl) ?_
  rintro e cs F1 _ ⟨⟨rfl, rfl⟩ | ⟨rfl, rfl⟩, rfl⟩
  · exact endR_ok [] rfl rfl ⟨rfl, rfl⟩ rfl (fun _ => ⟨.inl ⟨rfl, rfl⟩, rfl⟩) (by simp)
  · exact endP_ok [] rfl ⟨rfl, rfl⟩ rfl (fun _ => ⟨.inr ⟨rfl, rfl⟩, rfl⟩) (by simp)
/-- A counter: its value, floor, version. -/
abbrev Ctr := Int × Int × Int
def ctrL (c : Ctr) : List Value := [.int .i64 c.1, .int .i64 c.2.1, .int .u64 c.2.2]
def ctrB (c : Ctr) : Bool := decide (c.2.1 ≤ c.1) && decide (c.2.2 ≤ 4611686018427387904)
theorem escRight_c (c : Ctr) : Cm Tryz.prog 79 [.agg (ctrL c).toArray] [] [] (rets (.bool (ctrB c))) := by
  refine cm_of (tab := tb) (ok := tbOk) [.g [.v (.int .i64 c.1), .v (.int .i64 c.2.1), .v (.int .u64 c.2.2)]] Tryz.func79 Tryz.ntmps79 rfl rfl (fun _ _ => rfl) ?_
  intro w0 A0
  repeat' (first | (refine endR_ok [] rfl rfl ⟨rfl, rfl⟩ rfl (fun _ => ⟨ret_bool ?_, rfl⟩) (by simp); first | (simp [ctrB, *]; done) | (rw [Bool.eq_iff_iff]; simp [ctrB]; omega)) | refine brB_dec (fun _ => ?_) (fun _ => ?_))
theorem escCheck_c (c : Ctr) : Cm Tryz.prog 54 [.agg (ctrL c).toArray] [] [] (rets (.int .i64 (bif ctrB c then 0 else 2))) := by
  refine cm_of (tab := tb) (ok := tbOk) [.g [.v (.int .i64 c.1), .v (.int .i64 c.2.1), .v (.int .u64 c.2.2)]] Tryz.func54 Tryz.ntmps54 rfl rfl (fun _ _ => rfl) ?_
  intro w0 A0
  refine ojs_call [] [] rfl rfl rfl rfl rfl rfl rfl (by simp) (fun _ => escRight_c c) (by simp) (.inl rfl) ?_
  rintro e cs F1 _ ⟨rfl, rfl⟩
  cases ctrB c
  · exact endR_ok [] rfl rfl ⟨rfl, rfl⟩ rfl (fun _ => ⟨rfl, rfl⟩) (by simp)
  · exact endR_ok [] rfl rfl ⟨rfl, rfl⟩ rfl (fun _ => ⟨rfl, rfl⟩) (by simp)
theorem refCtr_c (c : Ctr) : Cm Tryz.prog 34 [.agg (ctrL c).toArray] [] [] (rets (.bool (ctrB c))) := by
  refine cm_of (tab := tb) (ok := tbOk) [.g [.v (.int .i64 c.1), .v (.int .i64 c.2.1), .v (.int .u64 c.2.2)]] Tryz.func34 Tryz.ntmps34 rfl rfl (fun _ _ => rfl) ?_
  intro w0 A0
  repeat' (first | (refine endR_ok [] rfl rfl ⟨rfl, rfl⟩ rfl (fun _ => ⟨ret_bool ?_, rfl⟩) (by simp); first | (simp [ctrB, *]; done) | (rw [Bool.eq_iff_iff]; simp [ctrB]; omega)) | refine brB_dec (fun _ => ?_) (fun _ => ?_))
/-- A form: whether it is a tree, its counter. -/
abbrev Frm := Bool × Ctr
def frmL (f : Frm) : List Value := [.bool f.1, .int .i64 f.2.1, .int .i64 f.2.2.1, .int .u64 f.2.2.2]
theorem frmL_len (f : Frm) : (frmL f).length = 4 := rfl
/-- A config: its shape, forms, limit, retry, far, suspect, apart. -/
structure Cfg where
  n : Int
  l : Int
  s : Int
  fs : List Frm
  lim : Int
  ret : Int
  far : Int
  sus : Int
  apt : Int
def cfgL (c : Cfg) (a : Option Addr) (cap : Nat) : List Value := [.int .i64 c.n, .int .i64 c.l, .int .i64 c.s, .slice a c.fs.length cap, .int .i64 c.lim, .int .i64 c.ret, .int .i64 c.far, .int .i64 c.sus, .int .i64 c.apt]
def cfgB (c : Cfg) : Bool := shapeB c.n c.l c.s && decide ((c.fs.length : Int) = c.l) && inB c.lim 0 64 && inB c.ret 1 1048576 && inB c.far 1 1048576 && (inB c.sus 2 1048576 && decide (c.ret < c.sus)) && inB c.apt 0 1048576 && c.fs.all fun f => ctrB f.2
def cfgR (c : Cfg) : OutT := fun e _ F1 => ((cfgB c = true ∧ e = .returned (.tuple #[])) ∨ (cfgB c = false ∧ e = .panicked [{ v := .iface 30 (.int .i64 2), recovered := false }])) ∧ F1 = []
theorem all_at {α : Type} {p : α → Bool} {xs : List α} {k : Nat} {x : α} (h : xs.all p = true) (hx : xs[k]? = some x) : p x = true := List.all_eq_true.1 h x (List.mem_of_getElem? hx)
theorem nodeIn_p (b : Bd) (g : Nat) (t : TypeId) : Cm Tryz.prog 53 [.slice (some ⟨g, 0, none⟩) 1 1] [] [blkF g (encBd b) t] (retB (b.2.1 ≤ b.1 ∧ b.1 ≤ b.2.2)) := (nodeIn_c b g t).retB (by
  obtain ⟨x, y, z⟩ := b
  rw [outBd_no]
  simp)
theorem ctr_p (c : Ctr) : Cm Tryz.prog 34 [.agg (ctrL c).toArray] [] [] (retB (ctrB c = true)) := (refCtr_c c).retB Iff.rfl
set_option maxHeartbeats 2000000 in
theorem nodeConfig_c (c : Cfg) (a : Option Addr) (cap : Nat) (hlen : c.fs.length ≤ 1099511627776) (hr : -9223372036854775808 ≤ c.ret) : Cm Tryz.prog 29 [.agg (cfgL c a cap).toArray] [] [slF frmL 4 (.slice a c.fs.length cap) c.fs] (cfgR c) := by
  obtain ⟨n, l, s, fs, lim, ret, far, sus, apt⟩ := c
  simp only at hlen hr
  have hP : cfgB ⟨n, l, s, fs, lim, ret, far, sus, apt⟩ = true ↔ shapeB n l s = true ∧ (fs.length : Int) = l ∧ (0 ≤ lim ∧ lim ≤ 64) ∧ (1 ≤ ret ∧ ret ≤ 1048576) ∧ (1 ≤ far ∧ far ≤ 1048576) ∧ (2 ≤ sus ∧ sus ≤ 1048576 ∧ ret < sus) ∧ (0 ≤ apt ∧ apt ≤ 1048576) ∧ (fs.all fun f => ctrB f.2) = true := by
    simp only [cfgB, Bool.and_eq_true, inB_iff, decide_eq_true_eq, and_assoc]
  have bad : ¬ cfgB ⟨n, l, s, fs, lim, ret, far, sus, apt⟩ = true → ∀ cs, cfgR ⟨n, l, s, fs, lim, ret, far, sus, apt⟩ (.panicked [{ v := .iface 30 (.int .i64 2), recovered := false }]) cs [] := fun h _ => ⟨.inr ⟨by simpa using h, rfl⟩, rfl⟩
  have good : cfgB ⟨n, l, s, fs, lim, ret, far, sus, apt⟩ = true → ∀ cs, cfgR ⟨n, l, s, fs, lim, ret, far, sus, apt⟩ (.returned (.tuple #[])) cs [] := fun h _ => ⟨.inl ⟨h, rfl⟩, rfl⟩
  generalize cfgB ⟨n, l, s, fs, lim, ret, far, sus, apt⟩ = R at hP bad good
  generalize cfgR ⟨n, l, s, fs, lim, ret, far, sus, apt⟩ = O at bad good ⊢
  refine cm_of (tab := tb) (ok := tbOk) [.g [.v (.int .i64 n), .v (.int .i64 l), .v (.int .i64 s), .v (.slice a fs.length cap), .v (.int .i64 lim), .v (.int .i64 ret), .v (.int .i64 far), .v (.int .i64 sus), .v (.int .i64 apt)]] Tryz.func29 Tryz.ntmps29 rfl rfl (fun _ _ => rfl) ?_
  intro w0 A0
  have hE : shapeE n l s = bif shapeB n l s then 0 else 2 := rfl
  refine ojs_call [] [] rfl rfl rfl rfl rfl rfl rfl (by simp) (fun _ => siteCheck_c n l s) (by simp) (.inl rfl) ?_
  rintro e cs F1 _ ⟨rfl, rfl⟩
  rw [hE]
  cases hs : shapeB n l s
  · refine ojs_call [] [] rfl rfl rfl rfl rfl rfl rfl (by simp) (fun _ => nodeRight_c false) (by simp) (.inl rfl) ?_
    rintro e cs F1 _ ⟨⟨h, _⟩ | ⟨_, rfl⟩, rfl⟩
    · cases h
    · exact endP_ok [] rfl ⟨rfl, rfl⟩ rfl (fun _ => bad (by rw [hP, hs]; simp) _) (by simp)
  obtain ⟨q0, hq0⟩ : ∃ q : Bool, q = ((fs.length : Int) == l) := ⟨_, rfl⟩
  have hq1 : q0 = true ↔ (fs.length : Int) = l := by rw [hq0]; simp
  refine ojs_call [] [] rfl rfl rfl rfl rfl rfl rfl (by simp) (fun _ => (by rw [← hq0]; exact nodeRight_c q0)) (by simp) (.inl rfl) ?_
  rintro e cs F1 _ ⟨⟨h0, rfl⟩ | ⟨h0, rfl⟩, rfl⟩
  rotate_left
  · have h0 : ¬ (fs.length : Int) = l := fun e => by rw [hq1.2 e] at h0; cases h0
    exact endP_ok [] rfl ⟨rfl, rfl⟩ rfl (fun _ => bad (by rw [hP]; omega) _) (by simp)
  replace h0 := hq1.1 h0
  refine ojs_yd (yd_min rfl rfl rfl rfl rfl) rfl ?_
  refine ojs_arith (z := min ret 1048576 + 1) (by rw [wrap_in] <;> omega) rfl rfl rfl rfl ?_
  refine ojs_yd (yd_buildA rfl rfl rfl rfl rfl) rfl ?_
  refine cjs_turns 6 ?_
  refine ojs_yd (yd_arrIdx (i := 0) (m := 5) rfl (by decide) rfl rfl rfl rfl rfl rfl) rfl ?_
  refine ojs_call [2] [] rfl rfl rfl rfl rfl rfl rfl (by simp) (fun ρ => nodeIn_p (lim, 0, 64) (ρ 2) 113) (by simp) (.inr (by rintro e cs F1 ⟨_, _, _, rfl⟩; rfl)) ?_
  rintro e cs F1 _ ⟨r, h1, rfl, rfl⟩
  cases r
  · have h1 : ¬ _ := fun q => Bool.false_ne_true (h1.2 q)
    simp only at h1
    refine ojs_call [] [] rfl rfl rfl rfl rfl rfl rfl (by simp) (fun _ => nodeRight_c false) (by simp) (.inl rfl) ?_
    rintro e cs F1 _ ⟨⟨h, _⟩ | ⟨_, rfl⟩, rfl⟩
    · cases h
    · exact endP_ok [] rfl ⟨rfl, rfl⟩ rfl (fun _ => bad (by rw [hP]; omega) _) (by simp)
  replace h1 := h1.1 rfl
  simp only at h1
  refine ojs_call [] [] rfl rfl rfl rfl rfl rfl rfl (by simp) (fun _ => nodeRight_c true) (by simp) (.inl rfl) ?_
  rintro e cs F1 _ ⟨⟨_, rfl⟩ | ⟨h, _⟩, rfl⟩
  rotate_left
  · cases h
  refine ojs_arith (z := 1) (by decide) rfl rfl rfl rfl ?_
  refine ojs_yd (yd_arrIdx (i := 1) (m := 5) rfl (by decide) rfl rfl rfl rfl rfl rfl) rfl ?_
  refine ojs_call [4] [] rfl rfl rfl rfl rfl rfl rfl (by simp) (fun ρ => nodeIn_p (ret, 1, 1048576) (ρ 4) 113) (by simp) (.inr (by rintro e cs F1 ⟨_, _, _, rfl⟩; rfl)) ?_
  rintro e cs F1 _ ⟨r, h2, rfl, rfl⟩
  cases r
  · have h2 : ¬ _ := fun q => Bool.false_ne_true (h2.2 q)
    simp only at h2
    refine ojs_call [] [] rfl rfl rfl rfl rfl rfl rfl (by simp) (fun _ => nodeRight_c false) (by simp) (.inl rfl) ?_
    rintro e cs F1 _ ⟨⟨h, _⟩ | ⟨_, rfl⟩, rfl⟩
    · cases h
    · exact endP_ok [] rfl ⟨rfl, rfl⟩ rfl (fun _ => bad (by rw [hP]; omega) _) (by simp)
  replace h2 := h2.1 rfl
  simp only at h2
  refine ojs_call [] [] rfl rfl rfl rfl rfl rfl rfl (by simp) (fun _ => nodeRight_c true) (by simp) (.inl rfl) ?_
  rintro e cs F1 _ ⟨⟨_, rfl⟩ | ⟨h, _⟩, rfl⟩
  rotate_left
  · cases h
  refine ojs_arith (z := 2) (by decide) rfl rfl rfl rfl ?_
  refine ojs_yd (yd_arrIdx (i := 2) (m := 5) rfl (by decide) rfl rfl rfl rfl rfl rfl) rfl ?_
  refine ojs_call [6] [] rfl rfl rfl rfl rfl rfl rfl (by simp) (fun ρ => nodeIn_p (far, 1, 1048576) (ρ 6) 113) (by simp) (.inr (by rintro e cs F1 ⟨_, _, _, rfl⟩; rfl)) ?_
  rintro e cs F1 _ ⟨r, h3, rfl, rfl⟩
  cases r
  · have h3 : ¬ _ := fun q => Bool.false_ne_true (h3.2 q)
    simp only at h3
    refine ojs_call [] [] rfl rfl rfl rfl rfl rfl rfl (by simp) (fun _ => nodeRight_c false) (by simp) (.inl rfl) ?_
    rintro e cs F1 _ ⟨⟨h, _⟩ | ⟨_, rfl⟩, rfl⟩
    · cases h
    · exact endP_ok [] rfl ⟨rfl, rfl⟩ rfl (fun _ => bad (by rw [hP]; omega) _) (by simp)
  replace h3 := h3.1 rfl
  simp only at h3
  refine ojs_call [] [] rfl rfl rfl rfl rfl rfl rfl (by simp) (fun _ => nodeRight_c true) (by simp) (.inl rfl) ?_
  rintro e cs F1 _ ⟨⟨_, rfl⟩ | ⟨h, _⟩, rfl⟩
  rotate_left
  · cases h
  refine ojs_arith (z := 3) (by decide) rfl rfl rfl rfl ?_
  refine ojs_yd (yd_arrIdx (i := 3) (m := 5) rfl (by decide) rfl rfl rfl rfl rfl rfl) rfl ?_
  refine ojs_call [8] [] rfl rfl rfl rfl rfl rfl rfl (by simp) (fun ρ => nodeIn_p (sus, min ret 1048576 + 1, 1048576) (ρ 8) 113) (by simp) (.inr (by rintro e cs F1 ⟨_, _, _, rfl⟩; rfl)) ?_
  rintro e cs F1 _ ⟨r, h4, rfl, rfl⟩
  cases r
  · have h4 : ¬ _ := fun q => Bool.false_ne_true (h4.2 q)
    simp only at h4
    refine ojs_call [] [] rfl rfl rfl rfl rfl rfl rfl (by simp) (fun _ => nodeRight_c false) (by simp) (.inl rfl) ?_
    rintro e cs F1 _ ⟨⟨h, _⟩ | ⟨_, rfl⟩, rfl⟩
    · cases h
    · exact endP_ok [] rfl ⟨rfl, rfl⟩ rfl (fun _ => bad (by rw [hP]; omega) _) (by simp)
  replace h4 := h4.1 rfl
  simp only at h4
  refine ojs_call [] [] rfl rfl rfl rfl rfl rfl rfl (by simp) (fun _ => nodeRight_c true) (by simp) (.inl rfl) ?_
  rintro e cs F1 _ ⟨⟨_, rfl⟩ | ⟨h, _⟩, rfl⟩
  rotate_left
  · cases h
  refine ojs_arith (z := 4) (by decide) rfl rfl rfl rfl ?_
  refine ojs_yd (yd_arrIdx (i := 4) (m := 5) rfl (by decide) rfl rfl rfl rfl rfl rfl) rfl ?_
  refine ojs_call [10] [] rfl rfl rfl rfl rfl rfl rfl (by simp) (fun ρ => nodeIn_p (apt, 0, 1048576) (ρ 10) 113) (by simp) (.inr (by rintro e cs F1 ⟨_, _, _, rfl⟩; rfl)) ?_
  rintro e cs F1 _ ⟨r, h5, rfl, rfl⟩
  cases r
  · have h5 : ¬ _ := fun q => Bool.false_ne_true (h5.2 q)
    simp only at h5
    refine ojs_call [] [] rfl rfl rfl rfl rfl rfl rfl (by simp) (fun _ => nodeRight_c false) (by simp) (.inl rfl) ?_
    rintro e cs F1 _ ⟨⟨h, _⟩ | ⟨_, rfl⟩, rfl⟩
    · cases h
    · exact endP_ok [] rfl ⟨rfl, rfl⟩ rfl (fun _ => bad (by rw [hP]; omega) _) (by simp)
  replace h5 := h5.1 rfl
  simp only at h5
  refine ojs_call [] [] rfl rfl rfl rfl rfl rfl rfl (by simp) (fun _ => nodeRight_c true) (by simp) (.inl rfl) ?_
  rintro e cs F1 _ ⟨⟨_, rfl⟩ | ⟨h, _⟩, rfl⟩
  rotate_left
  · cases h
  refine ojs_arith (z := 5) (by decide) rfl rfl rfl rfl ?_
  refine cjs_loopP (γ := Nat) (fun k => k ≤ fs.length ∧ ∀ j x, j < k → fs[j]? = some x → ctrB x.2 = true) (fun k => [(51, .o (.v (.int .i64 k)))]) (fun _ => []) (fun _ => []) (fun k => fs.length - k) 0 ⟨Nat.zero_le _, fun j x hj => by omega⟩ (wk_patch (by repeat' (first | exact trivial | exact Or.inl rfl | refine Or.inr ⟨?_, ?_⟩ | rfl | refine ⟨?_, ?_⟩ | exact lt_all_v)) (by repeat' (first | exact trivial | exact Or.inl rfl | refine Or.inr ⟨?_, ?_⟩ | rfl | refine ⟨?_, ?_⟩ | exact lt_all_v)) (fun f hf => hf) (by simp) D_nil) ?_
  rintro k ⟨hk, hyes⟩
  refine brB_dec (fun h6 => ?_) (fun h6 => ?_)
  · obtain ⟨x, hx⟩ := at_some (xs := fs) (k := k) (by omega)
    refine ojs_fact (slF frmL 4 (.slice a fs.length cap) fs) (by simp) (slF_neE hx) ?_
    rintro ⟨b, off, rfl⟩
    refine ojs_index rfl (by omega) rfl rfl rfl rfl ?_
    refine ojs_loadN (vs := frmL x) (slF frmL 4 (.slice (some ⟨b, off, none⟩) fs.length cap) fs) (by simp) (slF_atN hx) rfl rfl rfl ?_
    refine ojs_call [] [] rfl rfl rfl rfl rfl rfl rfl (by simp) (fun _ => escCheck_c x.2) (by simp) (.inl rfl) ?_
    rintro e cs F1 _ ⟨rfl, rfl⟩
    cases hc : ctrB x.2
    · refine ojs_call [] [] rfl rfl rfl rfl rfl rfl rfl (by simp) (fun _ => nodeRight_c false) (by simp) (.inl rfl) ?_
      rintro e cs F1 _ ⟨⟨h, _⟩ | ⟨_, rfl⟩, rfl⟩
      · cases h
      · refine endP_ok [] rfl ⟨rfl, rfl⟩ rfl (fun _ => bad (fun h => ?_) _) (by simp)
        have := all_at (hP.1 h).2.2.2.2.2.2.2 hx
        rw [hc] at this
        cases this
    · refine ojs_call [] [] rfl rfl rfl rfl rfl rfl rfl (by simp) (fun _ => nodeRight_c true) (by simp) (.inl rfl) ?_
      rintro e cs F1 _ ⟨⟨_, rfl⟩ | ⟨h, _⟩, rfl⟩
      rotate_left
      · cases h
      refine ojs_arith (z := ((k + 1 : Nat) : Int)) (by first | decide | (rw [wrap_in] <;> omega) | (dsimp only; rw [wrap_in] <;> omega)) rfl rfl rfl rfl ?_
      refine ⟨k + 1, ⟨by omega, fun j y hj hy => ?_⟩, (by first | omega | (dsimp only; omega)), wk_patch (by repeat' (first | exact trivial | exact Or.inl rfl | refine Or.inr ⟨?_, ?_⟩ | rfl | refine ⟨?_, ?_⟩ | exact lt_all_v)) (by repeat' (first | exact trivial | exact Or.inl rfl | refine Or.inr ⟨?_, ?_⟩ | rfl | refine ⟨?_, ?_⟩ | exact lt_all_v)) (fun f hf => hf) (by simp) D_nil⟩
      rcases Nat.lt_succ_iff_lt_or_eq.1 hj with h | rfl
      · exact hyes j y h hy
      · rw [hx] at hy; cases hy; exact hc
  · obtain rfl : k = fs.length := by omega
    refine endR_ok [] rfl rfl ⟨rfl, rfl⟩ rfl (fun _ => good (hP.2 ⟨hs, h0, h1, h2, h3, by omega, h5, List.all_eq_true.2 fun x hx => ?_⟩) _) (by simp)
    obtain ⟨j, hj⟩ := List.mem_iff_getElem?.1 hx
    exact hyes j x (List.getElem?_eq_some_iff.1 hj).1 hj
theorem caughtIdleN : CaughtIdle Tryz.prog 27 := by
  intro n pe K lb w
  have hn : ∀ w : World, (binOp .neq 20 .nilIface .nilIface).run Tryz.prog w = .ok (.bool false) w := fun _ => by kernel_rfl
  refine callsDIn_of_wpSIn Tryz.func27 rfl trivial fun c₀ cs hu => ?_
  simp only [Tryz.ntmps27, List.size_toArray, List.length_cons, List.length_nil, Nat.reduceAdd, Nat.reduceSub, Array.replicate_succ, Array.replicate_zero, List.push_toArray, List.append_toArray, List.nil_append, List.cons_append]
  apply wpSIn_seq
  apply wpSIn_region
  simp [wpOpsSIn, go_sem, recoverD, hu, Exit.thenS]
  refine wpSIn_of_wpIn rfl (wpIn_wide.2 ?_)
  generalize hQ : (fun e a' w' => bodyPostS _ _ _ _ _ e a' _ w') = Q
  have HQ := Lib.hid hQ
  clear hQ
  go_wp2
  rw [← HQ.out]
  cases c₀
  simp_all [bodyPostS, results, Tryz.results27]
set_option maxRecDepth 100000 in
set_option maxHeartbeats 1000000 in
theorem caughtUpN : CaughtUp Tryz.prog 27 30 30 := by
  intro nn pe K lb n older w R hnn hE hK hR
  have hn : ∀ (w : World) (n : Int), (binOp .neq 20 (.iface 30 (.int .i64 n)) .nilIface).run Tryz.prog w = .ok (.bool true) w := fun _ _ => by kernel_rfl
  have ht : ∀ (w : World) (n : Int), (Instr.typeAssert (.iface 30 (.int .i64 n)) 20 30 true).run Tryz.prog w = .ok (.tuple #[.int .i64 n, .bool true]) w := fun _ _ => by kernel_rfl
  have eK : ∀ args w, (callFunc K args).run Tryz.prog w = .ok (.enter K args) w := hE
  refine callsDIn_of_wpSIn Tryz.func27 rfl trivial fun c₀ cs hu => ?_
  simp only [Tryz.ntmps27, List.size_toArray, List.length_cons, List.length_nil, Nat.reduceAdd, Nat.reduceSub, Array.replicate_succ, Array.replicate_zero, List.push_toArray, List.append_toArray, List.nil_append, List.cons_append]
  apply wpSIn_seq
  apply wpSIn_region
  simp [wpOpsSIn, go_sem, recoverD, hu, Exit.thenS]
  refine wpSIn_of_wpIn rfl (wpIn_wide.2 ?_)
  generalize hQ : (fun e a' w' => bodyPostS _ _ _ _ _ e a' _ w') = Q
  have HQ := Lib.hid hQ
  clear hQ
  go_wp2_with fail
  refine hK.mono ?_
  rintro e w1 ⟨rfl, hr⟩
  obtain ⟨v, hv⟩ := hR w1 hr
  have c1 := cells1 hv
  go_wp2
  rw [← HQ.out]
  cases c₀
  simp_all [bodyPostS, results, Tryz.results27]
  exact ⟨w1, hr, rfl⟩
theorem rightClr_c : Cm Tryz.prog 28 [] [] [] (fun e cs F1 => e = .returned (.tuple #[]) ∧ cs = [] ∧ F1 = []) := by
  refine cm_of (tab := tb) (ok := tbOk) [] Tryz.func28 Tryz.ntmps28 rfl rfl (fun _ _ => rfl) ?_
  intro w0 A0
  exact endR_ok [] rfl rfl ⟨rfl, rfl⟩ rfl (fun _ => ⟨rfl, rfl, rfl⟩) (by simp)
theorem nodeRightC_c (c : Cfg) (a : Option Addr) (cap : Nat) (hlen : c.fs.length ≤ 1099511627776) (hr : -9223372036854775808 ≤ c.ret) : Cm Tryz.prog 16 [.agg (cfgL c a cap).toArray] [] [slF frmL 4 (.slice a c.fs.length cap) c.fs] (rets (.int .i64 (bif cfgB c then 0 else 2))) := by
  refine cm_ofD (tab := tb) (ok := tbOk) [.g [.v (.int .i64 c.n), .v (.int .i64 c.l), .v (.int .i64 c.s), .v (.slice a c.fs.length cap), .v (.int .i64 c.lim), .v (.int .i64 c.ret), .v (.int .i64 c.far), .v (.int .i64 c.sus), .v (.int .i64 c.apt)]] Tryz.func16 Tryz.ntmps16 rfl rfl (fun _ _ => rfl) ?_
  intro w0 A0
  refine ojs_caughtV rfl rfl rfl rfl rfl rfl rfl rfl ?_
  refine ojs_call [] [] rfl rfl rfl rfl rfl rfl rfl (by simp) (fun _ => nodeConfig_c c a cap hlen hr) (by simp) (.inl rfl) ?_
  rintro e cs F1 _ ⟨⟨hc, rfl⟩ | ⟨hc, rfl⟩, rfl⟩
  · refine lv_idle caughtIdleN (enters_of Tryz.func27 (by kernel_rfl) rfl) (lv_ret ?_)
    exact endR_ok [] rfl rfl ⟨rfl, rfl⟩ rfl (fun _ => ⟨by rw [hc]; rfl, rfl⟩) (by simp)
  · refine lv_up [] caughtUpN (enters_of Tryz.func27 (by kernel_rfl) rfl) (enters_of Tryz.func28 (by kernel_rfl) rfl) rfl (by simp) (fun ρ => rightClr_c) rfl (lv_ret ?_)
    exact endR_ok [] rfl rfl ⟨rfl, rfl⟩ rfl (fun _ => ⟨by rw [hc]; rfl, rfl⟩) (by simp)

end Go.Proofs.YthnkjgffahkecaaGreat
