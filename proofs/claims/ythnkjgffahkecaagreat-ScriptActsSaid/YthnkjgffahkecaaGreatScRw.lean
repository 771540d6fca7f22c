/- Acts, by the symbolic run: the law ScriptRaws. -/
import Derived.Test.YthnkjgffahkecaaGreatScWk
namespace Go.Proofs.YthnkjgffahkecaaGreat
open Go.RowKit Go.Shelf

set_option maxHeartbeats 2000000 in
theorem lawRaws_c (c : Cfg) (ad : Option Addr) (cap : Nat) (al : Option Addr) (capl : Nat) (la : List Ac) (hr : -9223372036854775808 ≤ c.ret) (hw : ∀ a ∈ la, AcOk2 a) :
    Cm Tryz.prog 3 [.agg (cfgL c ad cap).toArray, .slice al la.length capl] [] [slF frmL 4 (.slice ad c.fs.length cap) c.fs, slF actL 14 (.slice al la.length capl) la] (rets (.bool true)) := by
  refine cm_of (tab := tb) (ok := tbOk) [.g [.v (.int .i64 c.n), .v (.int .i64 c.l), .v (.int .i64 c.s), .v (.slice ad c.fs.length cap), .v (.int .i64 c.lim), .v (.int .i64 c.ret), .v (.int .i64 c.far), .v (.int .i64 c.sus), .v (.int .i64 c.apt)], .o (.v (.slice al la.length capl))] Tryz.func3 Tryz.ntmps3 rfl rfl (fun _ _ => rfl) ?_
  intro w0 A0
  refine brB_dec (fun g1 => ?_) (fun g1 => ?_)
  · refine ojs_call [] [] rfl rfl rfl rfl rfl rfl rfl (by simp) (fun _ => works_c) (by simp) (.inl rfl) ?_
    rintro e cs F1 _ ⟨rfl, rfl⟩
    exact endR_ok [] rfl rfl ⟨rfl, rfl⟩ rfl (fun _ => ⟨rfl, rfl⟩) (by simp)
  refine brB_dec (fun g2 => ?_) (fun g2 => ?_)
  · refine ojs_call [] [] rfl rfl rfl rfl rfl rfl rfl (by simp) (fun _ => works_c) (by simp) (.inl rfl) ?_
    rintro e cs F1 _ ⟨rfl, rfl⟩
    exact endR_ok [] rfl rfl ⟨rfl, rfl⟩ rfl (fun _ => ⟨rfl, rfl⟩) (by simp)
  have hlen : c.fs.length ≤ 1099511627776 := by omega
  have hla : la.length ≤ 1000 := by omega
  refine cjs_loopP (γ := Nat) (fun k => k ≤ la.length) (fun k => [(5, .o (.v (.int .i64 k)))]) (fun _ => []) (fun _ => []) (fun k => la.length - k) 0 (Nat.zero_le _) (wk_patch (by repeat' (first | exact trivial | exact Or.inl rfl | refine Or.inr ⟨?_, ?_⟩ | rfl | refine ⟨?_, ?_⟩ | exact lt_all_v)) (by repeat' (first | exact trivial | exact Or.inl rfl | refine Or.inr ⟨?_, ?_⟩ | rfl | refine ⟨?_, ?_⟩ | exact lt_all_v)) (fun f hf => hf) (by simp) D_nil) ?_
  intro k hk
  refine brB_dec (fun g3 => ?_) (fun g3 => ?_)
  · have hkl : k < la.length := by omega
    obtain ⟨a, ha⟩ := at_some (xs := la) (k := k) hkl
    have hwa := hw a (List.mem_of_getElem? ha)
    refine cjs_fact (slF actL 14 (.slice al la.length capl) la) (by simp) (slF_neE ha) ?_
    rintro ⟨b, off, rfl⟩
    have hc1 := scriptCheck_c c ad cap a hlen hr hwa.1
    have hc2 := refCheck28_c c ad cap a hlen
    obtain ⟨E, hE⟩ : ∃ E : Int, E = bif cfgB c then (bif actB c.n c.l c.s a then 0 else 350) else 2 := ⟨_, rfl⟩
    rw [← hE] at hc1 hc2
    refine cjs_drawn [5, 6, 12] (.op 0 <| .op 1 <| .op 2 <| .op 3 <| .op 4 <| .op 7 <| .op 8 <| .op 9 <| .op 10 <| .op 11 <| .op 5 <| .op 6 <| .op 12 <| .op 13 .z) [0] [] [] [slF frmL 4 (.slice ad c.fs.length cap) c.fs, slF actL 14 (.slice (some ⟨b, off, none⟩) la.length capl) la] (by kernel_rfl) (by kernel_rfl) rfl (by simp) (by simp) ?_
    intro N
    refine ⟨_, yd_index (i := k) rfl hkl rfl rfl rfl rfl, ?_⟩
    refine ⟨_, yd_loadN (vs := actL a) (slF actL 14 (.slice (some ⟨b, off, none⟩) la.length capl) la) (by simp) (slF_atN ha) rfl rfl rfl, ?_⟩
    refine ⟨_, yd_index (i := k) rfl hkl rfl rfl rfl rfl, ?_⟩
    refine ⟨_, yd_loadN (vs := actL a) (slF actL 14 (.slice (some ⟨b, off, none⟩) la.length capl) la) (by simp) (slF_atN ha) rfl rfl rfl, ?_⟩
    refine ojs_call [] [] rfl rfl rfl rfl rfl rfl rfl (by simp) (fun _ => hc1) (by simp) (.inl rfl) ?_
    rintro e cs F1 _ ⟨rfl, rfl⟩
    refine ⟨⟨(by repeat' (first | exact trivial | refine ⟨Or.inl rfl, ?_⟩ | refine ⟨Or.inr ⟨rfl, Nat.le_of_ble_eq_true rfl, _, rfl, rfl, rfl⟩, ?_⟩)), by simp⟩, ?_⟩
    refine ojs_call [] [] rfl rfl rfl rfl rfl rfl rfl (by simp) (fun _ => num_c E) (by simp) (.inl rfl) ?_
    rintro e cs F1 _ ⟨rfl, rfl⟩
    refine ⟨⟨(by repeat' (first | exact trivial | refine ⟨Or.inl rfl, ?_⟩ | refine ⟨Or.inr ⟨rfl, Nat.le_of_ble_eq_true rfl, _, rfl, rfl, rfl⟩, ?_⟩)), by simp⟩, ?_⟩
    refine ojs_call [] [] rfl rfl rfl rfl rfl rfl rfl (by simp) (fun _ => hc2) (by simp) (.inl rfl) ?_
    rintro e cs F1 _ ⟨rfl, rfl⟩
    refine ⟨⟨(by repeat' (first | exact trivial | refine ⟨Or.inl rfl, ?_⟩ | refine ⟨Or.inr ⟨rfl, Nat.le_of_ble_eq_true rfl, _, rfl, rfl, rfl⟩, ?_⟩)), by simp⟩, ?_⟩
    refine brB_split (fun h => ?_) (fun _ => ?_)
    · simp at h
    refine ojs_arith (z := ((k + 1 : Nat) : Int)) (by first | decide | (rw [wrap_in] <;> omega) | (dsimp only; rw [wrap_in] <;> omega)) rfl rfl rfl rfl ?_
    exact ⟨k + 1, hkl, (by first | omega | (dsimp only; omega)), wk_patch (by repeat' (first | exact trivial | exact Or.inl rfl | refine Or.inr ⟨?_, ?_⟩ | rfl | refine ⟨?_, ?_⟩ | exact lt_all_v)) (by repeat' (first | exact trivial | exact Or.inl rfl | refine Or.inr ⟨?_, ?_⟩ | rfl | refine ⟨?_, ?_⟩ | exact lt_all_v)) (by simp) (by simp) D_nil⟩
  · have hr1 := scriptRaw_c c ad cap al capl la hlen hr hla hw
    have hr2 := refRaw_c c ad cap al capl la hlen hla
    obtain ⟨x, hx⟩ : ∃ x, x = rawX c la := ⟨_, rfl⟩
    rw [← hx] at hr1 hr2
    refine ojs_call [] [] rfl rfl rfl rfl rfl rfl rfl (by simp) (fun _ => hr1) (by simp) (.inl rfl) ?_
    rintro e cs F1 _ ⟨a2, c2, rfl, rfl⟩
    refine ojs_call [] [] rfl rfl rfl rfl rfl rfl rfl (by simp) (fun _ => hr2) (by simp) (.inl rfl) ?_
    rintro e cs F1 _ ⟨a3, c3, rfl, rfl⟩
    refine ojs_yd (yd_str (xs := x.1) (by simp) (by kernel_rfl) (by kernel_rfl) rfl rfl) rfl ?_
    refine ojs_yd (yd_str (xs := x.1) (by simp) (by kernel_rfl) (by kernel_rfl) rfl rfl) rfl ?_
    refine ojs_yd (yd_strNe (r := false) (by simp) rfl rfl rfl) rfl ?_
    refine ojs_call [] [] rfl rfl rfl rfl rfl rfl rfl (by simp) (fun _ => num_c x.2) (by simp) (.inl rfl) ?_
    rintro e cs F1 _ ⟨rfl, rfl⟩
    refine brB_split (fun h => ?_) (fun _ => ?_)
    · simp at h
    refine brB_split (fun h => ?_) (fun h => ?_)
    · refine ojs_call [] [] rfl rfl rfl rfl rfl rfl rfl (by simp) (fun _ => works_c) (by simp) (.inl rfl) ?_
      rintro e cs F1 _ ⟨rfl, rfl⟩
      exact endR_ok [] rfl rfl ⟨rfl, rfl⟩ rfl (fun _ => ⟨rfl, rfl⟩) (by simp)
    have hx0 : x.2 = 0 := by simpa using h
    have hraw : cfgB c = true ∧ la.all (actB c.n c.l c.s) = true ∧ x.1 = la.flatMap (rawA c.n c.l c.s) := by
      rw [hx] at hx0 ⊢
      unfold rawX at hx0 ⊢
      cases hc : cfgB c
      · rw [hc] at hx0; simp at hx0
      · rw [hc] at hx0
        cases hb : la.all (actB c.n c.l c.s)
        · rw [hb] at hx0; simp at hx0
        · exact ⟨rfl, rfl, rfl⟩
    have hxb : ∀ b ∈ x.1, 0 ≤ b ∧ b ≤ 255 := by rw [hraw.2.2]; exact raw_bd
    have hxl : x.1.length ≤ 1000000 := by rw [hraw.2.2]; have := flat_le (la := la) (n := c.n) (l := c.l) (s := c.s); omega
    have ha1 := acts_c c ad cap a2 c2 x.1 hlen hr hxl hxb
    have hax : actsX c x.1 = la := by rw [hraw.2.2]; exact acts_raw hraw.1 hraw.2.1
    rw [hax] at ha1
    refine ojs_call [] [] rfl rfl rfl rfl rfl rfl rfl (by simp) (fun _ => ha1) (by simp) (.inl rfl) ?_
    rintro e cs F1 _ ⟨a4, c4, rfl, rfl⟩
    have h4 := sameActs_c a4 c4 la al capl la (by omega)
    refine ojs_call [] [] rfl rfl rfl rfl rfl rfl rfl (by simp) (fun _ => h4) (by simp) (.inl rfl) ?_
    rintro e cs F1 _ ⟨r, h5, rfl, rfl⟩
    cases r
    · simp at h5
    refine ojs_call [] [] rfl rfl rfl rfl rfl rfl rfl (by simp) (fun _ => works_c) (by simp) (.inl rfl) ?_
    rintro e cs F1 _ ⟨rfl, rfl⟩
    exact endR_ok [] rfl rfl ⟨rfl, rfl⟩ rfl (fun _ => ⟨rfl, rfl⟩) (by simp)

end Go.Proofs.YthnkjgffahkecaaGreat
