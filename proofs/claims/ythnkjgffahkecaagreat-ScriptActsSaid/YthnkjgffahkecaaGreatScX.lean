/- Acts, by the symbolic run: which are right, by the reference. -/
import Derived.Test.YthnkjgffahkecaaGreatScW
import Derived.Test.YthnkjgffahkecaaGreatEngZ
namespace Go.Proofs.YthnkjgffahkecaaGreat
open Go.RowKit Go.Shelf

set_option maxRecDepth 20000 in
set_option maxHeartbeats 2000000 in
theorem refRight28_c (c : Cfg) (ad : Option Addr) (cap : Nat) (a : Ac) (hs : shapeB c.n c.l c.s = true) : Cm Tryz.prog 19 [.agg (cfgL c ad cap).toArray, .agg (actL a).toArray] [] [] (rets (.bool (actB c.n c.l c.s a))) := by
  obtain ⟨n, l, s, fs, lim, ret, far, sus, apt⟩ := c
  obtain ⟨E, hE⟩ : ∃ E, E = actEq a (bareX a) := ⟨_, rfl⟩
  simp only at hs ⊢
  have hs2 := shapeB_is hs
  have hP : actB n l s a = true ↔ (1 ≤ a.kind ∧ a.kind ≤ 8) ∧ E = true ∧ (0 ≤ a.node ∧ a.node ≤ n - 1) ∧ (0 ≤ a.at_ ∧ a.at_ ≤ 255) ∧ (0 ≤ a.num ∧ a.num ≤ 255) ∧ (0 ≤ a.k0 ∧ a.k0 ≤ 255) ∧ (0 ≤ a.k1 ∧ a.k1 ≤ 255) ∧ (a.kind = 1 → askB n l s a.ask = true ∧ a.ask.ticks ≤ 255 ∧ a.ask.use ≤ 256 ∧ -128 ≤ a.ask.chg ∧ a.ask.chg ≤ 128) := by
    rw [actB_iff hs, hE, actEq_iff]; rfl
  have hb := refBare_c a
  generalize hbx : bareX a = x at hE hb
  generalize actB n l s a = R at hP ⊢
  obtain ⟨k, node, at_, num, ⟨q, lock, mode, prio, ticks, slot, use, chg⟩, k0, k1⟩ := a
  obtain ⟨k', node', at_', num', ⟨q', lock', mode', prio', ticks', slot', use', chg'⟩, k0', k1'⟩ := x
  simp only at hP
  have bad : ¬ R = true → ∀ (e : Ending) (cs : List (List Value)), e = .returned (.bool false) → rets (.bool R) e cs [] := fun h _ _ e => by
    have : R = false := by simpa using h
    rw [this]; exact ⟨e, rfl⟩
  refine cm_of (tab := tb) (ok := tbOk) [.g [.v (.int .i64 n), .v (.int .i64 l), .v (.int .i64 s), .v (.slice ad fs.length cap), .v (.int .i64 lim), .v (.int .i64 ret), .v (.int .i64 far), .v (.int .i64 sus), .v (.int .i64 apt)], .g [.v (.int .i64 k), .v (.int .i64 node), .v (.int .i64 at_), .v (.int .i64 num), .v (.int .i64 q), .v (.int .i64 lock), .v (.int .i64 mode), .v (.int .i64 prio), .v (.int .i64 ticks), .v (.int .i64 slot), .v (.int .i64 use), .v (.int .i64 chg), .v (.int .i64 k0), .v (.int .i64 k1)]] Tryz.func19 Tryz.ntmps19 rfl rfl (fun _ _ => rfl) ?_
  intro w0 A0
  refine cjs_drawn [9, 19, 25, 31, 38, 45] (.op 0 <| .op 1 <| .op 2 <| .op 3 <| .op 4 <| .op 5 <| .op 6 <| .op 7 <| .op 8 <| .op 9 <| .op 10 <| .op 11 <| .op 12 <| .op 13 <| .op 14 <| .op 15 <| .op 16 <| .op 17 <| .op 18 <| .op 19 <| .op 20 <| .op 21 <| .op 22 <| .op 23 <| .op 24 <| .op 25 <| .op 26 <| .op 27 <| .op 28 <| .op 29 <| .op 30 <| .op 31 <| .op 32 <| .op 33 <| .op 34 <| .op 35 <| .op 36 <| .op 37 <| .op 38 <| .op 39 <| .op 40 <| .op 41 <| .op 42 <| .op 43 <| .op 44 <| .op 45 <| .op 46 <| .op 47 .z) [0, 1] [] [] [] (by kernel_rfl) (by kernel_rfl) rfl (by simp) (by simp) ?_
  intro N
  refine brB_dec (fun h1 => ?_) (fun h1 => ?_)
  · exact endR_ok [] rfl rfl ⟨rfl, rfl⟩ rfl (fun _ => bad (by rw [hP]; omega) _ _ rfl) (by simp)
  refine brB_dec (fun h2 => ?_) (fun h2 => ?_)
  · exact endR_ok [] rfl rfl ⟨rfl, rfl⟩ rfl (fun _ => bad (by rw [hP]; omega) _ _ rfl) (by simp)
  refine ojs_call [] [] rfl rfl rfl rfl rfl rfl rfl (by simp) (fun _ => hb (by dsimp only; omega)) (by simp) (.inl rfl) ?_
  rintro e cs F1 _ ⟨rfl, rfl⟩
  refine ⟨⟨(by repeat' (first | exact trivial | refine ⟨Or.inl rfl, ?_⟩ | refine ⟨Or.inr ⟨rfl, Nat.le_of_ble_eq_true rfl, _, rfl, rfl, rfl⟩, ?_⟩)), by simp⟩, ?_⟩
  refine ⟨_, yd_neF (xs := actL ⟨k, node, at_, num, ⟨q, lock, mode, prio, ticks, slot, use, chg⟩, k0, k1⟩) (ys := actL ⟨k', node', at_', num', ⟨q', lock', mode', prio', ticks', slot', use', chg'⟩, k0', k1'⟩) (ks := [4, 4, 4, 4, 4, 4, 4, 4, 4, 4, 4, 4, 4, 4]) (r := E) (by kernel_rfl) (by kernel_rfl) rfl rfl rfl (fun _ => rfl) (fun _ => rfl) (by rw [hE]; rfl), ?_⟩
  cases E
  · exact endR_ok [] rfl rfl ⟨rfl, rfl⟩ rfl (fun _ => bad (by rw [hP]; simp) _ _ rfl) (by simp)
  refine ⟨_, yd_arith (z := n - 1) (by rw [wrap_in] <;> omega) rfl rfl rfl rfl, ?_⟩
  refine ojs_call [] [] rfl rfl rfl rfl rfl rfl rfl (by simp) (fun _ => refIn28_p node 0 (n - 1)) (by simp) (.inl rfl) ?_
  rintro e cs F1 _ ⟨r, h3, rfl, rfl⟩
  cases r
  · refine ⟨⟨(by repeat' (first | exact trivial | refine ⟨Or.inl rfl, ?_⟩ | refine ⟨Or.inr ⟨rfl, Nat.le_of_ble_eq_true rfl, _, rfl, rfl, rfl⟩, ?_⟩)), by simp⟩, ?_⟩
    exact endR_ok [] rfl rfl ⟨rfl, rfl⟩ rfl (fun _ => bad (by rw [hP]; simp at h3; omega) _ _ rfl) (by simp)
  refine ⟨⟨(by repeat' (first | exact trivial | refine ⟨Or.inl rfl, ?_⟩ | refine ⟨Or.inr ⟨rfl, Nat.le_of_ble_eq_true rfl, _, rfl, rfl, rfl⟩, ?_⟩)), by simp⟩, ?_⟩
  refine ojs_call [] [] rfl rfl rfl rfl rfl rfl rfl (by simp) (fun _ => refIn28_p at_ 0 (255)) (by simp) (.inl rfl) ?_
  rintro e cs F1 _ ⟨r, h4, rfl, rfl⟩
  cases r
  · refine ⟨⟨(by repeat' (first | exact trivial | refine ⟨Or.inl rfl, ?_⟩ | refine ⟨Or.inr ⟨rfl, Nat.le_of_ble_eq_true rfl, _, rfl, rfl, rfl⟩, ?_⟩)), by simp⟩, ?_⟩
    exact endR_ok [] rfl rfl ⟨rfl, rfl⟩ rfl (fun _ => bad (by rw [hP]; simp at h4; omega) _ _ rfl) (by simp)
  refine ⟨⟨(by repeat' (first | exact trivial | refine ⟨Or.inl rfl, ?_⟩ | refine ⟨Or.inr ⟨rfl, Nat.le_of_ble_eq_true rfl, _, rfl, rfl, rfl⟩, ?_⟩)), by simp⟩, ?_⟩
  refine ojs_call [] [] rfl rfl rfl rfl rfl rfl rfl (by simp) (fun _ => refIn28_p num 0 (255)) (by simp) (.inl rfl) ?_
  rintro e cs F1 _ ⟨r, h5, rfl, rfl⟩
  cases r
  · refine ⟨⟨(by repeat' (first | exact trivial | refine ⟨Or.inl rfl, ?_⟩ | refine ⟨Or.inr ⟨rfl, Nat.le_of_ble_eq_true rfl, _, rfl, rfl, rfl⟩, ?_⟩)), by simp⟩, ?_⟩
    exact endR_ok [] rfl rfl ⟨rfl, rfl⟩ rfl (fun _ => bad (by rw [hP]; simp at h5; omega) _ _ rfl) (by simp)
  refine ⟨⟨(by repeat' (first | exact trivial | refine ⟨Or.inl rfl, ?_⟩ | refine ⟨Or.inr ⟨rfl, Nat.le_of_ble_eq_true rfl, _, rfl, rfl, rfl⟩, ?_⟩)), by simp⟩, ?_⟩
  refine ⟨_, yd_indexA (i := 0) rfl (by decide) rfl rfl rfl rfl, ?_⟩
  refine ojs_call [] [] rfl rfl rfl rfl rfl rfl rfl (by simp) (fun _ => refIn28_p k0 0 (255)) (by simp) (.inl rfl) ?_
  rintro e cs F1 _ ⟨r, h6, rfl, rfl⟩
  cases r
  · refine ⟨⟨(by repeat' (first | exact trivial | refine ⟨Or.inl rfl, ?_⟩ | refine ⟨Or.inr ⟨rfl, Nat.le_of_ble_eq_true rfl, _, rfl, rfl, rfl⟩, ?_⟩)), by simp⟩, ?_⟩
    exact endR_ok [] rfl rfl ⟨rfl, rfl⟩ rfl (fun _ => bad (by rw [hP]; simp at h6; omega) _ _ rfl) (by simp)
  refine ⟨⟨(by repeat' (first | exact trivial | refine ⟨Or.inl rfl, ?_⟩ | refine ⟨Or.inr ⟨rfl, Nat.le_of_ble_eq_true rfl, _, rfl, rfl, rfl⟩, ?_⟩)), by simp⟩, ?_⟩
  refine ⟨_, yd_indexA (i := 1) rfl (by decide) rfl rfl rfl rfl, ?_⟩
  refine ojs_call [] [] rfl rfl rfl rfl rfl rfl rfl (by simp) (fun _ => refIn28_p k1 0 (255)) (by simp) (.inl rfl) ?_
  rintro e cs F1 _ ⟨r, h7, rfl, rfl⟩
  cases r
  · refine ⟨⟨(by repeat' (first | exact trivial | refine ⟨Or.inl rfl, ?_⟩ | refine ⟨Or.inr ⟨rfl, Nat.le_of_ble_eq_true rfl, _, rfl, rfl, rfl⟩, ?_⟩)), by simp⟩, ?_⟩
    exact endR_ok [] rfl rfl ⟨rfl, rfl⟩ rfl (fun _ => bad (by rw [hP]; simp at h7; omega) _ _ rfl) (by simp)
  refine ⟨⟨(by repeat' (first | exact trivial | refine ⟨Or.inl rfl, ?_⟩ | refine ⟨Or.inr ⟨rfl, Nat.le_of_ble_eq_true rfl, _, rfl, rfl, rfl⟩, ?_⟩)), by simp⟩, ?_⟩
  have good : (k = 1 → askB n l s ⟨q, lock, mode, prio, ticks, slot, use, chg⟩ = true ∧ ticks ≤ 255 ∧ use ≤ 256 ∧ -128 ≤ chg ∧ chg ≤ 128) → R = true := fun h => hP.2 ⟨by omega, rfl, h3.1 rfl, h4.1 rfl, h5.1 rfl, h6.1 rfl, h7.1 rfl, h⟩
  refine brB_split (fun h8 => ?_) (fun h8 => ?_)
  · have hk1 : k ≠ 1 := by simpa using h8
    exact endR_ok [] rfl rfl ⟨rfl, rfl⟩ rfl (fun _ => ⟨ret_bool (good fun h => absurd h hk1).symm, rfl⟩) (by simp)
  have hk1 : k = 1 := by simpa using h8
  have goodR : ∀ b : Bool, (b = true ↔ askB n l s ⟨q, lock, mode, prio, ticks, slot, use, chg⟩ = true ∧ ticks ≤ 255 ∧ use ≤ 256 ∧ -128 ≤ chg ∧ chg ≤ 128) → b = R := fun b hb => by
    rw [Bool.eq_iff_iff, hb]
    exact ⟨fun h => good fun _ => h, fun h => (hP.1 h).2.2.2.2.2.2.2 hk1⟩
  have hra := refAsk_c ⟨q, lock, mode, prio, ticks, slot, use, chg⟩ n l s
  generalize askB n l s ⟨q, lock, mode, prio, ticks, slot, use, chg⟩ = B at hra goodR
  refine ojs_call [] [] rfl rfl rfl rfl rfl rfl rfl (by simp) (fun _ => hra) (by simp) (.inl rfl) ?_
  rintro e cs F1 _ ⟨rfl, rfl⟩
  cases B
  · exact endR_ok [] rfl rfl ⟨rfl, rfl⟩ rfl (fun _ => ⟨ret_bool (goodR _ (by simp)), rfl⟩) (by simp)
  repeat' (first | (refine endR_ok [] rfl rfl ⟨rfl, rfl⟩ rfl (fun _ => ⟨ret_bool (goodR _ (by simp; omega)), rfl⟩) (by simp); done) | refine brB_dec (fun _ => ?_) (fun _ => ?_))

end Go.Proofs.YthnkjgffahkecaaGreat
