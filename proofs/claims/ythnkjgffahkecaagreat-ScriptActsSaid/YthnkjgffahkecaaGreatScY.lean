/- Acts, by the symbolic run: their bytes, by the reference. -/
import Derived.Test.YthnkjgffahkecaaGreatScX
namespace Go.Proofs.YthnkjgffahkecaaGreat
open Go.RowKit Go.Shelf

set_option maxHeartbeats 2000000 in
theorem bytes_raw {n l s : Int} (hs : shapeB n l s = true) {a : Ac} (h : actB n l s a = true) : bytesX a = rawA n l s a := by
  obtain ⟨hk, hb, h3, h4, h5, h6, h7, h8⟩ := (actB_iff hs).1 h
  clear hb h
  obtain ⟨k, node, at_, num, ⟨q, lock, mode, prio, ticks, slot, use, chg⟩, k0, k1⟩ := a
  simp only at hk h3 h4 h5 h6 h7 h8
  have hz : k = 1 ∨ k = 2 ∨ k = 3 ∨ k = 4 ∨ k = 5 ∨ k = 6 ∨ k = 7 ∨ k = 8 := by omega
  rcases hz with rfl | rfl | rfl | rfl | rfl | rfl | rfl | rfl
  · obtain ⟨hA, h9, h10, h11, h12⟩ := h8 rfl
    have hA2 := hA
    unfold askB at hA2
    have hq : 1 ≤ q ∧ q ≤ 7 := by
      simp only [Bool.and_eq_true, decide_eq_true_eq] at hA2
      omega
    have hz : q = 1 ∨ q = 2 ∨ q = 3 ∨ q = 4 ∨ q = 5 ∨ q = 6 ∨ q = 7 := by omega
    rcases hz with rfl | rfl | rfl | rfl | rfl | rfl | rfl
    rotate_right
    · simp [hs] at hA2
      simp [bytesX, rawA, rawP, namedS, asksS, tickS, sNodes, sKind, sLocks, sSlots, sUses, sChanges, byX, byG]
      by_cases h0 : 0 < chg
      · rw [if_neg (by omega), if_pos h0, show chg - 1 + 128 = chg + 127 by omega]
      · rw [if_pos (by omega), if_neg h0]
    all_goals simp [bytesX, rawA, rawP, namedS, asksS, tickS, sNodes, sKind, sLocks, sModes, sPrios, sTicks, sSlots, sUses]
  all_goals simp [bytesX, rawA, rawP, namedS, sNodes, sPlaces, sStops, sKept]
theorem refCheck28_c (c : Cfg) (ad : Option Addr) (cap : Nat) (a : Ac) (hlen : c.fs.length ≤ 1099511627776) : Cm Tryz.prog 8 [.agg (cfgL c ad cap).toArray, .agg (actL a).toArray] [] [slF frmL 4 (.slice ad c.fs.length cap) c.fs] (rets (.int .i64 (bif cfgB c then (bif actB c.n c.l c.s a then 0 else 350) else 2))) := by
  refine cm_of (tab := tb) (ok := tbOk) [.g [.v (.int .i64 c.n), .v (.int .i64 c.l), .v (.int .i64 c.s), .v (.slice ad c.fs.length cap), .v (.int .i64 c.lim), .v (.int .i64 c.ret), .v (.int .i64 c.far), .v (.int .i64 c.sus), .v (.int .i64 c.apt)], .g [.v (.int .i64 a.kind), .v (.int .i64 a.node), .v (.int .i64 a.at_), .v (.int .i64 a.num), .v (.int .i64 a.ask.kind), .v (.int .i64 a.ask.lock), .v (.int .i64 a.ask.mode), .v (.int .i64 a.ask.prio), .v (.int .i64 a.ask.ticks), .v (.int .i64 a.ask.slot), .v (.int .i64 a.ask.use), .v (.int .i64 a.ask.chg), .v (.int .i64 a.k0), .v (.int .i64 a.k1)]] Tryz.func8 Tryz.ntmps8 rfl rfl (fun _ _ => rfl) ?_
  intro w0 A0
  refine ojs_call [] [] rfl rfl rfl rfl rfl rfl rfl (by simp) (fun _ => refCfg_c c ad cap hlen) (by simp) (.inl rfl) ?_
  rintro e cs F1 _ ⟨rfl, rfl⟩
  cases hc : cfgB c
  · exact endR_ok [] rfl rfl ⟨rfl, rfl⟩ rfl (fun _ => ⟨rfl, rfl⟩) (by simp)
  have hs : shapeB c.n c.l c.s = true := by simp only [cfgB, Bool.and_eq_true] at hc; exact hc.1.1.1.1.1.1.1
  refine ojs_call [] [] rfl rfl rfl rfl rfl rfl rfl (by simp) (fun _ => refRight28_c c ad cap a hs) (by simp) (.inl rfl) ?_
  rintro e cs F1 _ ⟨rfl, rfl⟩
  cases actB c.n c.l c.s a
  · exact endR_ok [] rfl rfl ⟨rfl, rfl⟩ rfl (fun _ => ⟨rfl, rfl⟩) (by simp)
  · exact endR_ok [] rfl rfl ⟨rfl, rfl⟩ rfl (fun _ => ⟨rfl, rfl⟩) (by simp)
set_option maxHeartbeats 2000000 in
theorem refRaw_c (c : Cfg) (ad : Option Addr) (cap : Nat) (al : Option Addr) (capl : Nat) (la : List Ac) (hlen : c.fs.length ≤ 1099511627776) (hla : la.length ≤ 1000) :
    Cm Tryz.prog 10 [.agg (cfgL c ad cap).toArray, .slice al la.length capl] [] [slF frmL 4 (.slice ad c.fs.length cap) c.fs, slF actL 14 (.slice al la.length capl) la] (rawR (rawX c la)) := by
  refine cm_of (tab := tb) (ok := tbOk) [.g [.v (.int .i64 c.n), .v (.int .i64 c.l), .v (.int .i64 c.s), .v (.slice ad c.fs.length cap), .v (.int .i64 c.lim), .v (.int .i64 c.ret), .v (.int .i64 c.far), .v (.int .i64 c.sus), .v (.int .i64 c.apt)], .o (.v (.slice al la.length capl))] Tryz.func10 Tryz.ntmps10 rfl rfl (fun _ _ => rfl) ?_
  intro w0 A0
  refine ojs_call [] [] rfl rfl rfl rfl rfl rfl rfl (by simp) (fun _ => refCfg_c c ad cap hlen) (by simp) (.inl rfl) ?_
  rintro e cs F1 _ ⟨rfl, rfl⟩
  cases hc : cfgB c
  · refine endR_facts [slF byE 1 (.slice none 0 0) []] (fun A w _ f hf => by cases List.mem_singleton.1 hf; exact slF_nilE) ?_
    exact endR_ok [slF byE 1 (.slice none 0 0) []] rfl rfl ⟨rfl, rfl⟩ rfl (fun _ => ⟨none, 0, by rw [rawX, hc]; rfl, by rw [rawX, hc]; rfl⟩) (by simp)
  have hs : shapeB c.n c.l c.s = true := by simp only [cfgB, Bool.and_eq_true] at hc; exact hc.1.1.1.1.1.1.1
  refine cjs_weak (wk_own 5 1) ?_
  refine cjs_loopP (γ := Nat × Option Addr × Nat × List Int) (fun g => g.1 ≤ la.length ∧ (la.take g.1).all (actB c.n c.l c.s) = true ∧ g.2.2.2 = (la.take g.1).flatMap (rawA c.n c.l c.s)) (fun g => [(7, .o (.v (.int .i64 g.1))), (6, .o (.v (.slice g.2.1 g.2.2.2.length g.2.2.1)))]) (fun g => [(1, ownB g.2.1 g.2.2.1 g.2.2.2)]) (fun _ => []) (fun g => la.length - g.1) (0, none, 0, []) ⟨Nat.zero_le _, by simp, by simp⟩ (wk_patch (by repeat' (first | exact trivial | exact Or.inl rfl | refine Or.inr ⟨?_, ?_⟩ | rfl | refine ⟨?_, ?_⟩ | exact lt_all_v)) (by repeat' (first | exact trivial | exact Or.inl rfl | refine Or.inr ⟨?_, ?_⟩ | rfl | refine ⟨?_, ?_⟩ | exact lt_all_v)) (fun f hf => hf) (by simp) D_nil) ?_
  rintro ⟨k, a1, c1, xs⟩ ⟨hk, hall, hxs⟩
  simp only at hk hall hxs
  have hxl : xs.length ≤ 7000 := by rw [hxs]; have := flat_le (la := la.take k) (n := c.n) (l := c.l) (s := c.s); rw [List.length_take] at this; omega
  refine brB_dec (fun g1 => ?_) (fun g1 => ?_)
  rotate_left
  · have hkl : k = la.length := by dsimp only at g1; omega
    rw [hkl, List.take_length] at hall hxs
    refine endR_weak (wk_seal (j := 1) (enc := byE) (xs := xs) (.inl rfl) byE_len rfl rfl) ?_
    refine endR_ok [slF byE 1 (.slice a1 xs.length c1) xs] rfl rfl ⟨rfl, rfl⟩ rfl (fun _ => ?_) (by simp)
    have : rawX c la = (xs, 0) := by rw [rawX, hc, hall, hxs]; rfl
    rw [this]
    exact ⟨a1, c1, rfl, rfl⟩
  have hkl : k < la.length := by dsimp only at g1; omega
  obtain ⟨a, ha⟩ := at_some (xs := la) (k := k) hkl
  refine cjs_fact (slF actL 14 (.slice al la.length capl) la) (by simp) (slF_neE ha) ?_
  rintro ⟨b, off, rfl⟩
  refine cjs_drawn [5] (.op 0 <| .op 1 <| .op 2 <| .op 3 <| .op 4 <| .op 5 <| .op 6 .z) [0] [] [] [slF actL 14 (.slice (some ⟨b, off, none⟩) la.length capl) la] (by kernel_rfl) (by kernel_rfl) rfl (by simp) (by simp) ?_
  intro N
  refine ⟨_, yd_index (i := k) rfl hkl rfl rfl rfl rfl, ?_⟩
  refine ⟨_, yd_loadN (vs := actL a) (slF actL 14 (.slice (some ⟨b, off, none⟩) la.length capl) la) (by simp) (slF_atN ha) rfl rfl rfl, ?_⟩
  refine ojs_call [] [] rfl rfl rfl rfl rfl rfl rfl (by simp) (fun _ => refRight28_c c ad cap a hs) (by simp) (.inl rfl) ?_
  rintro e cs F1 _ ⟨rfl, rfl⟩
  refine ⟨⟨(by repeat' (first | exact trivial | refine ⟨Or.inl rfl, ?_⟩ | refine ⟨Or.inr ⟨rfl, Nat.le_of_ble_eq_true rfl, _, rfl, rfl, rfl⟩, ?_⟩)), by simp⟩, ?_⟩
  cases hb : actB c.n c.l c.s a
  · refine endR_facts [slF byE 1 (.slice none 0 0) []] (fun A w _ f hf => by cases List.mem_singleton.1 hf; exact slF_nilE) ?_
    refine endR_ok [slF byE 1 (.slice none 0 0) []] rfl rfl ⟨rfl, rfl⟩ rfl (fun _ => ?_) (by simp)
    have : la.all (actB c.n c.l c.s) = false := List.all_eq_false.2 ⟨a, List.mem_of_getElem? ha, by simp [hb]⟩
    have : rawX c la = ([], 350) := by rw [rawX, hc, this]; rfl
    rw [this]
    exact ⟨none, 0, rfl, rfl⟩
  refine ojs_index rfl hkl rfl rfl rfl rfl ?_
  refine ojs_loadN (vs := actL a) (slF actL 14 (.slice (some ⟨b, off, none⟩) la.length capl) la) (by simp) (slF_atN ha) rfl rfl rfl ?_
  obtain ⟨hkk, _, _, _, _, _, _, h8⟩ := (actB_iff hs).1 hb
  have hbc := refBytes_c a hkk (fun e => by
    obtain ⟨hA, h9, h10, h11, h12⟩ := h8 e
    unfold askB at hA
    simp only [Bool.and_eq_true, decide_eq_true_eq] at hA
    refine ⟨by omega, ?_, ?_, h11, h12⟩
    · have h := hA.2
      split at h <;> simp at h <;> omega
    · have h := hA.2
      split at h <;> simp at h <;> omega)
  rw [bytes_raw hs hb] at hbc
  have hrl := rawP_len (n := c.n) (l := c.l) (s := c.s) (a := a)
  generalize hr : rawA c.n c.l c.s a = zs at hbc hrl
  refine ojs_call [] [] rfl rfl rfl rfl rfl rfl rfl (by simp) (fun _ => hbc) (by simp) (.inl rfl) ?_
  rintro e cs F1 _ ⟨a2, c2, rfl, rfl⟩
  refine ojs_append 1 rfl rfl rfl rfl rfl rfl rfl rfl rfl (by decide) rfl rfl rfl (srcF (enc := byE) (ys := zs) rfl (by simp) byE_len) (by rw [flat_length byE_len]) byE_one (by dsimp only; omega) (by simp only [maxLen]; omega) ?_
  intro a4 c4
  have e1 : LC.own (.slice a4 (xs.length + zs.length) c4) 5 1 (xs.length + zs.length) (xs.flatMap byE ++ zs.flatMap byE) = ownB a4 c4 (xs ++ zs) := by
    unfold ownB
    rw [List.flatMap_append, List.length_append]
  rw [e1]
  refine ojs_arith (z := ((k + 1 : Nat) : Int)) (by first | decide | (rw [wrap_in] <;> omega) | (dsimp only; rw [wrap_in] <;> omega)) rfl rfl rfl rfl ?_
  refine ⟨(k + 1, a4, c4, xs ++ zs), ⟨hkl, all_take hall ha hb, ?_⟩, (by first | omega | (dsimp only; omega)), ?_⟩
  · dsimp only
    rw [take_snoc ha, List.flatMap_append, ← hxs]
    simp [hr]
  · dsimp only
    rw [List.length_append]
    exact wk_patch (by repeat' (first | exact trivial | exact Or.inl rfl | refine Or.inr ⟨?_, ?_⟩ | rfl | refine ⟨?_, ?_⟩ | exact lt_all_v)) (by repeat' (first | exact trivial | exact Or.inl rfl | refine Or.inr ⟨?_, ?_⟩ | rfl | refine ⟨?_, ?_⟩ | exact lt_all_v)) (by simp) (by simp) D_nil

end Go.Proofs.YthnkjgffahkecaaGreat
