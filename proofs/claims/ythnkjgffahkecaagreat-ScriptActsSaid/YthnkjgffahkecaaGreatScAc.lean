/- Acts, by the symbolic run: the law ScriptActs. -/
import Derived.Test.YthnkjgffahkecaaGreatScPr
namespace Go.Proofs.YthnkjgffahkecaaGreat
open Go.RowKit Go.Shelf

theorem acts_back {c : Cfg} {bs : List Int} (hb : ∀ b ∈ bs, 0 ≤ b ∧ b ≤ 255) (hl : bs.length ≤ 1000) :
    ∃ R, rawX c (actsX c bs) = (R, bif cfgB c then 0 else 2) ∧ actsX c R = actsX c bs ∧ (∀ b ∈ R, 0 ≤ b ∧ b ≤ 255) ∧ R.length ≤ 1000000 := by
  cases hc : cfgB c
  · refine ⟨[], by simp [rawX, hc], by simp [actsX, eachX, hc], by simp, by simp⟩
  · have hall : (actsX c bs).all (actB c.n c.l c.s) = true := List.all_eq_true.2 fun x hx => (acts_right hb hx).2
    have hle : (actsX c bs).length ≤ 1000 := by have := eachX_le (c := c) (bs := bs); simp only [actsX, List.length_map]; omega
    refine ⟨(actsX c bs).flatMap (rawA c.n c.l c.s), by simp only [rawX, hc, hall, cond_true], acts_raw hc hall, raw_bd, ?_⟩
    have := flat_le (la := actsX c bs) (n := c.n) (l := c.l) (s := c.s)
    omega

set_option maxHeartbeats 4000000 in
theorem lawActs_c (c : Cfg) (ad : Option Addr) (capd : Nat) (ab : Option Addr) (capb : Nat) (bs : List Int) (many : Int) (hr : -9223372036854775808 ≤ c.ret) (hb : ∀ b ∈ bs, 0 ≤ b ∧ b ≤ 255) :
    Cm Tryz.prog 4 [.agg (cfgL c ad capd).toArray, .slice ab bs.length capb, .int .i64 many] [] [slF frmL 4 (.slice ad c.fs.length capd) c.fs, slF byE 1 (.slice ab bs.length capb) bs] (rets (.bool true)) := by
  refine cm_ofD (tab := tb) (ok := tbOk) [.g [.v (.int .i64 c.n), .v (.int .i64 c.l), .v (.int .i64 c.s), .v (.slice ad c.fs.length capd), .v (.int .i64 c.lim), .v (.int .i64 c.ret), .v (.int .i64 c.far), .v (.int .i64 c.sus), .v (.int .i64 c.apt)], .o (.v (.slice ab bs.length capb)), .o (.v (.int .i64 many))] Tryz.func4 Tryz.ntmps4 rfl rfl (fun _ _ => rfl) ?_
  intro w0 A0
  refine brB_dec (fun g1 => ?_) (fun g1 => ?_)
  · refine ojs_call [] [] rfl rfl rfl rfl rfl rfl rfl (by simp) (fun _ => works_c) (by simp) (.inl rfl) ?_
    rintro e cs F1 _ ⟨rfl, rfl⟩
    exact lv_ret (endR_ok [] rfl rfl ⟨rfl, rfl⟩ rfl (fun _ => ⟨rfl, rfl⟩) (by simp))
  refine brB_dec (fun g2 => ?_) (fun g2 => ?_)
  · refine ojs_call [] [] rfl rfl rfl rfl rfl rfl rfl (by simp) (fun _ => works_c) (by simp) (.inl rfl) ?_
    rintro e cs F1 _ ⟨rfl, rfl⟩
    exact lv_ret (endR_ok [] rfl rfl ⟨rfl, rfl⟩ rfl (fun _ => ⟨rfl, rfl⟩) (by simp))
  have hlen : c.fs.length ≤ 1099511627776 := by omega
  have hbl : bs.length ≤ 1000 := by omega
  refine ojs_litOwn (j := 3) (m := 0) 28 1 [] rfl rfl rfl (by decide) ?_
  intro g1'
  refine ojs_append 3 (m' := bs.length) (news := bs.flatMap byE) rfl rfl rfl rfl rfl rfl rfl rfl rfl (by decide) rfl rfl rfl (srcF (ys := bs) rfl (by simp) byE_len) (by rw [flat_length byE_len bs, Nat.mul_one]) byE_one (by first | omega | (dsimp only; omega)) (by simp only [maxLen]; omega) ?_
  intro a1 c1
  refine ojs_append 3 (m' := 1) (news := [.int .u8 77]) rfl rfl rfl rfl rfl rfl rfl rfl rfl (by decide) rfl rfl rfl (srcL (news := [.int .u8 77]) rfl rfl) rfl (by simp [Value.oneCell']) (by first | omega | (dsimp only; omega)) (by simp only [maxLen]; omega) ?_
  intro a2 c2
  refine ojs_ownCap 3 rfl (by omega) (fun hcap => ?_)
  have hfl : (bs ++ [77]).flatMap byE = [] ++ bs.flatMap byE ++ [.int .u8 77] := by simp [byE]
  refine ojs_weak (wk_seal (j := 3) (v := .slice a2 (0 + bs.length + 1) c2) (m := 0 + bs.length + 1) (enc := byE) (xs := bs ++ [77]) (.inl rfl) byE_len (by simp) (by rw [hfl]; rfl)) ?_
  refine ojs_weak (wk_add (slF byE 1 (.slice a2 bs.length c2) bs) fun A w h => slF_take (h _ (List.mem_cons_self ..))) ?_
  refine ojs_fact (slF byE 1 (.slice a2 (0 + bs.length + 1) c2) (bs ++ [77])) (by simp) (slF_neE (i := bs.length) (x := 77) (by simp)) ?_
  rintro ⟨g2', o2', rfl⟩
  refine ojs_sliceH (i := bs.length) rfl (by omega) rfl rfl rfl rfl ?_
  obtain ⟨xs, hxs⟩ : ∃ xs, xs = eachX c bs := ⟨_, rfl⟩
  obtain ⟨ls, hls⟩ : ∃ ls, ls = actsX c bs := ⟨_, rfl⟩
  obtain ⟨zs, hzs⟩ : ∃ zs, zs = atsX c bs := ⟨_, rfl⟩
  have hl1 : ls.length = xs.length := by rw [hls, hxs]; simp [actsX]
  have hl2 : zs.length = xs.length := by rw [hzs, hxs]; simp [atsX]
  have hl3 : xs.length ≤ 1000 := by have := eachX_le (c := c) (bs := bs); rw [hxs]; omega
  have hat1 : ∀ (k : Nat) p, xs[k]? = some p → ls[k]? = some p.2 := fun k p h => by rw [hls]; simp [actsX, ← hxs, h]
  have hat2 : ∀ (k : Nat) p, xs[k]? = some p → zs[k]? = some ((p.1 : Nat) : Int) := fun k p h => by rw [hzs]; simp [atsX, ← hxs, h]
  have hA1 := acts_c c ad capd (some ⟨g2', o2', none⟩) c2 bs hlen hr (by omega) hb
  have hA2 := refActs_c c ad capd ab capb bs hlen (by omega) hb
  rw [← hls] at hA1 hA2
  rw [← hzs] at hA2
  have hE := each_c c ad capd (some ⟨g2', o2', none⟩) c2 bs hlen hr (by omega)
  refine ojs_call [] [] rfl rfl rfl rfl rfl rfl rfl (by simp) (fun _ => hA1) (by simp) (.inl rfl) ?_
  rintro e cs F1 _ ⟨a3, c3, rfl, rfl⟩
  refine ojs_call [] [] rfl rfl rfl rfl rfl rfl rfl (by simp) (fun _ => hA2) (by simp) (.inl rfl) ?_
  rintro e cs F1 _ ⟨a4, c4, a5, c5, rfl, rfl⟩
  refine ojs_call [] [] rfl rfl rfl rfl rfl rfl rfl (by simp) (fun _ => hE) (by simp) (.inl rfl) ?_
  rintro e cs F1 _ ⟨b1, b2, b3, a6, c6, rfl, rfl⟩
  have hSq := seqAct_c c ad capd a6 c6 bs b1 b2 b3 (by omega) hb
  rw [← hxs] at hSq
  refine ojs_fact (p := ∃ g4 o4, xs ≠ [] → a4 = some ⟨g4, o4, none⟩) (slF actL 14 (.slice a4 ls.length c4) ls) (by simp) (fun A w h => ?_) ?_
  · by_cases hn : xs = []
    · exact ⟨0, 0, fun h => absurd hn h⟩
    · obtain ⟨g, o, e⟩ := slF_addr h (fun e => hn (List.eq_nil_of_length_eq_zero (by rw [← hl1, e]; rfl)))
      exact ⟨g, o, fun _ => e⟩
  rintro ⟨g4, o4, had4⟩
  refine ojs_fact (p := ∃ g5 o5, xs ≠ [] → a5 = some ⟨g5, o5, none⟩) (slF encI 1 (.slice a5 zs.length c5) zs) (by simp) (fun A w h => ?_) ?_
  · by_cases hn : xs = []
    · exact ⟨0, 0, fun h => absurd hn h⟩
    · obtain ⟨g, o, e⟩ := slF_addr h (fun e => hn (List.eq_nil_of_length_eq_zero (by rw [← hl2, e]; rfl)))
      exact ⟨g, o, fun _ => e⟩
  rintro ⟨g5, o5, had5⟩
  obtain ⟨R, hR1, hR2, hR3, hR4⟩ := acts_back (c := c) hb hbl
  obtain ⟨E, hEe⟩ : ∃ E : Int, E = bif cfgB c then 0 else 2 := ⟨_, rfl⟩
  have hw2 : ∀ a ∈ ls, AcOk2 a := fun a ha => acts_ok2 hb a (by rw [← hls]; exact ha)
  have hRaw := scriptRaw_c c ad capd a3 c3 ls hlen hr (by omega) hw2
  rw [hls, hR1, ← hEe, ← hls] at hRaw
  have hChk := refCheck28_c c ad capd ⟨3, 0, 0, 0, ask0 0, 0, 0⟩ hlen
  have hE3 : (bif cfgB c then (bif actB c.n c.l c.s ⟨3, 0, 0, 0, ask0 0, 0, 0⟩ then 0 else 350) else 2 : Int) = E := by
    rw [hEe]
    cases hc : cfgB c
    · rfl
    · have hs : shapeB c.n c.l c.s = true := by simp only [cfgB, Bool.and_eq_true] at hc; exact hc.1.1.1.1.1.1.1
      rw [deliver_right hs]; rfl
  rw [hE3] at hChk
  have hA3 := fun a7 c7 => acts_c c ad capd a7 c7 R hlen hr hR4 hR3
  simp only [hR2, ← hls] at hA3
  clear hEe hE3 hR1 hR2
  have hS1 := sameActs_c a3 c3 ls a4 c4 ls (by omega)
  refine ojs_fnil (by kernel_rfl) rfl rfl ?_
  refine ojs_call [] [] rfl rfl rfl rfl rfl rfl rfl (by simp) (fun _ => hS1) (by simp) (.inl rfl) ?_
  rintro e cs F1 _ ⟨r, hsm, rfl, rfl⟩
  cases r
  · simp at hsm
  refine ojs_yd (yd_str (xs := bs) (a := some ⟨g2', o2', none⟩) (m := bs.length) (cap := c2) (by simp) (by kernel_rfl) (by kernel_rfl) rfl rfl) rfl ?_
  refine ojs_yd (yd_str (xs := bs) (a := ab) (m := bs.length) (cap := capb) (by simp) (by kernel_rfl) (by kernel_rfl) rfl rfl) rfl ?_
  refine ojs_yd (yd_strNe (r := false) (by simp) rfl rfl rfl) rfl ?_
  refine ojs_arith (z := ((bs.length + 1 : Nat) : Int)) (by first | decide | (rw [wrap_in] <;> omega) | (dsimp only; rw [wrap_in] <;> omega)) rfl rfl rfl rfl ?_
  refine ojs_sliceH (i := bs.length + 1) rfl (by omega) rfl rfl rfl rfl ?_
  refine ojs_index (i := bs.length) rfl (by omega) rfl rfl rfl rfl ?_
  refine ojs_load1 (slF byE 1 (.slice (some ⟨g2', o2', none⟩) (0 + bs.length + 1) c2) (bs ++ [77])) (by simp) (slF_at (i := bs.length) (x := 77) (by simp) (j := 0) rfl) rfl rfl rfl ?_
  refine cjs_turns 3 ?_
  refine cjs_range (γ := Unit) (fun k _ => k ≤ xs.length ∧ (k = 0 ∨ (k : Int) < many)) (fun k _ => ([(0, .c ((cfgL c ad capd).map SV.v) 26), (1, .c [.v (.int .i64 many)] 3), (2, .c [.v (.bool false)] 4), (5, .c [.v (.slice a4 ls.length c4)] 27), (6, .c [.v (.slice a5 zs.length c5)] 49), (7, .c [.v (.int .i64 0)] 3), (8, .c [.v (.int .i64 k)] 3)], [slF frmL 4 (.slice ad c.fs.length capd) c.fs, slF actL 14 (.slice a3 ls.length c3) ls, slF actL 14 (.slice a4 ls.length c4) ls, slF encI 1 (.slice a5 zs.length c5) zs, blkF b1 [.slice a6 bs.length c6] 41, blkF b2 [.bool (cfgB c)] 4, blkF b3 (cfgL c ad capd) 26, slF byE 1 (.slice a6 bs.length c6) bs])) () hSq rfl rfl rfl (fun _ => rfl) rfl (Nat.zero_le _) ⟨Nat.zero_le _, .inl rfl⟩ ?_ (by simp) ?_ ?_
  · exact wk_L (by repeat' (first | exact trivial | rfl | refine ⟨?_, ?_⟩ | exact lt_all_v | exact (congrArg some idN_ren_lc.symm) | omega)) (by simp)
  · rintro k ⟨at_, x⟩ - hx ⟨hk, hkm⟩ l1 w1 A1 M1 N1 hN1
    have hkl := (List.getElem?_eq_some_iff.1 hx).1
    have hne : xs ≠ [] := fun e => by rw [e] at hkl; simp at hkl
    have e4 := had4 hne
    have e5 := had5 hne
    intro w2 A2 M2 N2 hN2
    refine ⟨rfl, ?_⟩
    refine cjs_drawn [] (.op 0 <| .op 1 <| .op 2 <| .op 3 <| .op 4 <| .op 5 <| .op 6 <| .op 7 <| .op 8 <| .op 9 <| .op 10 <| .op 11 <| .op 12 <| .op 13 <| .op 14 <| .op 15 <| .op 16 <| .op 17 <| .op 18 <| .op 19 .z) [8, 5, 6, 9] [] [] [slF actL 14 (.slice (some ⟨g4, o4, none⟩) ls.length c4) ls, slF encI 1 (.slice (some ⟨g5, o5, none⟩) zs.length c5) zs] (by kernel_rfl) (by kernel_rfl) rfl (Nat.le_trans (Nat.le_of_eq hN2) (Nat.le_of_ble_eq_true rfl)) (by rw [← e4, ← e5]; simp) ?_
    intro N
    refine brB_dec (fun h => ?_) (fun h => ?_)
    · omega
    refine ⟨_, yd_index (b := g5) (off := o5) (m := zs.length) (i := k) rfl (by omega) rfl rfl (by rw [← e5]; rfl) rfl, ?_⟩
    refine ⟨_, yd_load1 (slF encI 1 (.slice (some ⟨g5, o5, none⟩) zs.length c5) zs) (by simp) (slF_at (hat2 k _ hx) (j := 0) rfl) rfl rfl rfl, ?_⟩
    refine brB_split (fun h => ?_) (fun _ => ?_)
    · simp at h
    refine ⟨_, yd_index (b := g4) (off := o4) (m := ls.length) (i := k) rfl (by omega) rfl rfl (by rw [← e4]; rfl) rfl, ?_⟩
    refine ⟨_, yd_loadN (vs := actL x) (slF actL 14 (.slice (some ⟨g4, o4, none⟩) ls.length c4) ls) (by simp) (slF_atN (hat1 k _ hx)) rfl rfl rfl, ?_⟩
    refine ⟨_, yd_neF (xs := actL x) (ys := actL x) (r := actEq x x) (ks := [4, 4, 4, 4, 4, 4, 4, 4, 4, 4, 4, 4, 4, 4]) (by kernel_rfl) (by kernel_rfl) rfl rfl rfl (fun _ => rfl) (fun _ => rfl) rfl, ?_⟩
    refine brB_split (fun h => ?_) (fun _ => ?_)
    · rw [actEq_iff.2 rfl] at h; simp at h
    refine ojs_arith (z := ((k + 1 : Nat) : Int)) (by first | decide | (rw [wrap_in] <;> omega) | (dsimp only; rw [wrap_in] <;> omega)) rfl rfl rfl rfl ?_
    refine brB_dec (fun hm => ?_) (fun hm => ?_)
    · refine ⟨rfl, ?_⟩
      have hmm : ((k + 1 : Nat) : Int) = min (xs.length : Int) (max 1 many) := by omega
      refine ojs_max rfl rfl rfl rfl rfl ?_
      refine ojs_min rfl rfl rfl rfl rfl ?_
      refine brB_split (fun h => ?_) (fun h => ?_)
      · exfalso; simp at h; omega
      refine ojs_arith (z := 1) (by decide) rfl rfl rfl rfl ?_
      refine cjs_range (γ := Unit) (fun k _ => k ≤ xs.length) (fun k _ => ([(0, .c ((cfgL c ad capd).map SV.v) 26), (1, .c [.v (.int .i64 many)] 3), (2, .c [.v (.bool false)] 4), (5, .c [.v (.slice a4 ls.length c4)] 27), (6, .c [.v (.slice a5 zs.length c5)] 49), (10, markL), (11, .c [.v (.int .i64 1)] 3), (12, .c [.v (.int .i64 k)] 3)], [slF frmL 4 (.slice ad c.fs.length capd) c.fs, slF actL 14 (.slice a3 ls.length c3) ls, slF actL 14 (.slice a4 ls.length c4) ls, slF encI 1 (.slice a5 zs.length c5) zs, blkF b1 [.slice a6 bs.length c6] 41, blkF b2 [.bool (cfgB c)] 4, blkF b3 (cfgL c ad capd) 26, slF byE 1 (.slice a6 bs.length c6) bs])) () hSq rfl rfl rfl (fun _ => rfl) rfl (Nat.zero_le _) (Nat.zero_le _) ?_ (by simp) ?_ ?_
      · exact wk_L (by repeat' (first | exact trivial | rfl | refine ⟨?_, ?_⟩ | exact lt_all_v | exact (congrArg some idN_ren_lc.symm) | omega)) (by simp)
      · rintro k ⟨at_, x⟩ - hx hk l1 w1 A1 M1 N1 hN1
        have hkl := (List.getElem?_eq_some_iff.1 hx).1
        have hne : xs ≠ [] := fun e => by rw [e] at hkl; simp at hkl
        have e4 := had4 hne
        have e5 := had5 hne
        intro w2 A2 M2 N2 hN2
        refine ⟨rfl, ?_⟩
        refine cjs_drawn [] (.op 0 <| .op 1 <| .op 2 <| .op 3 <| .op 4 <| .op 5 <| .op 6 <| .op 7 <| .op 8 <| .op 9 <| .op 10 <| .op 11 <| .op 12 <| .op 13 <| .op 14 <| .op 15 <| .op 16 <| .op 17 <| .op 18 <| .op 19 .z) [12, 5, 6, 13] [] [] [slF actL 14 (.slice (some ⟨g4, o4, none⟩) ls.length c4) ls, slF encI 1 (.slice (some ⟨g5, o5, none⟩) zs.length c5) zs] (by kernel_rfl) (by kernel_rfl) rfl (Nat.le_trans (Nat.le_of_eq hN2) (Nat.le_of_ble_eq_true rfl)) (by rw [← e4, ← e5]; simp) ?_
        intro N
        refine brB_dec (fun h => ?_) (fun h => ?_)
        · omega
        refine ⟨_, yd_index (b := g5) (off := o5) (m := zs.length) (i := k) rfl (by omega) rfl rfl (by rw [← e5]; rfl) rfl, ?_⟩
        refine ⟨_, yd_load1 (slF encI 1 (.slice (some ⟨g5, o5, none⟩) zs.length c5) zs) (by simp) (slF_at (hat2 k _ hx) (j := 0) rfl) rfl rfl rfl, ?_⟩
        refine brB_split (fun h => ?_) (fun _ => ?_)
        · simp at h
        refine ⟨_, yd_index (b := g4) (off := o4) (m := ls.length) (i := k) rfl (by omega) rfl rfl (by rw [← e4]; rfl) rfl, ?_⟩
        refine ⟨_, yd_loadN (vs := actL x) (slF actL 14 (.slice (some ⟨g4, o4, none⟩) ls.length c4) ls) (by simp) (slF_atN (hat1 k _ hx)) rfl rfl rfl, ?_⟩
        refine ⟨_, yd_neF (xs := actL x) (ys := actL x) (r := actEq x x) (ks := [4, 4, 4, 4, 4, 4, 4, 4, 4, 4, 4, 4, 4, 4]) (by kernel_rfl) (by kernel_rfl) rfl rfl rfl (fun _ => rfl) (fun _ => rfl) rfl, ?_⟩
        refine brB_split (fun h => ?_) (fun _ => ?_)
        · rw [actEq_iff.2 rfl] at h; simp at h
        refine ojs_arith (z := ((k + 1 : Nat) : Int)) (by first | decide | (rw [wrap_in] <;> omega) | (dsimp only; rw [wrap_in] <;> omega)) rfl rfl rfl rfl ?_
        exact ⟨(), by omega, wk_patch (by repeat' (first | exact trivial | exact Or.inl rfl | refine Or.inr ⟨?_, ?_⟩ | rfl | refine ⟨?_, ?_⟩ | exact lt_all_v)) (by repeat' (first | exact trivial | exact Or.inl rfl | refine Or.inr ⟨?_, ?_⟩ | rfl | refine ⟨?_, ?_⟩ | exact lt_all_v)) (by simp) (Nat.le_of_eq hN2) D_nil⟩
      · rintro - hk
        refine brB_split (fun h => ?_) (fun h => ?_)
        · exfalso; simp [hl1] at h
        refine ojs_arith (z := 2) (by decide) rfl rfl rfl rfl ?_
        refine ojs_call [] [] rfl rfl rfl rfl rfl rfl rfl (by simp) (fun _ => hRaw) (by simp) (.inl rfl) ?_
        rintro e cs F1 _ ⟨a7, c7, rfl, rfl⟩
        refine cjs_drawn [1, 4, 9, 11, 14, 16] (.op 0 <| .op 2 <| .op 3 <| .op 1 <| .op 4 <| .op 5 <| .op 6 <| .op 7 <| .op 8 <| .op 10 <| .op 9 <| .op 11 <| .op 12 <| .op 13 <| .op 14 <| .op 15 <| .op 16 .z) [0] [] [] [] (by kernel_rfl) (by kernel_rfl) rfl (by simp) (by simp) ?_
        intro N
        refine ⟨_, yd_build rfl rfl rfl rfl, ?_⟩
        refine ojs_call [] [] rfl rfl rfl rfl rfl rfl rfl (by simp) (fun _ => num_c E) (by simp) (.inl rfl) ?_
        rintro e cs F1 _ ⟨rfl, rfl⟩
        refine ⟨⟨(by repeat' (first | exact trivial | refine ⟨Or.inl rfl, ?_⟩ | refine ⟨Or.inr ⟨rfl, Nat.le_of_ble_eq_true rfl, _, rfl, rfl, rfl⟩, ?_⟩)), by simp⟩, ?_⟩
        refine ojs_call [] [] rfl rfl rfl rfl rfl rfl rfl (by simp) (fun _ => hChk) (by simp) (.inl rfl) ?_
        rintro e cs F1 _ ⟨rfl, rfl⟩
        refine ⟨⟨(by repeat' (first | exact trivial | refine ⟨Or.inl rfl, ?_⟩ | refine ⟨Or.inr ⟨rfl, Nat.le_of_ble_eq_true rfl, _, rfl, rfl, rfl⟩, ?_⟩)), by simp⟩, ?_⟩
        refine brB_split (fun _ => ?_) (fun h => ?_)
        rotate_left
        · simp at h
        refine ojs_call [] [] rfl rfl rfl rfl rfl rfl rfl (by simp) (fun _ => hA3 a7 c7) (by simp) (.inl rfl) ?_
        rintro e cs F1 _ ⟨a8, c8, rfl, rfl⟩
        refine ⟨⟨(by repeat' (first | exact trivial | refine ⟨Or.inl rfl, ?_⟩ | refine ⟨Or.inr ⟨rfl, Nat.le_of_ble_eq_true rfl, _, rfl, rfl, rfl⟩, ?_⟩)), by simp⟩, ?_⟩
        have hS2 := sameActs_c a8 c8 ls a3 c3 ls (by omega)
        refine ojs_call [] [] rfl rfl rfl rfl rfl rfl rfl (by simp) (fun _ => hS2) (by simp) (.inl rfl) ?_
        rintro e cs F1 _ ⟨r, hsn, rfl, rfl⟩
        cases r
        · simp at hsn
        refine ⟨⟨(by repeat' (first | exact trivial | refine ⟨Or.inl rfl, ?_⟩ | refine ⟨Or.inr ⟨rfl, Nat.le_of_ble_eq_true rfl, _, rfl, rfl, rfl⟩, ?_⟩)), by simp⟩, ?_⟩
        refine ojs_call [] [] rfl rfl rfl rfl rfl rfl rfl (by simp) (fun _ => works_c) (by simp) (.inl rfl) ?_
        rintro e cs F1 _ ⟨rfl, rfl⟩
        refine ⟨⟨(by repeat' (first | exact trivial | refine ⟨Or.inl rfl, ?_⟩ | refine ⟨Or.inr ⟨rfl, Nat.le_of_ble_eq_true rfl, _, rfl, rfl, rfl⟩, ?_⟩)), by simp⟩, ?_⟩
        refine ⟨⟨(by repeat' (first | exact trivial | refine ⟨Or.inl rfl, ?_⟩ | refine ⟨Or.inr ⟨rfl, Nat.le_of_ble_eq_true rfl, _, rfl, rfl, rfl⟩, ?_⟩)), by simp⟩, ?_⟩
        refine lv_of (lv_mark ret_ne rfl (lv_mark ret_ne rfl ?_))
        exact lv_ret (endR_ok [] rfl rfl ⟨rfl, rfl⟩ rfl (fun _ => ⟨rfl, rfl⟩) (by simp))
    · exact ⟨(), ⟨by omega, .inr (by omega)⟩, wk_patch (by repeat' (first | exact trivial | exact Or.inl rfl | refine Or.inr ⟨?_, ?_⟩ | rfl | refine ⟨?_, ?_⟩ | exact lt_all_v)) (by repeat' (first | exact trivial | exact Or.inl rfl | refine Or.inr ⟨?_, ?_⟩ | rfl | refine ⟨?_, ?_⟩ | exact lt_all_v)) (by simp) (Nat.le_of_eq hN2) D_nil⟩
  · rintro - ⟨hk, hkm⟩
    have hmm : (xs.length : Int) = min (xs.length : Int) (max 1 many) := by omega
    refine ojs_max rfl rfl rfl rfl rfl ?_
    refine ojs_min rfl rfl rfl rfl rfl ?_
    refine brB_split (fun h => ?_) (fun h => ?_)
    · exfalso; simp at h; omega
    refine ojs_arith (z := 1) (by decide) rfl rfl rfl rfl ?_
    refine cjs_range (γ := Unit) (fun k _ => k ≤ xs.length) (fun k _ => ([(0, .c ((cfgL c ad capd).map SV.v) 26), (1, .c [.v (.int .i64 many)] 3), (2, .c [.v (.bool false)] 4), (5, .c [.v (.slice a4 ls.length c4)] 27), (6, .c [.v (.slice a5 zs.length c5)] 49), (9, markL), (10, .c [.v (.int .i64 1)] 3), (11, .c [.v (.int .i64 k)] 3)], [slF frmL 4 (.slice ad c.fs.length capd) c.fs, slF actL 14 (.slice a3 ls.length c3) ls, slF actL 14 (.slice a4 ls.length c4) ls, slF encI 1 (.slice a5 zs.length c5) zs, blkF b1 [.slice a6 bs.length c6] 41, blkF b2 [.bool (cfgB c)] 4, blkF b3 (cfgL c ad capd) 26, slF byE 1 (.slice a6 bs.length c6) bs])) () hSq rfl rfl rfl (fun _ => rfl) rfl (Nat.zero_le _) (Nat.zero_le _) ?_ (by simp) ?_ ?_
    · exact wk_L (by repeat' (first | exact trivial | rfl | refine ⟨?_, ?_⟩ | exact lt_all_v | exact (congrArg some idN_ren_lc.symm) | omega)) (by simp)
    · rintro k ⟨at_, x⟩ - hx hk l1 w1 A1 M1 N1 hN1
      have hkl := (List.getElem?_eq_some_iff.1 hx).1
      have hne : xs ≠ [] := fun e => by rw [e] at hkl; simp at hkl
      have e4 := had4 hne
      have e5 := had5 hne
      intro w2 A2 M2 N2 hN2
      refine ⟨rfl, ?_⟩
      refine cjs_drawn [] (.op 0 <| .op 1 <| .op 2 <| .op 3 <| .op 4 <| .op 5 <| .op 6 <| .op 7 <| .op 8 <| .op 9 <| .op 10 <| .op 11 <| .op 12 <| .op 13 <| .op 14 <| .op 15 <| .op 16 <| .op 17 <| .op 18 <| .op 19 .z) [11, 5, 6, 12] [] [] [slF actL 14 (.slice (some ⟨g4, o4, none⟩) ls.length c4) ls, slF encI 1 (.slice (some ⟨g5, o5, none⟩) zs.length c5) zs] (by kernel_rfl) (by kernel_rfl) rfl (Nat.le_trans (Nat.le_of_eq hN2) (Nat.le_of_ble_eq_true rfl)) (by rw [← e4, ← e5]; simp) ?_
      intro N
      refine brB_dec (fun h => ?_) (fun h => ?_)
      · omega
      refine ⟨_, yd_index (b := g5) (off := o5) (m := zs.length) (i := k) rfl (by omega) rfl rfl (by rw [← e5]; rfl) rfl, ?_⟩
      refine ⟨_, yd_load1 (slF encI 1 (.slice (some ⟨g5, o5, none⟩) zs.length c5) zs) (by simp) (slF_at (hat2 k _ hx) (j := 0) rfl) rfl rfl rfl, ?_⟩
      refine brB_split (fun h => ?_) (fun _ => ?_)
      · simp at h
      refine ⟨_, yd_index (b := g4) (off := o4) (m := ls.length) (i := k) rfl (by omega) rfl rfl (by rw [← e4]; rfl) rfl, ?_⟩
      refine ⟨_, yd_loadN (vs := actL x) (slF actL 14 (.slice (some ⟨g4, o4, none⟩) ls.length c4) ls) (by simp) (slF_atN (hat1 k _ hx)) rfl rfl rfl, ?_⟩
      refine ⟨_, yd_neF (xs := actL x) (ys := actL x) (r := actEq x x) (ks := [4, 4, 4, 4, 4, 4, 4, 4, 4, 4, 4, 4, 4, 4]) (by kernel_rfl) (by kernel_rfl) rfl rfl rfl (fun _ => rfl) (fun _ => rfl) rfl, ?_⟩
      refine brB_split (fun h => ?_) (fun _ => ?_)
      · rw [actEq_iff.2 rfl] at h; simp at h
      refine ojs_arith (z := ((k + 1 : Nat) : Int)) (by first | decide | (rw [wrap_in] <;> omega) | (dsimp only; rw [wrap_in] <;> omega)) rfl rfl rfl rfl ?_
      exact ⟨(), by omega, wk_patch (by repeat' (first | exact trivial | exact Or.inl rfl | refine Or.inr ⟨?_, ?_⟩ | rfl | refine ⟨?_, ?_⟩ | exact lt_all_v)) (by repeat' (first | exact trivial | exact Or.inl rfl | refine Or.inr ⟨?_, ?_⟩ | rfl | refine ⟨?_, ?_⟩ | exact lt_all_v)) (by simp) (Nat.le_of_eq hN2) D_nil⟩
    · rintro - hk
      refine brB_split (fun h => ?_) (fun h => ?_)
      · exfalso; simp [hl1] at h
      refine ojs_arith (z := 2) (by decide) rfl rfl rfl rfl ?_
      refine ojs_call [] [] rfl rfl rfl rfl rfl rfl rfl (by simp) (fun _ => hRaw) (by simp) (.inl rfl) ?_
      rintro e cs F1 _ ⟨a7, c7, rfl, rfl⟩
      refine cjs_drawn [1, 4, 9, 11, 14, 16] (.op 0 <| .op 2 <| .op 3 <| .op 1 <| .op 4 <| .op 5 <| .op 6 <| .op 7 <| .op 8 <| .op 10 <| .op 9 <| .op 11 <| .op 12 <| .op 13 <| .op 14 <| .op 15 <| .op 16 .z) [0] [] [] [] (by kernel_rfl) (by kernel_rfl) rfl (by simp) (by simp) ?_
      intro N
      refine ⟨_, yd_build rfl rfl rfl rfl, ?_⟩
      refine ojs_call [] [] rfl rfl rfl rfl rfl rfl rfl (by simp) (fun _ => num_c E) (by simp) (.inl rfl) ?_
      rintro e cs F1 _ ⟨rfl, rfl⟩
      refine ⟨⟨(by repeat' (first | exact trivial | refine ⟨Or.inl rfl, ?_⟩ | refine ⟨Or.inr ⟨rfl, Nat.le_of_ble_eq_true rfl, _, rfl, rfl, rfl⟩, ?_⟩)), by simp⟩, ?_⟩
      refine ojs_call [] [] rfl rfl rfl rfl rfl rfl rfl (by simp) (fun _ => hChk) (by simp) (.inl rfl) ?_
      rintro e cs F1 _ ⟨rfl, rfl⟩
      refine ⟨⟨(by repeat' (first | exact trivial | refine ⟨Or.inl rfl, ?_⟩ | refine ⟨Or.inr ⟨rfl, Nat.le_of_ble_eq_true rfl, _, rfl, rfl, rfl⟩, ?_⟩)), by simp⟩, ?_⟩
      refine brB_split (fun _ => ?_) (fun h => ?_)
      rotate_left
      · simp at h
      refine ojs_call [] [] rfl rfl rfl rfl rfl rfl rfl (by simp) (fun _ => hA3 a7 c7) (by simp) (.inl rfl) ?_
      rintro e cs F1 _ ⟨a8, c8, rfl, rfl⟩
      refine ⟨⟨(by repeat' (first | exact trivial | refine ⟨Or.inl rfl, ?_⟩ | refine ⟨Or.inr ⟨rfl, Nat.le_of_ble_eq_true rfl, _, rfl, rfl, rfl⟩, ?_⟩)), by simp⟩, ?_⟩
      have hS2 := sameActs_c a8 c8 ls a3 c3 ls (by omega)
      refine ojs_call [] [] rfl rfl rfl rfl rfl rfl rfl (by simp) (fun _ => hS2) (by simp) (.inl rfl) ?_
      rintro e cs F1 _ ⟨r, hsn, rfl, rfl⟩
      cases r
      · simp at hsn
      refine ⟨⟨(by repeat' (first | exact trivial | refine ⟨Or.inl rfl, ?_⟩ | refine ⟨Or.inr ⟨rfl, Nat.le_of_ble_eq_true rfl, _, rfl, rfl, rfl⟩, ?_⟩)), by simp⟩, ?_⟩
      refine ojs_call [] [] rfl rfl rfl rfl rfl rfl rfl (by simp) (fun _ => works_c) (by simp) (.inl rfl) ?_
      rintro e cs F1 _ ⟨rfl, rfl⟩
      refine ⟨⟨(by repeat' (first | exact trivial | refine ⟨Or.inl rfl, ?_⟩ | refine ⟨Or.inr ⟨rfl, Nat.le_of_ble_eq_true rfl, _, rfl, rfl, rfl⟩, ?_⟩)), by simp⟩, ?_⟩
      refine ⟨⟨(by repeat' (first | exact trivial | refine ⟨Or.inl rfl, ?_⟩ | refine ⟨Or.inr ⟨rfl, Nat.le_of_ble_eq_true rfl, _, rfl, rfl, rfl⟩, ?_⟩)), by simp⟩, ?_⟩
      refine lv_of (lv_mark ret_ne rfl (lv_mark ret_ne rfl ?_))
      exact lv_ret (endR_ok [] rfl rfl ⟨rfl, rfl⟩ rfl (fun _ => ⟨rfl, rfl⟩) (by simp))

end Go.Proofs.YthnkjgffahkecaaGreat
