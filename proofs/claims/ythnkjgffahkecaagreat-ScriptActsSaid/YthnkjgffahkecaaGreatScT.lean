/- Acts, by the symbolic run: the reference's acts. -/
import Derived.Test.YthnkjgffahkecaaGreatScS
namespace Go.Proofs.YthnkjgffahkecaaGreat
open Go.RowKit Go.Shelf

theorem stepA_suf {n l s : Int} : ∀ {f i : Nat} {x0 x : Ac} {bs r : List Int}, stepA n l s f i x0 bs = some (x, r) → r <:+ bs := by
  intro f
  induction f with
  | zero => intro i x0 x bs r h; simp [stepA] at h
  | succ f ih =>
    intro i x0 x bs r h
    unfold stepA at h
    split at h
    · cases h; exact List.suffix_refl _
    · cases bs with
      | nil => simp at h
      | cons b r' => exact (ih h).trans (List.suffix_cons ..)
theorem parseA_suf {n l s : Int} {x : Ac} {bs r : List Int} (h : parseA n l s bs = some (x, r)) : r <:+ bs := by
  cases bs with
  | nil => simp [parseA] at h
  | cons b r' => exact (stepA_suf h).trans (List.suffix_cons ..)
abbrev ownI (a : Option Addr) (c : Nat) (xs : List Int) : LC := .own (.slice a xs.length c) 3 1 xs.length (xs.flatMap encI)
theorem ownI_snoc (a : Option Addr) (c : Nat) (xs : List Int) (z : Int) : (LC.own (.slice a (xs.length + 1) c) 3 1 (xs.length + 1) (xs.flatMap encI ++ [.int .i64 z])) = ownI a c (xs ++ [z]) := by
  have e : (xs ++ [z]).flatMap encI = xs.flatMap encI ++ [.int .i64 z] := by rw [List.flatMap_append]; rfl
  unfold ownI
  rw [e, List.length_append]
  rfl
def atsX (c : Cfg) (bs : List Int) : List Int := (eachX c bs).map fun p => ((p.1 : Nat) : Int)
def actsO (xs : List Ac) (zs : List Int) : OutT := fun e _ F1 => ∃ a c a2 c2, e = .returned (.tuple #[.slice a xs.length c, .slice a2 zs.length c2]) ∧ F1 = [slF actL 14 (.slice a xs.length c) xs, slF encI 1 (.slice a2 zs.length c2) zs]
set_option maxHeartbeats 4000000 in
theorem refActs_c (c : Cfg) (ad : Option Addr) (capd : Nat) (a : Option Addr) (cap : Nat) (bs : List Int) (hlen : c.fs.length ≤ 1099511627776) (h1 : bs.length ≤ 1000000) (hb : ∀ b ∈ bs, 0 ≤ b ∧ b ≤ 255) :
    Cm Tryz.prog 13 [.agg (cfgL c ad capd).toArray, .slice a bs.length cap] [] [slF frmL 4 (.slice ad c.fs.length capd) c.fs, slF byE 1 (.slice a bs.length cap) bs] (actsO (actsX c bs) (atsX c bs)) := by
  refine cm_of (tab := tb) (ok := tbOk) [.g [.v (.int .i64 c.n), .v (.int .i64 c.l), .v (.int .i64 c.s), .v (.slice ad c.fs.length capd), .v (.int .i64 c.lim), .v (.int .i64 c.ret), .v (.int .i64 c.far), .v (.int .i64 c.sus), .v (.int .i64 c.apt)], .o (.v (.slice a bs.length cap))] Tryz.func13 Tryz.ntmps13 rfl rfl (fun _ _ => rfl) ?_
  intro w0 A0
  refine ojs_call [] [] rfl rfl rfl rfl rfl rfl rfl (by simp) (fun _ => refCfg_c c ad capd hlen) (by simp) (.inl rfl) ?_
  rintro e cs F1 _ ⟨rfl, rfl⟩
  unfold actsX atsX
  obtain ⟨xs, hxs⟩ : ∃ xs, xs = eachX c bs := ⟨_, rfl⟩
  rw [← hxs]
  unfold eachX at hxs
  cases hc : cfgB c
  · rw [hc] at hxs
    subst hxs
    refine endR_facts [slF actL 14 (.slice none 0 0) [], slF encI 1 (.slice none 0 0) []] (fun A w _ f hf => by
      simp only [List.mem_cons, List.not_mem_nil, or_false] at hf
      rcases hf with rfl | rfl
      · exact slF_nilE
      · exact slF_nilE) ?_
    exact endR_ok [slF actL 14 (.slice none 0 0) [], slF encI 1 (.slice none 0 0) []] rfl rfl ⟨rfl, rfl⟩ rfl (fun _ => ⟨none, 0, none, 0, rfl, rfl⟩) (by simp)
  rw [hc] at hxs
  simp only [cond_true] at hxs
  have hs := shape_ofC hc
  refine cjs_weak (wk_own 39 14) ?_
  refine cjs_weak (wk_own 3 1) ?_
  refine cjs_loopP (γ := (Option Addr × Nat) × Nat × (Option Addr × Nat) × (Option Addr × Nat) × List Int × List (Nat × Ac)) (fun g => g.2.1 ≤ bs.length ∧ g.2.2.2.2.1 = bs.drop g.2.1 ∧ g.2.2.2.2.2.length ≤ g.2.1 ∧ ∃ f, bs.length ≤ g.2.1 + f ∧ xs = g.2.2.2.2.2 ++ runN c.n c.l c.s bs f g.2.1)
    (fun g => [(6, .o (.v (.slice g.2.2.1.1 (g.2.2.2.2.2.map Prod.snd).length g.2.2.1.2))), (7, .o (.v (.slice g.2.2.2.1.1 (g.2.2.2.2.2.map fun p => ((p.1 : Nat) : Int)).length g.2.2.2.1.2)))])
    (fun g => [(2, ownA g.2.2.1.1 g.2.2.1.2 (g.2.2.2.2.2.map Prod.snd)), (3, ownI g.2.2.2.1.1 g.2.2.2.1.2 (g.2.2.2.2.2.map fun p => ((p.1 : Nat) : Int))), (1, .c [.v (.slice g.1.1 g.2.2.2.2.1.length g.1.2), .v (.bool false)] 68)])
    (fun g => [slF byE 1 (.slice g.1.1 g.2.2.2.2.1.length g.1.2) g.2.2.2.2.1]) (fun g => bs.length - g.2.1) ((a, cap), 0, (none, 0), (none, 0), bs, []) ⟨Nat.zero_le _, rfl, Nat.le_refl _, bs.length, by simp, by simpa using hxs⟩ (wk_patch (by repeat' (first | exact trivial | exact Or.inl rfl | refine Or.inr ⟨?_, ?_⟩ | rfl | refine ⟨?_, ?_⟩ | exact lt_all_v)) (by repeat' (first | exact trivial | exact Or.inl rfl | refine Or.inr ⟨?_, ?_⟩ | rfl | refine ⟨?_, ?_⟩ | exact lt_all_v)) (by simp) (by simp) D_nil) ?_
  rintro ⟨⟨ar, cr⟩, at_, ⟨a1, c1⟩, ⟨a2, c2⟩, rs, ys⟩ ⟨hat, hrs, hyl, f, hf, hx⟩
  simp only at hat hrs hyl hf hx
  have hrl : rs.length = bs.length - at_ := by rw [hrs, List.length_drop]
  refine brB_dec (fun g1 => ?_) (fun g1 => ?_)
  rotate_left
  · have hx0 : xs = ys := by
      rw [hx]
      cases f with
      | zero => simp [runN]
      | succ f => rw [runN, List.drop_of_length_le (by dsimp only at g1; omega)]; simp [parseA]
    subst hx0
    refine endR_weak (wk_seal (j := 2) (enc := actL) (xs := xs.map Prod.snd) (.inl rfl) actL_len rfl rfl) ?_
    refine endR_weak (wk_seal (j := 3) (enc := encI) (xs := xs.map fun p => ((p.1 : Nat) : Int)) (.inl rfl) (fun _ => rfl) rfl rfl) ?_
    exact endR_ok [slF actL 14 (.slice a1 (xs.map Prod.snd).length c1) (xs.map Prod.snd), slF encI 1 (.slice a2 (xs.map fun p => ((p.1 : Nat) : Int)).length c2) (xs.map fun p => ((p.1 : Nat) : Int))] rfl rfl ⟨rfl, rfl⟩ rfl (fun _ => ⟨a1, c1, a2, c2, rfl, rfl⟩) (by simp)
  have hbr : ∀ b ∈ rs, 0 ≤ b ∧ b ≤ 255 := fun b h => hb b (List.mem_of_mem_drop (hrs ▸ h))
  have hat2 : at_ < bs.length := by dsimp only at g1; omega
  refine ojs_arith (z := ((at_ : Nat) : Int)) (by dsimp only; rw [hrl, wrap_in] <;> omega) rfl rfl rfl rfl ?_
  have hp := refAct_parse (n := c.n) (l := c.l) (s := c.s) rs hbr
  obtain ⟨⟨⟨rs2, bd⟩, x⟩, hq⟩ : ∃ p, p = refActX c.n c.l c.s (rs, false) := ⟨_, rfl⟩
  have hca := refReadAct_c c.n c.l c.s ar cr (rs, false) hs (by dsimp only; omega) hbr
  rw [← hq] at hca hp
  refine ojs_call [] [] rfl rfl rfl rfl rfl rfl rfl (by simp) (fun _ => hca) (by simp) (.inl rfl) ?_
  rintro e cs F1 _ ⟨ar2, cr2, rfl, rfl⟩
  obtain ⟨f, rfl⟩ : ∃ f', f = f' + 1 := ⟨f - 1, by omega⟩
  rw [runN, ← hrs] at hx
  cases bd
  rotate_left
  · have hp : parseA c.n c.l c.s rs = none := hp.symm
    have hx0 : xs = ys := by rw [hx, hp]; simp
    subst hx0
    refine endR_weak (wk_seal (j := 2) (enc := actL) (xs := xs.map Prod.snd) (.inl rfl) actL_len rfl rfl) ?_
    refine endR_weak (wk_seal (j := 3) (enc := encI) (xs := xs.map fun p => ((p.1 : Nat) : Int)) (.inl rfl) (fun _ => rfl) rfl rfl) ?_
    exact endR_ok [slF actL 14 (.slice a1 (xs.map Prod.snd).length c1) (xs.map Prod.snd), slF encI 1 (.slice a2 (xs.map fun p => ((p.1 : Nat) : Int)).length c2) (xs.map fun p => ((p.1 : Nat) : Int))] rfl rfl ⟨rfl, rfl⟩ rfl (fun _ => ⟨a1, c1, a2, c2, rfl, rfl⟩) (by simp)
  have hp : parseA c.n c.l c.s rs = some (x, rs2) := hp.symm
  have hsuf := (parseA_suf hp).trans (hrs ▸ List.drop_suffix at_ bs : rs <:+ bs)
  have hlt := parseA_lt hp
  have hd2 : rs2 = bs.drop (bs.length - rs2.length) := List.suffix_iff_eq_drop.1 hsuf
  rw [hp] at hx
  have hyl2 : ys.length ≤ 1000000 := by omega
  have e3 : ys.map Prod.snd ++ [x] = (ys ++ [(at_, x)]).map Prod.snd := by simp
  have e4 : (ys.map fun p => ((p.1 : Nat) : Int)) ++ [((at_ : Nat) : Int)] = (ys ++ [(at_, x)]).map fun p => ((p.1 : Nat) : Int) := by simp
  have e5 : (ys.map Prod.snd).length + 1 = ((ys ++ [(at_, x)]).map Prod.snd).length := by simp
  have e6 : (ys.map fun p => ((p.1 : Nat) : Int)).length + 1 = ((ys ++ [(at_, x)]).map fun p => ((p.1 : Nat) : Int)).length := by simp
  have hp2 : bs.length - rs2.length ≤ bs.length ∧ rs2 = bs.drop (bs.length - rs2.length) ∧ (ys ++ [(at_, x)]).length ≤ bs.length - rs2.length ∧ ∃ f, bs.length ≤ bs.length - rs2.length + f ∧ xs = (ys ++ [(at_, x)]) ++ runN c.n c.l c.s bs f (bs.length - rs2.length) := by
    refine ⟨Nat.sub_le _ _, hd2, ?_, f, ?_, ?_⟩
    · rw [List.length_append, List.length_singleton]; omega
    · omega
    · rw [hx, List.append_assoc]; rfl
  refine cjs_drawn [2, 3, 6, 7, 11] (.op 0 <| .op 1 <| .op 4 <| .op 5 <| .op 8 <| .alt (.op 2 <| .alt (.op 3 <| .op 6 <| .op 7 <| .op 9 <| .op 10 <| .op 11 .z) (.op 6 <| .op 3 <| .op 7 <| .op 9 <| .op 10 <| .op 11 .z)) (.op 6 <| .op 2 <| .op 3 <| .op 7 <| .op 9 <| .op 10 <| .op 11 .z)) [4, 5] [] [] [] (by kernel_rfl) (by kernel_rfl) rfl (by simp) (by simp) ?_
  intro N
  refine ⟨?_, ?_⟩
  · refine ⟨⟨(by repeat' (first | exact trivial | refine ⟨Or.inl rfl, ?_⟩ | refine ⟨Or.inr ⟨rfl, Nat.le_of_ble_eq_true rfl, _, rfl, rfl, rfl⟩, ?_⟩)), by simp⟩, ?_⟩
    refine ⟨?_, ?_⟩
    · skip
      refine ojs_append 2 rfl rfl rfl rfl rfl rfl rfl rfl rfl (by decide) rfl rfl rfl (srcL (news := actL x) rfl rfl) rfl (by simp [actL, Value.oneCell']) (by dsimp only; simp only [List.length_map]; omega) (by simp only [maxLen, List.length_map]; omega) ?_
      intro a3 c3
      refine ⟨⟨(by repeat' (first | exact trivial | refine ⟨Or.inl rfl, ?_⟩ | refine ⟨Or.inr ⟨rfl, Nat.le_of_ble_eq_true rfl, _, rfl, rfl, rfl⟩, ?_⟩)), by simp⟩, ?_⟩
      refine ⟨⟨(by repeat' (first | exact trivial | refine ⟨Or.inl rfl, ?_⟩ | refine ⟨Or.inr ⟨rfl, Nat.le_of_ble_eq_true rfl, _, rfl, rfl, rfl⟩, ?_⟩)), by simp⟩, ?_⟩
      refine ojs_append 3 rfl rfl rfl rfl rfl rfl rfl rfl rfl (by decide) rfl rfl rfl (srcL (news := [.int .i64 ((at_ : Nat) : Int)]) rfl rfl) rfl (by simp [Value.oneCell']) (by dsimp only; simp only [List.length_map]; omega) (by simp only [maxLen, List.length_map]; omega) ?_
      intro a4 c4
      refine ⟨⟨(by repeat' (first | exact trivial | refine ⟨Or.inl rfl, ?_⟩ | refine ⟨Or.inr ⟨rfl, Nat.le_of_ble_eq_true rfl, _, rfl, rfl, rfl⟩, ?_⟩)), by simp⟩, ?_⟩
      refine ⟨⟨(by repeat' (first | exact trivial | refine ⟨Or.inl rfl, ?_⟩ | refine ⟨Or.inr ⟨rfl, Nat.le_of_ble_eq_true rfl, _, rfl, rfl, rfl⟩, ?_⟩)), by simp⟩, ?_⟩
      rw [ownA_snoc, ownI_snoc, e3, e4, e5, e6]
      exact ⟨((ar2, cr2), bs.length - rs2.length, (a3, c3), (a4, c4), rs2, ys ++ [(at_, x)]), hp2, (by dsimp only; omega), wk_patch (by repeat' (first | exact trivial | exact Or.inl rfl | refine Or.inr ⟨?_, ?_⟩ | rfl | refine ⟨?_, ?_⟩ | exact lt_all_v)) (by repeat' (first | exact trivial | exact Or.inl rfl | refine Or.inr ⟨?_, ?_⟩ | rfl | refine ⟨?_, ?_⟩ | exact lt_all_v)) (by simp) (by simp) D_nil⟩
    · skip
      refine ⟨⟨(by repeat' (first | exact trivial | refine ⟨Or.inl rfl, ?_⟩ | refine ⟨Or.inr ⟨rfl, Nat.le_of_ble_eq_true rfl, _, rfl, rfl, rfl⟩, ?_⟩)), by simp⟩, ?_⟩
      refine ojs_append 2 rfl rfl rfl rfl rfl rfl rfl rfl rfl (by decide) rfl rfl rfl (srcL (news := actL x) rfl rfl) rfl (by simp [actL, Value.oneCell']) (by dsimp only; simp only [List.length_map]; omega) (by simp only [maxLen, List.length_map]; omega) ?_
      intro a3 c3
      refine ⟨⟨(by repeat' (first | exact trivial | refine ⟨Or.inl rfl, ?_⟩ | refine ⟨Or.inr ⟨rfl, Nat.le_of_ble_eq_true rfl, _, rfl, rfl, rfl⟩, ?_⟩)), by simp⟩, ?_⟩
      refine ojs_append 3 rfl rfl rfl rfl rfl rfl rfl rfl rfl (by decide) rfl rfl rfl (srcL (news := [.int .i64 ((at_ : Nat) : Int)]) rfl rfl) rfl (by simp [Value.oneCell']) (by dsimp only; simp only [List.length_map]; omega) (by simp only [maxLen, List.length_map]; omega) ?_
      intro a4 c4
      refine ⟨⟨(by repeat' (first | exact trivial | refine ⟨Or.inl rfl, ?_⟩ | refine ⟨Or.inr ⟨rfl, Nat.le_of_ble_eq_true rfl, _, rfl, rfl, rfl⟩, ?_⟩)), by simp⟩, ?_⟩
      refine ⟨⟨(by repeat' (first | exact trivial | refine ⟨Or.inl rfl, ?_⟩ | refine ⟨Or.inr ⟨rfl, Nat.le_of_ble_eq_true rfl, _, rfl, rfl, rfl⟩, ?_⟩)), by simp⟩, ?_⟩
      rw [ownA_snoc, ownI_snoc, e3, e4, e5, e6]
      exact ⟨((ar2, cr2), bs.length - rs2.length, (a3, c3), (a4, c4), rs2, ys ++ [(at_, x)]), hp2, (by dsimp only; omega), wk_patch (by repeat' (first | exact trivial | exact Or.inl rfl | refine Or.inr ⟨?_, ?_⟩ | rfl | refine ⟨?_, ?_⟩ | exact lt_all_v)) (by repeat' (first | exact trivial | exact Or.inl rfl | refine Or.inr ⟨?_, ?_⟩ | rfl | refine ⟨?_, ?_⟩ | exact lt_all_v)) (by simp) (by simp) D_nil⟩
  · skip
    refine ⟨⟨(by repeat' (first | exact trivial | refine ⟨Or.inl rfl, ?_⟩ | refine ⟨Or.inr ⟨rfl, Nat.le_of_ble_eq_true rfl, _, rfl, rfl, rfl⟩, ?_⟩)), by simp⟩, ?_⟩
    refine ⟨⟨(by repeat' (first | exact trivial | refine ⟨Or.inl rfl, ?_⟩ | refine ⟨Or.inr ⟨rfl, Nat.le_of_ble_eq_true rfl, _, rfl, rfl, rfl⟩, ?_⟩)), by simp⟩, ?_⟩
    refine ojs_append 2 rfl rfl rfl rfl rfl rfl rfl rfl rfl (by decide) rfl rfl rfl (srcL (news := actL x) rfl rfl) rfl (by simp [actL, Value.oneCell']) (by dsimp only; simp only [List.length_map]; omega) (by simp only [maxLen, List.length_map]; omega) ?_
    intro a3 c3
    refine ⟨⟨(by repeat' (first | exact trivial | refine ⟨Or.inl rfl, ?_⟩ | refine ⟨Or.inr ⟨rfl, Nat.le_of_ble_eq_true rfl, _, rfl, rfl, rfl⟩, ?_⟩)), by simp⟩, ?_⟩
    refine ojs_append 3 rfl rfl rfl rfl rfl rfl rfl rfl rfl (by decide) rfl rfl rfl (srcL (news := [.int .i64 ((at_ : Nat) : Int)]) rfl rfl) rfl (by simp [Value.oneCell']) (by dsimp only; simp only [List.length_map]; omega) (by simp only [maxLen, List.length_map]; omega) ?_
    intro a4 c4
    refine ⟨⟨(by repeat' (first | exact trivial | refine ⟨Or.inl rfl, ?_⟩ | refine ⟨Or.inr ⟨rfl, Nat.le_of_ble_eq_true rfl, _, rfl, rfl, rfl⟩, ?_⟩)), by simp⟩, ?_⟩
    refine ⟨⟨(by repeat' (first | exact trivial | refine ⟨Or.inl rfl, ?_⟩ | refine ⟨Or.inr ⟨rfl, Nat.le_of_ble_eq_true rfl, _, rfl, rfl, rfl⟩, ?_⟩)), by simp⟩, ?_⟩
    rw [ownA_snoc, ownI_snoc, e3, e4, e5, e6]
    exact ⟨((ar2, cr2), bs.length - rs2.length, (a3, c3), (a4, c4), rs2, ys ++ [(at_, x)]), hp2, (by first | omega | (dsimp only; omega)), wk_patch (by repeat' (first | exact trivial | exact Or.inl rfl | refine Or.inr ⟨?_, ?_⟩ | rfl | refine ⟨?_, ?_⟩ | exact lt_all_v)) (by repeat' (first | exact trivial | exact Or.inl rfl | refine Or.inr ⟨?_, ?_⟩ | rfl | refine ⟨?_, ?_⟩ | exact lt_all_v)) (by simp) (by simp) D_nil⟩

end Go.Proofs.YthnkjgffahkecaaGreat
