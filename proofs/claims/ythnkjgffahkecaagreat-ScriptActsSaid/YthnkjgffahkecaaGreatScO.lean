/- Acts, by the symbolic run: all of them. -/
import Derived.Test.YthnkjgffahkecaaGreatScN
namespace Go.Proofs.YthnkjgffahkecaaGreat
open Go.RowKit Go.Shelf

abbrev ownA (a : Option Addr) (c : Nat) (xs : List Ac) : LC := .own (.slice a xs.length c) 39 14 xs.length (xs.flatMap actL)
theorem ownA_snoc (a : Option Addr) (c : Nat) (xs : List Ac) (x : Ac) : (LC.own (.slice a (xs.length + 1) c) 39 14 (xs.length + 1) (xs.flatMap actL ++ actL x)) = ownA a c (xs ++ [x]) := by
  have e : (xs ++ [x]).flatMap actL = xs.flatMap actL ++ actL x := by rw [List.flatMap_append]; simp
  unfold ownA
  rw [e, List.length_append]
  rfl
def actsX (c : Cfg) (bs : List Int) : List Ac := (eachX c bs).map Prod.snd
theorem eachX_le {c : Cfg} {bs : List Int} : (eachX c bs).length ≤ bs.length := by
  unfold eachX
  cases cfgB c
  · exact Nat.zero_le _
  · exact Nat.le_trans runN_le (Nat.sub_le _ _)
def actsR (xs : List Ac) : OutT := fun e _ F1 => ∃ a c, e = .returned (.slice a xs.length c) ∧ F1 = [slF actL 14 (.slice a xs.length c) xs]
set_option maxHeartbeats 2000000 in
theorem acts_c (c : Cfg) (ad : Option Addr) (capd : Nat) (a : Option Addr) (cap : Nat) (bs : List Int) (hlen : c.fs.length ≤ 1099511627776) (hr : -9223372036854775808 ≤ c.ret) (h1 : bs.length ≤ 1000000) (hb : ∀ b ∈ bs, 0 ≤ b ∧ b ≤ 255) :
    Cm Tryz.prog 12 [.agg (cfgL c ad capd).toArray, .slice a bs.length cap] [] [slF frmL 4 (.slice ad c.fs.length capd) c.fs, slF byE 1 (.slice a bs.length cap) bs] (actsR (actsX c bs)) := by
  refine cm_ofD (tab := tb) (ok := tbOk) [.g [.v (.int .i64 c.n), .v (.int .i64 c.l), .v (.int .i64 c.s), .v (.slice ad c.fs.length capd), .v (.int .i64 c.lim), .v (.int .i64 c.ret), .v (.int .i64 c.far), .v (.int .i64 c.sus), .v (.int .i64 c.apt)], .o (.v (.slice a bs.length cap))] Tryz.func12 Tryz.ntmps12 rfl rfl (fun _ _ => rfl) ?_
  intro w0 A0
  refine ojs_call [] [] rfl rfl rfl rfl rfl rfl rfl (by simp) (fun _ => each_c c ad capd a cap bs hlen hr (by omega)) (by simp) (.inl rfl) ?_
  rintro e cs F1 _ ⟨b1, b2, b3, a2, c2, rfl, rfl⟩
  have hseq := seqAct_c c ad capd a2 c2 bs b1 b2 b3 h1 hb
  have hle := eachX_le (c := c) (bs := bs)
  obtain ⟨xs, hxs⟩ : ∃ xs, xs = eachX c bs := ⟨_, rfl⟩
  unfold actsX
  rw [← hxs] at hle hseq ⊢
  refine cjs_weak (wk_own 39 14) ?_
  refine cjs_range (γ := Option Addr × Nat × List Ac) (fun k g => g.2.2 = (xs.take k).map Prod.snd) (fun k g => ([(2, ownA g.1 g.2.1 g.2.2), (1, .c [.v (.slice g.1 g.2.2.length g.2.1)] 27)], eachF b1 b2 b3 a2 c2 bs c ad capd)) (none, 0, []) hseq rfl rfl rfl (fun _ => rfl) rfl (Nat.zero_le _) (by simp) ?_ (by simp) ?_ ?_
  · exact wk_patch (by repeat' (first | exact trivial | exact Or.inl rfl | refine Or.inr ⟨?_, ?_⟩ | rfl | refine ⟨?_, ?_⟩ | exact lt_all_v)) (by repeat' (first | exact trivial | exact Or.inl rfl | refine Or.inr ⟨?_, ?_⟩ | rfl | refine ⟨?_, ?_⟩ | exact lt_all_v)) (by simp) (by simp) D_nil
  · rintro k x ⟨a3, c3, ys⟩ hx hys l1 w1 A1 M1 N1 hN1
    simp only at hys
    have hkl := (List.getElem?_eq_some_iff.1 hx).1
    have hyl : ys.length ≤ 1000000 := by rw [hys]; simp; omega
    intro w2 A2 M2 N2 hN2
    refine ⟨rfl, ?_⟩
    refine ojs_append 2 rfl rfl rfl rfl rfl rfl rfl rfl rfl (by decide) rfl rfl rfl (srcL (news := actL x.2) rfl rfl) rfl (by simp [actL, Value.oneCell']) (by dsimp only; omega) (by simp only [maxLen]; omega) ?_
    intro a4 c4
    rw [ownA_snoc]
    have e2 : ys.length + 1 = (ys ++ [x.2]).length := by rw [List.length_append]; rfl
    rw [e2]
    exact ⟨(a4, c4, ys ++ [x.2]), by dsimp only; rw [take_snoc hx, List.map_append, hys]; rfl, wk_patch (by repeat' (first | exact trivial | exact Or.inl rfl | refine Or.inr ⟨?_, ?_⟩ | rfl | refine ⟨?_, ?_⟩ | exact lt_all_v)) (by repeat' (first | exact trivial | exact Or.inl rfl | refine Or.inr ⟨?_, ?_⟩ | rfl | refine ⟨?_, ?_⟩ | exact lt_all_v)) (by simp) (Nat.le_of_eq hN2) D_nil⟩
  · rintro ⟨a3, c3, ys⟩ hys
    simp only [List.take_length] at hys
    refine lv_of (lv_mark ret_ne rfl ?_)
    refine lv_ret (endR_weak (wk_seal (j := 2) (enc := actL) (xs := ys) (.inl rfl) actL_len rfl rfl) ?_)
    rw [← hys]
    exact endR_ok [slF actL 14 (.slice a3 ys.length c3) ys] rfl rfl ⟨rfl, rfl⟩ rfl (fun _ => ⟨a3, c3, rfl, rfl⟩) (by simp)

end Go.Proofs.YthnkjgffahkecaaGreat
