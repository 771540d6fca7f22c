/- Reports, by the symbolic run: Missing. -/
import Derived.Test.YtnkpmeplapkobaaRpB
namespace Go.Proofs.Ytnkpmeplapkobaa
open Go.RowKit Go.Shelf

theorem missSeq_c (b : Nat) (a : Option Addr) (c : Nat) (xs : List Nat) (hlen : xs.length ≤ 1099511627776) :
    SeqC Try.prog 32 [.pointer (some ⟨b, 0, none⟩)] [blkF b [.slice a xs.length c] 29, slF encI 1 (.slice a xs.length c) (natI xs)] (fun x : Nat => [.int .i64 x]) xs := by
  refine seq_of (tab := tb) (ok := tbOk) [.o (.v (.pointer (some ⟨b, 0, none⟩)))] Try.func32 Try.ntmps32 rfl rfl (fun _ => rfl) ?_
  intro S
  refine cjs_scope rfl ?_
  refine ojs_load1 (v := .slice a xs.length c) (S.inF (blkF b [.slice a xs.length c] 29)) (by simp) (fun A w h => by have := cell_of_list (o := 0) h.2.2; simpa using this) rfl rfl rfl ?_
  refine cjs_loop (γ := Nat) (fun k => k ≤ xs.length) (fun k => ⟨[(0, .o (.v (.func (.yield S.l) #[] #[]))), (5, .o (.v (.slice a xs.length c))), (6, .o (.v (.int .i64 xs.length))), (7, .o (.v (.int .i64 k)))], [], 0, S.jF k :: [slF encI 1 (.slice a xs.length c) (natI xs)].map S.inF, fun _ => []⟩) (fun k => xs.length - k) 0 (Nat.zero_le _) (wk_same (by repeat' (first | exact trivial | rfl | refine ⟨?_, ?_⟩ | exact lt_all_v | exact (congrArg some idN_ren_lc.symm) | omega)) (by repeat' (first | exact trivial | rfl | refine ⟨?_, ?_⟩ | exact lt_all_v | exact (congrArg some idN_ren_lc.symm) | omega)) (by simp) (Nat.le_refl _)) ?_
  intro k hk
  refine brB_dec (fun h => ?_) (fun h => ?_)
  · obtain ⟨x, hx⟩ := at_some (xs := xs) (k := k) (by omega)
    have hxi : (natI xs)[k]? = some ((x : Nat) : Int) := by simp [natI, hx]
    refine ojs_fact (S.inF (slF encI 1 (.slice a xs.length c) (natI xs))) (by simp) (fun A w hF => slF_addr hF.2 (by intro e; rw [e] at hxi; simp at hxi)) ?_
    rintro ⟨b', off, rfl⟩
    refine ojs_index rfl (by omega) rfl rfl rfl rfl ?_
    refine ojs_load1 (S.inF (slF encI 1 (.slice (some ⟨b', off, none⟩) xs.length c) (natI xs))) (by simp) (fun A w h => slF_at hxi (j := 0) rfl _ _ h.2) rfl rfl rfl ?_
    refine ojs_yield k [slF encI 1 (.slice (some ⟨b', off, none⟩) xs.length c) (natI xs)] rfl rfl rfl rfl hx (fun _ => rfl) (by simp) (by simp) ?_ ?_
    · refine ojs_arith (z := ((k + 1 : Nat) : Int)) (by rw [wrap_in] <;> omega) rfl rfl rfl rfl ?_
      exact ⟨k + 1, by omega, by dsimp only; omega, wk_same (by repeat' (first | exact trivial | rfl | refine ⟨?_, ?_⟩ | exact lt_all_v | exact (congrArg some idN_ren_lc.symm) | omega)) (by repeat' (first | exact trivial | rfl | refine ⟨?_, ?_⟩ | exact lt_all_v | exact (congrArg some idN_ren_lc.symm) | omega)) (by simp) (Nat.le_refl _)⟩
    · exact endS_stop (k + 1) (by simp) (by omega) (by omega) rfl rfl
  · obtain rfl : k = xs.length := by omega
    exact endS_done (by simp) rfl rfl

theorem clearM_c : Cm Try.prog 29 [] [] [] (fun e cs F1 => e = .returned (.tuple #[]) ∧ cs = [] ∧ F1 = []) := by
  refine cm_of (tab := tb) (ok := tbOk) [] Try.func29 Try.ntmps29 rfl rfl (fun ρ h => rfl) ?_
  intro w0 A0
  exact endR_ok [] rfl rfl ⟨rfl, rfl⟩ rfl (fun _ => ⟨rfl, rfl, rfl⟩) (by simp)
theorem slF_nilI (A : Nat → Prop) (w : World) : (slF encI 1 (.slice none 0 0) []).h A w := ⟨none, 0, rfl, ⟨Nat.le_refl _, fun _ => rfl⟩, .inl rfl⟩
def colR (n l s : Int) (vt : Value) (xs : List Nat) : OutT := fun e cs F1 => e = .returned (.tuple #[]) ∧ ∃ z a c, cs = [[.int .i64 z], [.int .i64 n, .int .i64 l, .int .i64 s], [vt], [.slice a xs.length c]] ∧ F1 = [slF encI 1 (.slice a xs.length c) (natI xs)]
theorem missN_snoc : ∀ (t : List (List (Bool × Int))) (i : Nat) (r : List (Bool × Int)), missN i (t ++ [r]) = missN i t ++ (if r.isEmpty then [i + t.length] else [])
  | [], i, r => by simp only [List.nil_append, missN, List.length_nil, Nat.add_zero]
  | x :: t, i, r => by
    simp only [List.cons_append, missN, missN_snoc t (i + 1) r, List.length_cons]
    rw [show i + 1 + t.length = i + (t.length + 1) by omega]
    split <;> rfl
theorem missN_take {t : List (List (Bool × Int))} {k : Nat} {r : List (Bool × Int)} (h : t[k]? = some r) : missN 0 (t.take (k + 1)) = missN 0 (t.take k) ++ (if r.isEmpty then [k] else []) := by
  rw [take_snoc h, missN_snoc, List.length_take, Nat.zero_add, Nat.min_eq_left (Nat.le_of_lt (List.getElem?_eq_some_iff.1 h).1)]
theorem under_missing_c (a : Option Addr) (cap : Nat) (t : List (List (Bool × Int))) (k : Nat) (r : List (Bool × Int)) (hr : t[k]? = some r) : Cm Try.prog 31 [.agg #[.slice a t.length cap], .int .i64 k] [] [rowsF (.slice a t.length cap) t] (rets (.bool r.isEmpty)) :=
  cm_old fun _ w hA hF => missing_any t k r w _ (rowsF_rows hA (hF _ (List.mem_singleton.2 rfl))) hr
set_option maxHeartbeats 1000000 in
theorem collect_c (n l s : Int) (a : Option Addr) (cap : Nat) (t : List (List (Bool × Int))) (hlen : ∀ r ∈ t, r.length ≤ 1099511627776) (be bs bt bl : Nat) :
    Cm Try.prog 27 [.pointer (some ⟨be, 0, none⟩), .pointer (some ⟨bs, 0, none⟩), .pointer (some ⟨bt, 0, none⟩), .pointer (some ⟨bl, 0, none⟩)]
      [(be, [.int .i64 0], 45), (bs, [.int .i64 n, .int .i64 l, .int .i64 s], 23), (bt, [.slice a t.length cap], 26), (bl, [.slice none 0 0], 29)] [rowsF (.slice a t.length cap) t] (colR n l s (.slice a t.length cap) (missX n l s t)) := by
  refine cm_ofD (tab := tb) (ok := tbOk) [.o (.p 0 0), .o (.p 1 0), .o (.p 2 0), .o (.p 3 0)] Try.func27 Try.ntmps27 rfl rfl (fun ρ h => by simp [TV.den, SV.den, h 0 be rfl, h 1 bs rfl, h 2 bt rfl, h 3 bl rfl]) ?_
  intro w0 A0
  refine ojs_caughtV rfl rfl rfl rfl rfl rfl rfl rfl ?_
  refine ojs_call [] [] rfl rfl rfl rfl rfl rfl rfl (by simp) (fun _ => of_c n l s a cap t hlen) (by simp) (.inl rfl) ?_
  rintro e cs F1 _ ⟨⟨ht, rfl⟩ | ⟨ht, rfl⟩, rfl⟩
  rotate_left
  · refine lv_up [] caughtUpR (enters_of Try.func28 (by kernel_rfl) rfl) (enters_of Try.func29 (by kernel_rfl) rfl) rfl (by simp) (fun ρ => clearM_c) rfl (lv_ret ?_)
    refine endR_facts [slF encI 1 (.slice none 0 0) []] (fun A w _ f hf => by cases List.mem_singleton.1 hf; exact slF_nilI _ _) ?_
    refine endR_ok [slF encI 1 (.slice none 0 0) []] rfl rfl ⟨rfl, rfl⟩ rfl (fun _ => ?_) (by simp)
    unfold missX
    rw [ht, if_neg (by simp)]
    exact ⟨rfl, _, none, 0, rfl, rfl⟩
  have hbd := tally_bd ht
  have hmx : missX n l s t = missN 0 t := by unfold missX; rw [if_pos ht]
  rw [hmx]
  refine cjs_weak (wk_own 3 1) ?_
  refine cjs_loop (γ := Nat × Option Addr × Nat) (fun g => g.1 ≤ t.length) (fun g => ⟨[(1, .o (.p 1 0)), (2, .o (.p 2 0)), (3, .o (.p 3 0)), (4, .o (.p 4 0)), (11, .o (.v (.int .i64 t.length))), (12, .o (.v (.int .i64 g.1)))],
    [(0, .c [.v (.int .i64 0)] 45), (1, .c [.v (.int .i64 n), .v (.int .i64 l), .v (.int .i64 s)] 23), (2, .c [.v (.slice a t.length cap)] 26), (3, .c [.v (.slice g.2.1 (missN 0 (t.take g.1)).length g.2.2)] 29), (4, .c [.v (.slice a t.length cap), .v (.int .i64 n), .v (.int .i64 l), .v (.int .i64 s)] 74),
      (5, .own (.slice g.2.1 (missN 0 (t.take g.1)).length g.2.2) 3 1 (missN 0 (t.take g.1)).length ((natI (missN 0 (t.take g.1))).flatMap encI))], 6, [rowsF (.slice a t.length cap) t], cauD 28 0 29 [] fun _ => []⟩) (fun g => t.length - g.1) (0, none, 0) (Nat.zero_le _) (wk_cau (by repeat' (first | exact trivial | rfl | refine ⟨?_, ?_⟩ | exact lt_all_v | exact (congrArg some idN_ren_lc.symm) | omega)) (by repeat' (first | exact trivial | rfl | refine ⟨?_, ?_⟩ | exact lt_all_v | exact (congrArg some idN_ren_lc.symm) | omega)) (by simp) (by simp) rfl rfl) ?_
  rintro ⟨k, a1, c1⟩ hk
  simp only at hk
  refine brB_dec (fun h => ?_) (fun h => ?_)
  · have hkt : k < t.length := by dsimp only at h; omega
    obtain ⟨r, hr⟩ := at_some (xs := t) (k := k) hkt
    have hmt := missN_take hr
    have hml := missN_len (t := t.take k) (i := 0)
    rw [List.length_take] at hml
    refine ojs_call [] [] rfl rfl rfl rfl rfl rfl rfl (by simp) (fun _ => under_missing_c a cap t k r hr) (by simp) (.inl rfl) ?_
    rintro e cs F1 _ ⟨rfl, rfl⟩
    cases hre : r.isEmpty
    · rw [hre] at hmt
      simp only [Bool.false_eq_true, if_false, List.append_nil] at hmt
      refine ojs_arith (z := ((k + 1 : Nat) : Int)) (by rw [wrap_in] <;> omega) rfl rfl rfl rfl ?_
      refine ⟨(k + 1, a1, c1), by dsimp only; omega, by dsimp only; omega, ?_⟩
      dsimp only
      rw [hmt]
      exact wk_cau (by repeat' (first | exact trivial | rfl | refine ⟨?_, ?_⟩ | exact lt_all_v | exact (congrArg some idN_ren_lc.symm) | omega)) (by repeat' (first | exact trivial | rfl | refine ⟨?_, ?_⟩ | exact lt_all_v | exact (congrArg some idN_ren_lc.symm) | omega)) (by simp) (by simp) rfl rfl
    · rw [hre] at hmt
      simp only [if_true] at hmt
      refine ojs_append 5 rfl rfl rfl rfl rfl rfl rfl rfl rfl (by omega) rfl rfl rfl (srcL (news := [.int .i64 k]) rfl rfl) rfl (by simp [Value.oneCell']) (by dsimp only; omega) (by dsimp only; simp [maxLen]; omega) ?_
      intro a3 c3
      refine ojs_arith (z := ((k + 1 : Nat) : Int)) (by rw [wrap_in] <;> omega) rfl rfl rfl rfl ?_
      refine ⟨(k + 1, a3, c3), by dsimp only; omega, by dsimp only; omega, ?_⟩
      have e1 : (missN 0 (t.take (k + 1))).length = (missN 0 (t.take k)).length + 1 := by rw [hmt]; simp
      have e2 : (natI (missN 0 (t.take (k + 1)))).flatMap encI = (natI (missN 0 (t.take k))).flatMap encI ++ [.int .i64 k] := by rw [hmt]; simp [natI, encI]
      dsimp only
      rw [e1, e2]
      exact wk_cau (by repeat' (first | exact trivial | rfl | refine ⟨?_, ?_⟩ | exact lt_all_v | exact (congrArg some idN_ren_lc.symm) | omega)) (by repeat' (first | exact trivial | rfl | refine ⟨?_, ?_⟩ | exact lt_all_v | exact (congrArg some idN_ren_lc.symm) | omega)) (by simp) (by simp) rfl rfl
  · obtain rfl : k = t.length := by dsimp only at h; omega
    rw [List.take_length]
    refine lv_idle caughtIdleR (enters_of Try.func28 (by kernel_rfl) rfl) (lv_ret ?_)
    refine endR_weak (wk_seal (j := 5) (enc := encI) (xs := natI (missN 0 t)) (.inr ⟨rfl, rfl⟩) (fun _ => rfl) (by simp [natI]) rfl) ?_
    refine endR_ok [slF encI 1 (.slice a1 (missN 0 t).length c1) (natI (missN 0 t))] rfl rfl ⟨rfl, rfl⟩ rfl (fun _ => ?_) (by simp)
    exact ⟨rfl, _, _, _, rfl, rfl⟩

def seqR (g : Nat) (t : TypeId) (xs : List Nat) : OutT := fun e _ F1 => ∃ b a c, e = .returned (.func (.func g) #[] #[.pointer (some ⟨b, 0, none⟩)]) ∧ F1 = [blkF b [.slice a xs.length c] t, slF encI 1 (.slice a xs.length c) (natI xs)]
theorem missing_c (n l s : Int) (a : Option Addr) (cap : Nat) (t : List (List (Bool × Int))) (hlen : ∀ r ∈ t, r.length ≤ 1099511627776) :
    Cm Try.prog 11 [.agg #[.int .i64 n, .int .i64 l, .int .i64 s], .agg #[.slice a t.length cap]] [] [rowsF (.slice a t.length cap) t] (seqR 32 29 (missX n l s t)) := by
  refine cm_of (tab := tb) (ok := tbOk) [.g [.v (.int .i64 n), .v (.int .i64 l), .v (.int .i64 s)], .g [.v (.slice a t.length cap)]] Try.func11 Try.ntmps11 rfl rfl (fun _ _ => rfl) ?_
  intro w0 A0
  refine ojs_call [] [3, 0, 1, 2] rfl rfl rfl rfl rfl rfl rfl (by simp) (fun ρ => collect_c n l s a cap t hlen (ρ 3) (ρ 0) (ρ 1) (ρ 2)) (by simp) (.inl rfl) ?_
  rintro e cs F1 _ ⟨rfl, z, a2, c2, rfl, rfl⟩
  refine endR_seal [2] [slF encI 1 (.slice a2 (missX n l s t).length c2) (natI (missX n l s t))] rfl rfl rfl rfl ⟨rfl, rfl⟩ rfl (fun ρ => ?_) (by simp)
  exact ⟨_, _, _, rfl, rfl⟩

end Go.Proofs.Ytnkpmeplapkobaa
