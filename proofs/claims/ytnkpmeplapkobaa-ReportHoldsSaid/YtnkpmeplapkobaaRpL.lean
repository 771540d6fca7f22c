/- Reports, by the symbolic run: the law ReportAdds. -/
import Derived.Test.YtnkpmeplapkobaaRpK
namespace Go.Proofs.Ytnkpmeplapkobaa
open Go.RowKit Go.Shelf

theorem addX_bd {n l s : Int} {t : List (List (Bool × Int))} {fr : Int} {r : List (Bool × Int)} (ht : t.length ≤ 100) (hl : ∀ r ∈ t, r.length ≤ 20) (hr : r.length ≤ 20) : (addX n l s t fr r).1.length ≤ 100 ∧ ∀ r' ∈ (addX n l s t fr r).1, r'.length ≤ 20 := by
  unfold addX
  split
  · split
    · split
      · refine ⟨by simpa using ht, fun z hz => ?_⟩
        rcases List.mem_or_eq_of_mem_set hz with h | rfl
        · exact hl z h
        · exact hr
      · simp
    · simp
  · simp

theorem rowsF_zero {v : Value} {m : Nat} {A : Nat → Prop} {w : World} (h : (slF (encV id) 1 v (List.replicate m (.slice none 0 0))).h A w) : (rowsF v (List.replicate m [])).h A w := by
  refine rowsF_of h ⟨by simp, fun i u xs hu hx => ?_⟩
  have h1 := List.eq_of_mem_replicate (List.mem_of_getElem? hu)
  have h2 := List.eq_of_mem_replicate (List.mem_of_getElem? hx)
  subst h1 h2
  exact ⟨none, 0, rfl, ⟨Nat.le_refl _, fun _ => rfl⟩, .inl rfl⟩
theorem madeNil (m : Nat) : (madeCells ([7].map zdec).toArray (m * 1)).toList = List.replicate m (.slice none 0 0) := by
  rw [Nat.mul_one]; exact toList_madeCells_one _ m

set_option maxHeartbeats 4000000 in
theorem lawAdds_c (n l s : Int) (a : Option Addr) (cap : Nat) (t : List (List (Bool × Int))) (node : Int) (ar : Option Addr) (cr : Nat) (xs : List (Bool × Int)) :
    Cm Try.prog 5 [.agg #[.int .i64 n, .int .i64 l, .int .i64 s], .agg #[.slice a t.length cap], .agg #[.int .i64 node, .slice ar xs.length cr]] [] [rowsF (.slice a t.length cap) t, slF encR 2 (.slice ar xs.length cr) xs] (rets (.bool true)) := by
  refine cm_of (tab := tb) (ok := tbOk) [.g [.v (.int .i64 n), .v (.int .i64 l), .v (.int .i64 s)], .g [.v (.slice a t.length cap)], .g [.v (.int .i64 node), .v (.slice ar xs.length cr)]] Try.func5 Try.ntmps5 rfl rfl (fun _ _ => rfl) ?_
  intro w0 A0
  refine ojs_call [] [] rfl rfl rfl rfl rfl rfl rfl (by simp) (fun _ => few_c a cap t) (by simp) (.inl rfl) ?_
  rintro e cs F1 _ ⟨rfl, rfl⟩
  cases hfew : fewB t
  · refine ojs_call [] [] rfl rfl rfl rfl rfl rfl rfl (by simp) (fun _ => works_c) (by simp) (.inl rfl) ?_
    rintro e cs F1 _ ⟨rfl, rfl⟩
    exact endR_ok [] rfl rfl ⟨rfl, rfl⟩ rfl (fun _ => ⟨rfl, rfl⟩) (by simp)
  have hf := fewB_is hfew
  have hlen : ∀ r ∈ t, r.length ≤ 1099511627776 := fun r hr => by have := hf.2 r hr; omega
  refine brB_dec (fun hxl => ?_) (fun hxl => ?_)
  · refine ojs_call [] [] rfl rfl rfl rfl rfl rfl rfl (by simp) (fun _ => works_c) (by simp) (.inl rfl) ?_
    rintro e cs F1 _ ⟨rfl, rfl⟩
    exact endR_ok [] rfl rfl ⟨rfl, rfl⟩ rfl (fun _ => ⟨rfl, rfl⟩) (by simp)
  have hxl : xs.length ≤ 20 := by omega
  refine cjs_cutP (γ := Option Addr × Nat) (fun _ => True) (fun g => [(7, .o (.v (.slice g.1 xs.length g.2)))]) (fun _ => []) (fun g => [slF encR 2 (.slice g.1 xs.length g.2) xs, slF encR 2 (.slice g.1 (xs.length + 1) g.2) (xs ++ [(false, 77)])]) ?_ ?_
  · have hfl : xs.flatMap encR ++ [Value.bool false, .int .i64 77] = (xs ++ [(false, 77)]).flatMap encR := by simp [encR]
    refine cjs_drawn [0, 3, 5, 6, 10] (.op 1 <| .op 2 <| .op 4 <| .op 7 <| .op 8 <| .op 9 <| .alt (.op 0 <| .alt (.op 3 <| .op 5 <| .op 6 <| .op 10 <| .op 11 .z) (.op 5 <| .op 3 <| .op 6 <| .op 10 <| .op 11 .z)) (.op 5 <| .op 0 <| .op 3 <| .op 6 <| .op 10 <| .op 11 .z)) [2] [] [] [] (by kernel_rfl) (by kernel_rfl) rfl (by simp) (by simp) ?_
    intro N
    refine ⟨_, yd_build rfl rfl rfl rfl, ?_⟩
    refine ⟨?_, ?_⟩
    · refine ⟨⟨(by repeat' (first | exact trivial | refine ⟨Or.inl rfl, ?_⟩ | refine ⟨Or.inr ⟨rfl, Nat.le_of_ble_eq_true rfl, _, rfl, rfl, rfl⟩, ?_⟩)), by simp⟩, ?_⟩
      refine ⟨?_, ?_⟩
      · refine ojs_litOwn 27 2 [] rfl rfl rfl (by decide) ?_
        intro g1
        refine ojs_append 3 rfl rfl rfl rfl rfl rfl rfl rfl rfl (by omega) rfl rfl rfl (srcF (enc := encR) (ys := xs) rfl (by simp) encR_len) (flat_len encR_len xs) encR_one (by omega) (by simp [maxLen]; omega) ?_
        intro a2 c2
        rw [List.nil_append, show 0 + xs.length = xs.length from Nat.zero_add _]
        refine ⟨⟨(by repeat' (first | exact trivial | refine ⟨Or.inl rfl, ?_⟩ | refine ⟨Or.inr ⟨rfl, Nat.le_of_ble_eq_true rfl, _, rfl, rfl, rfl⟩, ?_⟩)), by simp⟩, ?_⟩
        refine ⟨⟨(by repeat' (first | exact trivial | refine ⟨Or.inl rfl, ?_⟩ | refine ⟨Or.inr ⟨rfl, Nat.le_of_ble_eq_true rfl, _, rfl, rfl, rfl⟩, ?_⟩)), by simp⟩, ?_⟩
        refine ojs_append 3 rfl rfl rfl rfl rfl rfl rfl rfl rfl (by omega) rfl rfl rfl (srcL (q := 4) (news := [.bool false, .int .i64 77]) rfl rfl) rfl (by simp [Value.oneCell']) (by omega) (by simp [maxLen]; omega) ?_
        intro a3 c3
        rw [hfl]
        refine ⟨⟨(by repeat' (first | exact trivial | refine ⟨Or.inl rfl, ?_⟩ | refine ⟨Or.inr ⟨rfl, Nat.le_of_ble_eq_true rfl, _, rfl, rfl, rfl⟩, ?_⟩)), by simp⟩, ?_⟩
        refine ojs_ownCap 3 rfl (by omega) fun hcap => ?_
        refine ojs_sliceH (i := xs.length) rfl (by omega) rfl rfl rfl rfl ?_
        refine ⟨⟨(by repeat' (first | exact trivial | refine ⟨Or.inl rfl, ?_⟩ | refine ⟨Or.inr ⟨rfl, Nat.le_of_ble_eq_true rfl, _, rfl, rfl, rfl⟩, ?_⟩)), by simp⟩, ?_⟩
        refine ⟨(a3, c3), trivial, (wk_seal (m := xs.length + 1) (j := 3) (enc := encR) (xs := xs ++ [(false, 77)]) (.inl rfl) encR_len (by simp) rfl).trans ((wk_add (slF encR 2 (.slice a3 xs.length c3) xs) fun A w hF => slF_take (hF _ (List.mem_cons_self ..))).trans (wk_patch (by repeat' (first | exact trivial | exact Or.inl rfl | refine Or.inr ⟨?_, ?_⟩ | rfl | refine ⟨?_, ?_⟩ | exact lt_all_v)) (by repeat' (first | exact trivial | exact Or.inl rfl | refine Or.inr ⟨?_, ?_⟩ | rfl | refine ⟨?_, ?_⟩ | exact lt_all_v)) (by simp) (by simp) D_nil))⟩
      · refine ⟨⟨(by repeat' (first | exact trivial | refine ⟨Or.inl rfl, ?_⟩ | refine ⟨Or.inr ⟨rfl, Nat.le_of_ble_eq_true rfl, _, rfl, rfl, rfl⟩, ?_⟩)), by simp⟩, ?_⟩
        refine ojs_litOwn 27 2 [] rfl rfl rfl (by decide) ?_
        intro g1
        refine ojs_append 3 rfl rfl rfl rfl rfl rfl rfl rfl rfl (by omega) rfl rfl rfl (srcF (enc := encR) (ys := xs) rfl (by simp) encR_len) (flat_len encR_len xs) encR_one (by omega) (by simp [maxLen]; omega) ?_
        intro a2 c2
        rw [List.nil_append, show 0 + xs.length = xs.length from Nat.zero_add _]
        refine ⟨⟨(by repeat' (first | exact trivial | refine ⟨Or.inl rfl, ?_⟩ | refine ⟨Or.inr ⟨rfl, Nat.le_of_ble_eq_true rfl, _, rfl, rfl, rfl⟩, ?_⟩)), by simp⟩, ?_⟩
        refine ojs_append 3 rfl rfl rfl rfl rfl rfl rfl rfl rfl (by omega) rfl rfl rfl (srcL (q := 4) (news := [.bool false, .int .i64 77]) rfl rfl) rfl (by simp [Value.oneCell']) (by omega) (by simp [maxLen]; omega) ?_
        intro a3 c3
        rw [hfl]
        refine ⟨⟨(by repeat' (first | exact trivial | refine ⟨Or.inl rfl, ?_⟩ | refine ⟨Or.inr ⟨rfl, Nat.le_of_ble_eq_true rfl, _, rfl, rfl, rfl⟩, ?_⟩)), by simp⟩, ?_⟩
        refine ojs_ownCap 3 rfl (by omega) fun hcap => ?_
        refine ojs_sliceH (i := xs.length) rfl (by omega) rfl rfl rfl rfl ?_
        refine ⟨⟨(by repeat' (first | exact trivial | refine ⟨Or.inl rfl, ?_⟩ | refine ⟨Or.inr ⟨rfl, Nat.le_of_ble_eq_true rfl, _, rfl, rfl, rfl⟩, ?_⟩)), by simp⟩, ?_⟩
        refine ⟨(a3, c3), trivial, (wk_seal (m := xs.length + 1) (j := 3) (enc := encR) (xs := xs ++ [(false, 77)]) (.inl rfl) encR_len (by simp) rfl).trans ((wk_add (slF encR 2 (.slice a3 xs.length c3) xs) fun A w hF => slF_take (hF _ (List.mem_cons_self ..))).trans (wk_patch (by repeat' (first | exact trivial | exact Or.inl rfl | refine Or.inr ⟨?_, ?_⟩ | rfl | refine ⟨?_, ?_⟩ | exact lt_all_v)) (by repeat' (first | exact trivial | exact Or.inl rfl | refine Or.inr ⟨?_, ?_⟩ | rfl | refine ⟨?_, ?_⟩ | exact lt_all_v)) (by simp) (by simp) D_nil))⟩
    · refine ⟨⟨(by repeat' (first | exact trivial | refine ⟨Or.inl rfl, ?_⟩ | refine ⟨Or.inr ⟨rfl, Nat.le_of_ble_eq_true rfl, _, rfl, rfl, rfl⟩, ?_⟩)), by simp⟩, ?_⟩
      refine ⟨⟨(by repeat' (first | exact trivial | refine ⟨Or.inl rfl, ?_⟩ | refine ⟨Or.inr ⟨rfl, Nat.le_of_ble_eq_true rfl, _, rfl, rfl, rfl⟩, ?_⟩)), by simp⟩, ?_⟩
      refine ojs_litOwn 27 2 [] rfl rfl rfl (by decide) ?_
      intro g1
      refine ojs_append 4 rfl rfl rfl rfl rfl rfl rfl rfl rfl (by omega) rfl rfl rfl (srcF (enc := encR) (ys := xs) rfl (by simp) encR_len) (flat_len encR_len xs) encR_one (by omega) (by simp [maxLen]; omega) ?_
      intro a2 c2
      rw [List.nil_append, show 0 + xs.length = xs.length from Nat.zero_add _]
      refine ⟨⟨(by repeat' (first | exact trivial | refine ⟨Or.inl rfl, ?_⟩ | refine ⟨Or.inr ⟨rfl, Nat.le_of_ble_eq_true rfl, _, rfl, rfl, rfl⟩, ?_⟩)), by simp⟩, ?_⟩
      refine ojs_append 4 rfl rfl rfl rfl rfl rfl rfl rfl rfl (by omega) rfl rfl rfl (srcL (q := 3) (news := [.bool false, .int .i64 77]) rfl rfl) rfl (by simp [Value.oneCell']) (by omega) (by simp [maxLen]; omega) ?_
      intro a3 c3
      rw [hfl]
      refine ⟨⟨(by repeat' (first | exact trivial | refine ⟨Or.inl rfl, ?_⟩ | refine ⟨Or.inr ⟨rfl, Nat.le_of_ble_eq_true rfl, _, rfl, rfl, rfl⟩, ?_⟩)), by simp⟩, ?_⟩
      refine ojs_ownCap 4 rfl (by omega) fun hcap => ?_
      refine ojs_sliceH (i := xs.length) rfl (by omega) rfl rfl rfl rfl ?_
      refine ⟨⟨(by repeat' (first | exact trivial | refine ⟨Or.inl rfl, ?_⟩ | refine ⟨Or.inr ⟨rfl, Nat.le_of_ble_eq_true rfl, _, rfl, rfl, rfl⟩, ?_⟩)), by simp⟩, ?_⟩
      refine ⟨(a3, c3), trivial, (wk_seal (m := xs.length + 1) (j := 4) (enc := encR) (xs := xs ++ [(false, 77)]) (.inl rfl) encR_len (by simp) rfl).trans ((wk_add (slF encR 2 (.slice a3 xs.length c3) xs) fun A w hF => slF_take (hF _ (List.mem_cons_self ..))).trans (wk_patch (by repeat' (first | exact trivial | exact Or.inl rfl | refine Or.inr ⟨?_, ?_⟩ | rfl | refine ⟨?_, ?_⟩ | exact lt_all_v)) (by repeat' (first | exact trivial | exact Or.inl rfl | refine Or.inr ⟨?_, ?_⟩ | rfl | refine ⟨?_, ?_⟩ | exact lt_all_v)) (by simp) (by simp) D_nil))⟩
  rintro ⟨a1, c1⟩ -
  refine ojs_fact (slF encR 2 (.slice a1 (xs.length + 1) c1) (xs ++ [(false, 77)])) (by simp) (fun A w hF => slF_len hF) ?_
  rintro ⟨-, hc1⟩
  have h77 : (xs ++ [((false, 77) : Bool × Int)])[xs.length]? = some (false, 77) := by simp
  refine ojs_fact (slF encR 2 (.slice a1 (xs.length + 1) c1) (xs ++ [(false, 77)])) (by simp) (slF_ne h77) ?_
  rintro ⟨b1, o1, rfl⟩
  refine ojs_call [] [] rfl rfl rfl rfl rfl rfl rfl (by simp) (fun _ => add_c n l s a cap t node (some ⟨b1, o1, none⟩) c1 xs hlen (by omega)) (by simp) (.inl rfl) ?_
  rintro e cs F1 _ ⟨a2, c2, rfl, rfl⟩
  refine ojs_call [] [] rfl rfl rfl rfl rfl rfl rfl (by simp) (fun _ => refAdd_c n l s a cap t node ar cr xs hf.1 hlen (by omega)) (by simp) (.inl rfl) ?_
  rintro e cs F1 _ ⟨a3, c3, rfl, rfl⟩
  have hXb := addX_bd (n := n) (l := l) (s := s) (fr := node) hf.1 hf.2 hxl
  obtain ⟨X, hX⟩ : ∃ X, X = addX n l s t node xs := ⟨_, rfl⟩
  rw [← hX] at hXb ⊢
  clear hX
  obtain ⟨t3, wh, er⟩ := X
  simp only at hXb
  refine ojs_call [] [] rfl rfl rfl rfl rfl rfl rfl (by simp) (fun _ => check_c n l s (some ⟨b1, o1, none⟩) c1 xs (by omega)) (by simp) (.inl rfl) ?_
  rintro e cs F1 _ ⟨rfl, rfl⟩
  refine ojs_call [] [] rfl rfl rfl rfl rfl rfl rfl (by simp) (fun _ => num_c _) (by simp) (.inl rfl) ?_
  rintro e cs F1 _ ⟨rfl, rfl⟩
  refine ojs_call [] [] rfl rfl rfl rfl rfl rfl rfl (by simp) (fun _ => new_c n l s) (by simp) (.inl rfl) ?_
  rintro e cs F1 _ (⟨hs, rfl, rfl⟩ | ⟨hs, m, an, rfl, rfl, rfl⟩)
  · have hp : repB n l s xs = false := by unfold repB; rw [hs]; rfl
    rw [hp]
    refine cjs_drawn [2, 11, 21, 36, 45] (.op 0 <| .op 1 <| .op 2 <| .op 3 <| .op 4 <| .op 5 <| .op 6 <| .op 7 <| .op 8 <| .op 9 <| .op 10 <| .op 12 <| .op 11 <| .op 13 <| .op 14 <| .op 15 <| .op 16 <| .op 17 <| .op 18 <| .op 19 <| .op 20 <| .op 21 <| .op 22 <| .op 23 <| .op 24 <| .op 25 <| .op 26 <| .op 27 <| .op 28 <| .op 29 <| .op 30 <| .op 31 <| .op 32 <| .op 33 <| .op 34 <| .op 35 <| .op 36 <| .op 37 <| .op 38 <| .op 39 <| .op 40 <| .op 41 <| .op 42 <| .op 43 <| .op 44 <| .op 46 <| .op 47 <| .op 48 <| .op 45 <| .op 49 <| .op 50 <| .op 51 <| .op 52 <| .op 53 .z) [0, 2, 3, 4] [] [] [slF encR 2 (.slice (some ⟨b1, o1, none⟩) (xs.length + 1) c1) (xs ++ [(false, 77)])] (by kernel_rfl) (by kernel_rfl) rfl (by simp) (by simp) ?_
    intro N
    refine ojs_call [] [] rfl rfl rfl rfl rfl rfl rfl (by simp) (fun _ => sameTally_c a2 c2 a3 c3 t3 (by omega) (fun r hr => by have := hXb.2 r hr; omega)) (by simp) (.inl rfl) ?_
    rintro e cs F1 _ ⟨rfl, rfl⟩
    refine ⟨⟨(by repeat' (first | exact trivial | refine ⟨Or.inl rfl, ?_⟩ | refine ⟨Or.inr ⟨rfl, Nat.le_of_ble_eq_true rfl, _, rfl, rfl, rfl⟩, ?_⟩)), by simp⟩, ?_⟩
    refine ⟨_, yd_boolNe (r := false) (by kernel_rfl) (by simp) rfl rfl rfl, ?_⟩
    refine ojs_call [] [] rfl rfl rfl rfl rfl rfl rfl (by simp) (fun _ => num_c er) (by simp) (.inl rfl) ?_
    rintro e cs F1 _ ⟨rfl, rfl⟩
    refine ⟨⟨(by repeat' (first | exact trivial | refine ⟨Or.inl rfl, ?_⟩ | refine ⟨Or.inr ⟨rfl, Nat.le_of_ble_eq_true rfl, _, rfl, rfl, rfl⟩, ?_⟩)), by simp⟩, ?_⟩
    refine brB_split (fun h => by simp at h) (fun _ => ?_)
    refine ojs_call [] [] rfl rfl rfl rfl rfl rfl rfl (by simp) (fun _ => refRight_c _ l s ar cr xs (by omega)) (by simp) (.inl rfl) ?_
    rintro e cs F1 _ ⟨rfl, rfl⟩
    rw [hp]
    refine ⟨⟨(by repeat' (first | exact trivial | refine ⟨Or.inl rfl, ?_⟩ | refine ⟨Or.inr ⟨rfl, Nat.le_of_ble_eq_true rfl, _, rfl, rfl, rfl⟩, ?_⟩)), by simp⟩, ?_⟩
    refine ⟨_, yd_boolNe (r := false) (by kernel_rfl) rfl rfl rfl rfl, ?_⟩
    refine ojs_call [] [] rfl rfl rfl rfl rfl rfl rfl (by simp) (fun _ => sameReport_c (some ⟨b1, o1, none⟩) c1 ar cr xs (by omega)) (by simp) (.inl rfl) ?_
    rintro e cs F1 _ ⟨rfl, rfl⟩
    refine ⟨⟨(by repeat' (first | exact trivial | refine ⟨Or.inl rfl, ?_⟩ | refine ⟨Or.inr ⟨rfl, Nat.le_of_ble_eq_true rfl, _, rfl, rfl, rfl⟩, ?_⟩)), by simp⟩, ?_⟩
    refine ⟨_, yd_arith (z := ((xs.length + 1 : Nat) : Int)) (by rw [wrap_in] <;> omega) rfl rfl rfl rfl, ?_⟩
    refine ojs_sliceH (i := xs.length + 1) rfl hc1 rfl rfl rfl rfl ?_
    refine ⟨⟨(by repeat' (first | exact trivial | refine ⟨Or.inl rfl, ?_⟩ | refine ⟨Or.inr ⟨rfl, Nat.le_of_ble_eq_true rfl, _, rfl, rfl, rfl⟩, ?_⟩)), by simp⟩, ?_⟩
    refine ⟨_, yd_index (i := xs.length) rfl (by omega) rfl rfl rfl rfl, ?_⟩
    refine ⟨_, yd_load1 _ (List.mem_singleton.2 rfl) (slF_at h77 (j := 1) rfl) rfl rfl rfl, ?_⟩
    refine ojs_call [] [] rfl rfl rfl rfl rfl rfl rfl (by simp) (fun _ => (by have := refShape_c n l s; rw [hs] at this; exact this)) (by simp) (.inl rfl) ?_
    rintro e cs F1 _ ⟨rfl, rfl⟩
    refine ojs_call [] [] rfl rfl rfl rfl rfl rfl rfl (by simp) (fun _ => num_c _) (by simp) (.inl rfl) ?_
    rintro e cs F1 _ ⟨rfl, rfl⟩
    refine ojs_call [] [] rfl rfl rfl rfl rfl rfl rfl (by simp) (fun _ => works_c) (by simp) (.inl rfl) ?_
    rintro e cs F1 _ ⟨rfl, rfl⟩
    exact endR_ok [] rfl rfl ⟨rfl, rfl⟩ rfl (fun _ => ⟨rfl, rfl⟩) (by simp)
  · cases hp : repB m l s xs
    · refine cjs_drawn [2, 11, 21, 36, 45] (.op 0 <| .op 1 <| .op 2 <| .op 3 <| .op 4 <| .op 5 <| .op 6 <| .op 7 <| .op 8 <| .op 9 <| .op 10 <| .op 12 <| .op 11 <| .op 13 <| .op 14 <| .op 15 <| .op 16 <| .op 17 <| .op 18 <| .op 19 <| .op 20 <| .op 21 <| .op 22 <| .op 23 <| .op 24 <| .op 25 <| .op 26 <| .op 27 <| .op 28 <| .op 29 <| .op 30 <| .op 31 <| .op 32 <| .op 33 <| .op 34 <| .op 35 <| .op 36 <| .op 37 <| .op 38 <| .op 39 <| .op 40 <| .op 41 <| .op 42 <| .op 43 <| .op 44 <| .op 46 <| .op 47 <| .op 48 <| .op 45 <| .op 49 <| .op 50 <| .op 51 <| .op 52 <| .op 53 .z) [0, 2, 3, 4] [] [] [slF encR 2 (.slice (some ⟨b1, o1, none⟩) (xs.length + 1) c1) (xs ++ [(false, 77)])] (by kernel_rfl) (by kernel_rfl) rfl (by simp) (by simp) ?_
      intro N
      refine ojs_call [] [] rfl rfl rfl rfl rfl rfl rfl (by simp) (fun _ => sameTally_c a2 c2 a3 c3 t3 (by omega) (fun r hr => by have := hXb.2 r hr; omega)) (by simp) (.inl rfl) ?_
      rintro e cs F1 _ ⟨rfl, rfl⟩
      refine ⟨⟨(by repeat' (first | exact trivial | refine ⟨Or.inl rfl, ?_⟩ | refine ⟨Or.inr ⟨rfl, Nat.le_of_ble_eq_true rfl, _, rfl, rfl, rfl⟩, ?_⟩)), by simp⟩, ?_⟩
      refine ⟨_, yd_boolNe (r := false) (by kernel_rfl) (by simp) rfl rfl rfl, ?_⟩
      refine ojs_call [] [] rfl rfl rfl rfl rfl rfl rfl (by simp) (fun _ => num_c er) (by simp) (.inl rfl) ?_
      rintro e cs F1 _ ⟨rfl, rfl⟩
      refine ⟨⟨(by repeat' (first | exact trivial | refine ⟨Or.inl rfl, ?_⟩ | refine ⟨Or.inr ⟨rfl, Nat.le_of_ble_eq_true rfl, _, rfl, rfl, rfl⟩, ?_⟩)), by simp⟩, ?_⟩
      refine brB_split (fun h => by simp at h) (fun _ => ?_)
      refine ojs_call [] [] rfl rfl rfl rfl rfl rfl rfl (by simp) (fun _ => refRight_c _ l s ar cr xs (by omega)) (by simp) (.inl rfl) ?_
      rintro e cs F1 _ ⟨rfl, rfl⟩
      rw [hp]
      refine ⟨⟨(by repeat' (first | exact trivial | refine ⟨Or.inl rfl, ?_⟩ | refine ⟨Or.inr ⟨rfl, Nat.le_of_ble_eq_true rfl, _, rfl, rfl, rfl⟩, ?_⟩)), by simp⟩, ?_⟩
      refine ⟨_, yd_boolNe (r := false) (by kernel_rfl) rfl rfl rfl rfl, ?_⟩
      refine ojs_call [] [] rfl rfl rfl rfl rfl rfl rfl (by simp) (fun _ => sameReport_c (some ⟨b1, o1, none⟩) c1 ar cr xs (by omega)) (by simp) (.inl rfl) ?_
      rintro e cs F1 _ ⟨rfl, rfl⟩
      refine ⟨⟨(by repeat' (first | exact trivial | refine ⟨Or.inl rfl, ?_⟩ | refine ⟨Or.inr ⟨rfl, Nat.le_of_ble_eq_true rfl, _, rfl, rfl, rfl⟩, ?_⟩)), by simp⟩, ?_⟩
      refine ⟨_, yd_arith (z := ((xs.length + 1 : Nat) : Int)) (by rw [wrap_in] <;> omega) rfl rfl rfl rfl, ?_⟩
      refine ojs_sliceH (i := xs.length + 1) rfl hc1 rfl rfl rfl rfl ?_
      refine ⟨⟨(by repeat' (first | exact trivial | refine ⟨Or.inl rfl, ?_⟩ | refine ⟨Or.inr ⟨rfl, Nat.le_of_ble_eq_true rfl, _, rfl, rfl, rfl⟩, ?_⟩)), by simp⟩, ?_⟩
      refine ⟨_, yd_index (i := xs.length) rfl (by omega) rfl rfl rfl rfl, ?_⟩
      refine ⟨_, yd_load1 _ (List.mem_singleton.2 rfl) (slF_at h77 (j := 1) rfl) rfl rfl rfl, ?_⟩
      have hsh := shapeB_is hs
      refine ojs_call [] [] rfl rfl rfl rfl rfl rfl rfl (by simp) (fun _ => (by have := refShape_c m l s; rw [hs] at this; exact this)) (by simp) (.inl rfl) ?_
      rintro e cs F1 _ ⟨rfl, rfl⟩
      refine cjs_drawn [1, 7, 9, 12] (.op 0 <| .op 1 <| .op 2 <| .op 3 <| .op 4 <| .op 5 <| .op 6 <| .op 7 <| .op 8 <| .op 9 <| .op 10 <| .op 11 <| .op 12 <| .op 13 <| .op 14 .z) [0, 5] [] [] [] (by kernel_rfl) (by kernel_rfl) rfl (by simp) (by simp) ?_
      intro N
      refine ojs_call [] [] rfl rfl rfl rfl rfl rfl rfl (by simp) (fun _ => num_c _) (by simp) (.inl rfl) ?_
      rintro e cs F1 _ ⟨rfl, rfl⟩
      refine ⟨⟨(by repeat' (first | exact trivial | refine ⟨Or.inl rfl, ?_⟩ | refine ⟨Or.inr ⟨rfl, Nat.le_of_ble_eq_true rfl, _, rfl, rfl, rfl⟩, ?_⟩)), by simp⟩, ?_⟩
      refine ojs_makeSlice (m := m) rfl rfl rfl rfl rfl rfl rfl rfl rfl (by omega) (by simp [maxLen]; omega) ?_
      intro a4
      rw [madeNil]
      refine ⟨⟨(by repeat' (first | exact trivial | refine ⟨Or.inl rfl, ?_⟩ | refine ⟨Or.inr ⟨rfl, Nat.le_of_ble_eq_true rfl, _, rfl, rfl, rfl⟩, ?_⟩)), by simp⟩, ?_⟩
      refine ⟨_, yd_build rfl rfl rfl rfl, ?_⟩
      refine ojs_weak ((wk_seal (m := m) (j := 6) (enc := encV id) (xs := List.replicate m (.slice none 0 0)) (.inl rfl) (fun _ => rfl) (by simp) (by rw [flat_id]; rfl)).trans (wk_add (rowsF (.slice a4 m m) (List.replicate m [])) fun A w hF => rowsF_zero (hF _ (List.mem_cons_self ..)))) ?_
      refine ojs_call [] [] rfl rfl rfl rfl rfl rfl rfl (by simp) (fun _ => (by have := sameTally_c an m a4 m (List.replicate m []) (by rw [List.length_replicate]; omega) (fun r hr => by rw [List.eq_of_mem_replicate hr]; simp); rw [List.length_replicate] at this; exact this)) (by simp) (.inl rfl) ?_
      rintro e cs F1 _ ⟨rfl, rfl⟩
      refine ⟨⟨(by repeat' (first | exact trivial | refine ⟨Or.inl rfl, ?_⟩ | refine ⟨Or.inr ⟨rfl, Nat.le_of_ble_eq_true rfl, _, rfl, rfl, rfl⟩, ?_⟩)), by simp⟩, ?_⟩
      refine ojs_call [] [] rfl rfl rfl rfl rfl rfl rfl (by simp) (fun _ => works_c) (by simp) (.inl rfl) ?_
      rintro e cs F1 _ ⟨rfl, rfl⟩
      refine ⟨⟨(by repeat' (first | exact trivial | refine ⟨Or.inl rfl, ?_⟩ | refine ⟨Or.inr ⟨rfl, Nat.le_of_ble_eq_true rfl, _, rfl, rfl, rfl⟩, ?_⟩)), by simp⟩, ?_⟩
      exact endR_ok [] rfl rfl ⟨rfl, rfl⟩ rfl (fun _ => ⟨rfl, rfl⟩) (by simp)
    · refine cjs_drawn [2, 11, 21, 36, 45] (.op 0 <| .op 1 <| .op 2 <| .op 3 <| .op 4 <| .op 5 <| .op 6 <| .op 7 <| .op 8 <| .op 9 <| .op 10 <| .op 12 <| .op 11 <| .op 13 <| .op 14 <| .op 15 <| .op 16 <| .op 17 <| .op 18 <| .op 19 <| .op 20 <| .op 21 <| .op 22 <| .op 23 <| .op 24 <| .op 25 <| .op 26 <| .op 27 <| .op 28 <| .op 29 <| .op 30 <| .op 31 <| .op 32 <| .op 33 <| .op 34 <| .op 35 <| .op 36 <| .op 37 <| .op 38 <| .op 39 <| .op 40 <| .op 41 <| .op 42 <| .op 43 <| .op 44 <| .op 46 <| .op 47 <| .op 48 <| .op 45 <| .op 49 <| .op 50 <| .op 51 <| .op 52 <| .op 53 .z) [0, 2, 3, 4] [] [] [slF encR 2 (.slice (some ⟨b1, o1, none⟩) (xs.length + 1) c1) (xs ++ [(false, 77)])] (by kernel_rfl) (by kernel_rfl) rfl (by simp) (by simp) ?_
      intro N
      refine ojs_call [] [] rfl rfl rfl rfl rfl rfl rfl (by simp) (fun _ => sameTally_c a2 c2 a3 c3 t3 (by omega) (fun r hr => by have := hXb.2 r hr; omega)) (by simp) (.inl rfl) ?_
      rintro e cs F1 _ ⟨rfl, rfl⟩
      refine ⟨⟨(by repeat' (first | exact trivial | refine ⟨Or.inl rfl, ?_⟩ | refine ⟨Or.inr ⟨rfl, Nat.le_of_ble_eq_true rfl, _, rfl, rfl, rfl⟩, ?_⟩)), by simp⟩, ?_⟩
      refine ⟨_, yd_boolNe (r := false) (by kernel_rfl) (by simp) rfl rfl rfl, ?_⟩
      refine ojs_call [] [] rfl rfl rfl rfl rfl rfl rfl (by simp) (fun _ => num_c er) (by simp) (.inl rfl) ?_
      rintro e cs F1 _ ⟨rfl, rfl⟩
      refine ⟨⟨(by repeat' (first | exact trivial | refine ⟨Or.inl rfl, ?_⟩ | refine ⟨Or.inr ⟨rfl, Nat.le_of_ble_eq_true rfl, _, rfl, rfl, rfl⟩, ?_⟩)), by simp⟩, ?_⟩
      refine brB_split (fun h => by simp at h) (fun _ => ?_)
      refine ojs_call [] [] rfl rfl rfl rfl rfl rfl rfl (by simp) (fun _ => refRight_c _ l s ar cr xs (by omega)) (by simp) (.inl rfl) ?_
      rintro e cs F1 _ ⟨rfl, rfl⟩
      rw [hp]
      refine ⟨⟨(by repeat' (first | exact trivial | refine ⟨Or.inl rfl, ?_⟩ | refine ⟨Or.inr ⟨rfl, Nat.le_of_ble_eq_true rfl, _, rfl, rfl, rfl⟩, ?_⟩)), by simp⟩, ?_⟩
      refine ⟨_, yd_boolNe (r := false) (by kernel_rfl) rfl rfl rfl rfl, ?_⟩
      refine ojs_call [] [] rfl rfl rfl rfl rfl rfl rfl (by simp) (fun _ => sameReport_c (some ⟨b1, o1, none⟩) c1 ar cr xs (by omega)) (by simp) (.inl rfl) ?_
      rintro e cs F1 _ ⟨rfl, rfl⟩
      refine ⟨⟨(by repeat' (first | exact trivial | refine ⟨Or.inl rfl, ?_⟩ | refine ⟨Or.inr ⟨rfl, Nat.le_of_ble_eq_true rfl, _, rfl, rfl, rfl⟩, ?_⟩)), by simp⟩, ?_⟩
      refine ⟨_, yd_arith (z := ((xs.length + 1 : Nat) : Int)) (by rw [wrap_in] <;> omega) rfl rfl rfl rfl, ?_⟩
      refine ojs_sliceH (i := xs.length + 1) rfl hc1 rfl rfl rfl rfl ?_
      refine ⟨⟨(by repeat' (first | exact trivial | refine ⟨Or.inl rfl, ?_⟩ | refine ⟨Or.inr ⟨rfl, Nat.le_of_ble_eq_true rfl, _, rfl, rfl, rfl⟩, ?_⟩)), by simp⟩, ?_⟩
      refine ⟨_, yd_index (i := xs.length) rfl (by omega) rfl rfl rfl rfl, ?_⟩
      refine ⟨_, yd_load1 _ (List.mem_singleton.2 rfl) (slF_at h77 (j := 1) rfl) rfl rfl rfl, ?_⟩
      have hsh := shapeB_is hs
      refine ojs_call [] [] rfl rfl rfl rfl rfl rfl rfl (by simp) (fun _ => (by have := refShape_c m l s; rw [hs] at this; exact this)) (by simp) (.inl rfl) ?_
      rintro e cs F1 _ ⟨rfl, rfl⟩
      refine cjs_drawn [1, 7, 9, 12] (.op 0 <| .op 1 <| .op 2 <| .op 3 <| .op 4 <| .op 5 <| .op 6 <| .op 7 <| .op 8 <| .op 9 <| .op 10 <| .op 11 <| .op 12 <| .op 13 <| .op 14 .z) [0, 5] [] [] [] (by kernel_rfl) (by kernel_rfl) rfl (by simp) (by simp) ?_
      intro N
      refine ojs_call [] [] rfl rfl rfl rfl rfl rfl rfl (by simp) (fun _ => num_c _) (by simp) (.inl rfl) ?_
      rintro e cs F1 _ ⟨rfl, rfl⟩
      refine ⟨⟨(by repeat' (first | exact trivial | refine ⟨Or.inl rfl, ?_⟩ | refine ⟨Or.inr ⟨rfl, Nat.le_of_ble_eq_true rfl, _, rfl, rfl, rfl⟩, ?_⟩)), by simp⟩, ?_⟩
      refine ojs_makeSlice (m := m) rfl rfl rfl rfl rfl rfl rfl rfl rfl (by omega) (by simp [maxLen]; omega) ?_
      intro a4
      rw [madeNil]
      refine ⟨⟨(by repeat' (first | exact trivial | refine ⟨Or.inl rfl, ?_⟩ | refine ⟨Or.inr ⟨rfl, Nat.le_of_ble_eq_true rfl, _, rfl, rfl, rfl⟩, ?_⟩)), by simp⟩, ?_⟩
      refine ⟨_, yd_build rfl rfl rfl rfl, ?_⟩
      refine ojs_weak ((wk_seal (m := m) (j := 6) (enc := encV id) (xs := List.replicate m (.slice none 0 0)) (.inl rfl) (fun _ => rfl) (by simp) (by rw [flat_id]; rfl)).trans (wk_add (rowsF (.slice a4 m m) (List.replicate m [])) fun A w hF => rowsF_zero (hF _ (List.mem_cons_self ..)))) ?_
      refine ojs_call [] [] rfl rfl rfl rfl rfl rfl rfl (by simp) (fun _ => (by have := sameTally_c an m a4 m (List.replicate m []) (by rw [List.length_replicate]; omega) (fun r hr => by rw [List.eq_of_mem_replicate hr]; simp); rw [List.length_replicate] at this; exact this)) (by simp) (.inl rfl) ?_
      rintro e cs F1 _ ⟨rfl, rfl⟩
      refine ⟨⟨(by repeat' (first | exact trivial | refine ⟨Or.inl rfl, ?_⟩ | refine ⟨Or.inr ⟨rfl, Nat.le_of_ble_eq_true rfl, _, rfl, rfl, rfl⟩, ?_⟩)), by simp⟩, ?_⟩
      refine ojs_call [] [] rfl rfl rfl rfl rfl rfl rfl (by simp) (fun _ => works_c) (by simp) (.inl rfl) ?_
      rintro e cs F1 _ ⟨rfl, rfl⟩
      refine ⟨⟨(by repeat' (first | exact trivial | refine ⟨Or.inl rfl, ?_⟩ | refine ⟨Or.inr ⟨rfl, Nat.le_of_ble_eq_true rfl, _, rfl, rfl, rfl⟩, ?_⟩)), by simp⟩, ?_⟩
      exact endR_ok [] rfl rfl ⟨rfl, rfl⟩ rfl (fun _ => ⟨rfl, rfl⟩) (by simp)

end Go.Proofs.Ytnkpmeplapkobaa
