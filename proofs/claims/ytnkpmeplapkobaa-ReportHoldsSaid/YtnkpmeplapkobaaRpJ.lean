/- Reports, by the symbolic run: Add. -/
import Derived.Test.YtnkpmeplapkobaaRpI
namespace Go.Proofs.Ytnkpmeplapkobaa
open Go.RowKit Go.Shelf

/-- What Add tells: the tally, whether it is whole, an error. -/
def addX (n l s : Int) (t : List (List (Bool × Int))) (fr : Int) (r : List (Bool × Int)) : List (List (Bool × Int)) × Bool × Int :=
  if tallyB n l s t = true ∧ repB n l s r = true then
    if 0 ≤ fr ∧ fr < n then
      if (t.getD fr.toNat []).isEmpty = true then (t.set fr.toNat r, (missN 0 (t.set fr.toNat r)).isEmpty, 0) else ([], false, 270)
    else ([], false, 4)
  else ([], false, 2)
def addR (x : List (List (Bool × Int)) × Bool × Int) : OutT := fun e _ F1 => ∃ a c, e = .returned (.tuple #[.agg #[.slice a x.1.length c], .bool x.2.1, .int .i64 x.2.2]) ∧ F1 = [rowsF (.slice a x.1.length c) x.1]
theorem rowsF_nil (A : Nat → Prop) (w : World) : (rowsF (.slice none 0 0) []).h A w := ⟨[], ⟨none, 0, rfl, ⟨Nat.le_refl _, fun _ => rfl⟩, .inl rfl⟩, rfl, fun i u xs hu => by simp at hu⟩
theorem rowsF_of {v : Value} {vs : List Value} {t : List (List (Bool × Int))} {A : Nat → Prop} {w : World} (h1 : (slF (encV id) 1 v vs).h A w) (h2 : (allF encR 2 vs t).h A w) : (rowsF v t).h A w := ⟨vs, h1, h2.1, h2.2⟩
theorem flat_id (vs : List Value) : vs.flatMap (encV id) = vs := by
  induction vs with
  | nil => rfl
  | cons v vs ih => rw [List.flatMap_cons, ih]; rfl
theorem right_c (n l s : Int) (a : Option Addr) (cap : Nat) (xs : List (Bool × Int)) (hlen : xs.length ≤ 1099511627776) :
    Cm Try.prog 36 [.agg #[.int .i64 n, .int .i64 l, .int .i64 s], .slice a xs.length cap] [] [slF encR 2 (.slice a xs.length cap) xs] (rets (.bool (repB n l s xs))) :=
  cm_old fun _ w hA hF => right_any n l s w _ xs hlen (slF_sl (hF _ (List.mem_singleton.2 rfl)) hA)
theorem Try.infoR : (Try.prog.info? 42).map (fun i => (i.zero, i.size, i.bytes)) = some (some (.agg #[.bool false, .int .i64 0]), 2, 16) := by kernel_rfl
theorem encR_one {xs : List (Bool × Int)} : ∀ u ∈ xs.flatMap encR, u.oneCell' = true := by
  intro u hu
  obtain ⟨x, _, hx⟩ := List.mem_flatMap.1 hu
  simp only [encR, List.mem_cons, List.not_mem_nil, or_false] at hx
  rcases hx with rfl | rfl <;> rfl
set_option maxHeartbeats 1000000 in
theorem cloneR_any (w : World) (sv : Value) (xs : List (Bool × Int)) (hlen : xs.length ≤ 1099511627776) (hS : Sl encR 2 w sv xs) :
    Calls Try.prog 37 #[sv] w fun e w' => ∃ v, e = .returned v ∧ w'.ownsRow w.heap.size 42 2 v xs.length (xs.flatMap encR) ∧ Below w.heap.size w w' := by
  obtain ⟨a, cap, rfl⟩ := hS.shape
  obtain ⟨i0, hi, hz0, hz1, hz2⟩ := info_parts Try.infoR
  cases a with
  | none =>
    obtain rfl := hS.nil_of_none
    have heq := fun w' => Lib.run_eql_slice_nil (P := Try.prog) w' 37 42 none 0 cap 0 0 Try.underlying37
    go_enter Try.func37, Try.ntmps37
    go_wp2
    go_ret
    exact ⟨_, rfl, World.ownsRow_nil _ _ _ _, Below.refl _ _⟩
  | some ad =>
    have heq := fun w' => Lib.run_eql_slice_nil (P := Try.prog) w' 37 42 (some ad) xs.length cap 0 0 Try.underlying37
    have hnews := (hS.below (w' := w.alloc (.cells #[] 42)) (by (repeat (first | (with_reducible exact Below.refl _ _) | (with_reducible assumption) | (with_reducible refine below_drewN ?_ _) | (with_reducible refine Below.drew ?_) | ((with_reducible refine Below.alloc ?_ ?_ _); rotate_left; focus (first | (with_reducible exact Nat.le_refl _) | omega | (simp; done) | (simp; omega))) | ((with_reducible refine Below.setCell (p := ⟨_, _, _⟩) ?_ ?_ _); rotate_left; focus (first | (with_reducible exact Nat.le_refl _) | omega | (simp; done) | (simp; omega))))))).news encR_len
    have hfl := flat_length encR_len xs
    have Hfl := Lib.hid hfl
    have Hnews := Lib.hid hnews
    clear hfl hnews hS
    have hown := World.ownsRow_made (w := w) (base := w.heap.size) (e := 42) (size := 2) #[] 0 (Nat.le_refl _) (by decide) rfl
    have Hown := Lib.hid hown
    clear hown
    go_enter Try.func37, Try.ntmps37
    go_wp2_with (at_builtin; refine wpList_append_own _ rfl _ _ 37 rfl w.heap.size 42 i0 (.agg #[.bool false, .int .i64 0]) 2 16 Try.underlying37 hi hz0 hz1 hz2 rfl (by decide) _ _ _ rfl Hown.out ad xs.length cap (xs.flatMap encR) rfl Hfl.out Hnews.out encR_one (by unfold maxLen; omega) (by omega) (by simp) ?_; intro v' w1 hown' hgrow _; have hv' := Lib.hid hown'; clear hown')
    go_ret
    refine ⟨v', rfl, by simpa using hv'.out, ((Below.refl _ w).alloc (Nat.le_refl _) _).grown hgrow (by simp) (fun k e => ?_)⟩
    have e1 : w.heap.size = k := Option.some.inj (show some w.heap.size = some k from e)
    omega
theorem cloneR_c (a : Option Addr) (cap : Nat) (xs : List (Bool × Int)) (hlen : xs.length ≤ 1099511627776) : Cm Try.prog 37 [.slice a xs.length cap] [] [slF encR 2 (.slice a xs.length cap) xs] (fun e _ F1 => ∃ a c, e = .returned (.slice a xs.length c) ∧ F1 = [slF encR 2 (.slice a xs.length c) xs]) :=
  cm_ownR encR_len fun _ w hA hF => cloneR_any w _ xs hlen (slF_sl (hF _ (List.mem_singleton.2 rfl)) hA)
theorem clearA_c (b c : Nat) (v u : Value) : Cm Try.prog 34 [.pointer (some ⟨b, 0, none⟩), .pointer (some ⟨c, 0, none⟩)] [(b, [v], 26), (c, [u], 4)] [] (fun e cs F1 => e = .returned (.tuple #[]) ∧ cs = [[.slice none 0 0], [.bool false]] ∧ F1 = []) := by
  refine cm_of (tab := tb) (ok := tbOk) [.o (.p 0 0), .o (.p 1 0)] Try.func34 Try.ntmps34 rfl rfl (fun ρ h => by simp [TV.den, SV.den, h 0 b rfl, h 1 c rfl]) ?_
  intro w0 A0
  exact endR_ok [] rfl rfl ⟨rfl, rfl⟩ rfl (fun _ => ⟨rfl, rfl, rfl⟩) (by simp)

theorem facts_cons {F F' : List Fact} {f : Fact} {A : Nat → Prop} {w : World} (h1 : (∀ g ∈ F, g.h A w) → f.h A w) (h2 : ∀ g ∈ F', g ∈ F) (h : ∀ g ∈ F, g.h A w) : ∀ g ∈ f :: F', g.h A w := by
  intro g hg
  rcases List.mem_cons.1 hg with rfl | hg
  · exact h1 h
  · exact h g (h2 g hg)
theorem tally_set {n l s : Int} {t : List (List (Bool × Int))} {r : List (Bool × Int)} {k : Nat} (ht : tallyB n l s t = true) (hr : repB n l s r = true) : tallyB n l s (t.set k r) = true := by
  unfold tallyB at ht ⊢
  simp only [Bool.and_eq_true, List.length_set, List.all_eq_true] at ht ⊢
  refine ⟨ht.1, fun x hx => ?_⟩
  rcases List.mem_or_eq_of_mem_set hx with h | rfl
  · exact ht.2 x h
  · unfold rowB; rw [hr]; simp

set_option maxHeartbeats 2000000 in
theorem add_c (n l s : Int) (a : Option Addr) (cap : Nat) (t : List (List (Bool × Int))) (fr : Int) (ar : Option Addr) (cr : Nat) (r : List (Bool × Int)) (hlen : ∀ r ∈ t, r.length ≤ 1099511627776) (hr : r.length ≤ 1099511627776) :
    Cm Try.prog 14 [.agg #[.int .i64 n, .int .i64 l, .int .i64 s], .agg #[.slice a t.length cap], .int .i64 fr, .slice ar r.length cr] [] [rowsF (.slice a t.length cap) t, slF encR 2 (.slice ar r.length cr) r] (addR (addX n l s t fr r)) := by
  refine cm_ofD (tab := tb) (ok := tbOk) [.g [.v (.int .i64 n), .v (.int .i64 l), .v (.int .i64 s)], .g [.v (.slice a t.length cap)], .o (.v (.int .i64 fr)), .o (.v (.slice ar r.length cr))] Try.func14 Try.ntmps14 rfl rfl (fun _ _ => rfl) ?_
  intro w0 A0
  refine ojs_caught rfl rfl rfl rfl rfl rfl rfl rfl ?_
  refine ojs_call [] [] rfl rfl rfl rfl rfl rfl rfl (by simp) (fun _ => of_c n l s a cap t hlen) (by simp) (.inl rfl) ?_
  rintro e cs F1 _ ⟨⟨ht, rfl⟩ | ⟨ht, rfl⟩, rfl⟩
  rotate_left
  · refine lv_up [2, 3] caughtUpR (enters_of Try.func28 (by kernel_rfl) rfl) (enters_of Try.func34 (by kernel_rfl) rfl) rfl (by simp) (fun ρ => clearA_c _ _ _ _) rfl (lv_ret ?_)
    refine endR_facts [rowsF (.slice none 0 0) []] (fun A w _ f hf => by cases List.mem_singleton.1 hf; exact rowsF_nil _ _) ?_
    refine endR_ok [rowsF (.slice none 0 0) []] rfl rfl ⟨rfl, rfl⟩ rfl (fun _ => ?_) (by simp)
    have hx : addX n l s t fr r = ([], false, 2) := by
      unfold addX
      rw [if_neg (by rw [ht]; simp)]
    rw [hx]
    exact ⟨none, 0, rfl, rfl⟩
  refine ojs_call [] [] rfl rfl rfl rfl rfl rfl rfl (by simp) (fun _ => right_c n l s ar cr r hr) (by simp) (.inl rfl) ?_
  rintro e cs F1 _ ⟨rfl, rfl⟩
  refine ojs_call [] [] rfl rfl rfl rfl rfl rfl rfl (by simp) (fun _ => must_c _ _) (by simp) (.inl rfl) ?_
  rintro e cs F1 _ ⟨⟨hp, rfl⟩ | ⟨hp, rfl⟩, rfl⟩
  rotate_left
  · refine lv_up [2, 3] caughtUpR (enters_of Try.func28 (by kernel_rfl) rfl) (enters_of Try.func34 (by kernel_rfl) rfl) rfl (by simp) (fun ρ => clearA_c _ _ _ _) rfl (lv_ret ?_)
    refine endR_facts [rowsF (.slice none 0 0) []] (fun A w _ f hf => by cases List.mem_singleton.1 hf; exact rowsF_nil _ _) ?_
    refine endR_ok [rowsF (.slice none 0 0) []] rfl rfl ⟨rfl, rfl⟩ rfl (fun _ => ?_) (by simp)
    have hx : addX n l s t fr r = ([], false, 2) := by
      unfold addX
      rw [if_neg (by rw [hp]; simp)]
    rw [hx]
    exact ⟨none, 0, rfl, rfl⟩
  have hbd := tally_bd ht
  refine brB_dec (fun h0 => ?_) (fun h0 => ?_)
  rotate_left
  · refine ojs_call [] [] rfl rfl rfl rfl rfl rfl rfl (by simp) (fun _ => must_c _ _) (by simp) (.inl rfl) ?_
    rintro e cs F1 _ ⟨⟨h1, rfl⟩ | ⟨h1, rfl⟩, rfl⟩
    · simp at h1
    · refine lv_up [2, 3] caughtUpR (enters_of Try.func28 (by kernel_rfl) rfl) (enters_of Try.func34 (by kernel_rfl) rfl) rfl (by simp) (fun ρ => clearA_c _ _ _ _) rfl (lv_ret ?_)
      refine endR_facts [rowsF (.slice none 0 0) []] (fun A w _ f hf => by cases List.mem_singleton.1 hf; exact rowsF_nil _ _) ?_
      refine endR_ok [rowsF (.slice none 0 0) []] rfl rfl ⟨rfl, rfl⟩ rfl (fun _ => ?_) (by simp)
      have hx : addX n l s t fr r = ([], false, 4) := by
        unfold addX
        rw [if_pos ⟨ht, hp⟩, if_neg (fun h => h0 h.1)]
      rw [hx]
      exact ⟨none, 0, rfl, rfl⟩
  refine ojs_call [] [] rfl rfl rfl rfl rfl rfl rfl (by simp) (fun _ => must_c _ _) (by simp) (.inl rfl) ?_
  rintro e cs F1 _ ⟨⟨h1, rfl⟩ | ⟨h1, rfl⟩, rfl⟩
  rotate_left
  · refine lv_up [2, 3] caughtUpR (enters_of Try.func28 (by kernel_rfl) rfl) (enters_of Try.func34 (by kernel_rfl) rfl) rfl (by simp) (fun ρ => clearA_c _ _ _ _) rfl (lv_ret ?_)
    refine endR_facts [rowsF (.slice none 0 0) []] (fun A w _ f hf => by cases List.mem_singleton.1 hf; exact rowsF_nil _ _) ?_
    refine endR_ok [rowsF (.slice none 0 0) []] rfl rfl ⟨rfl, rfl⟩ rfl (fun _ => ?_) (by simp)
    have hx : addX n l s t fr r = ([], false, 4) := by
      unfold addX
      rw [if_pos ⟨ht, hp⟩, if_neg (fun h => by simp at h1; omega)]
    rw [hx]
    exact ⟨none, 0, rfl, rfl⟩
  have h1 : fr < n := by simpa using h1
  obtain ⟨k, rfl⟩ : ∃ k : Nat, fr = k := ⟨fr.toNat, by omega⟩
  have hkl : k < t.length := by omega
  obtain ⟨x, hx⟩ := at_some (xs := t) (k := k) hkl
  refine ojs_call [] [] rfl rfl rfl rfl rfl rfl rfl (by simp) (fun _ => under_missing_c a cap t k x hx) (by simp) (.inl rfl) ?_
  rintro e cs F1 _ ⟨rfl, rfl⟩
  refine ojs_call [] [] rfl rfl rfl rfl rfl rfl rfl (by simp) (fun _ => must_c _ _) (by simp) (.inl rfl) ?_
  rintro e cs F1 _ ⟨⟨hm, rfl⟩ | ⟨hm, rfl⟩, rfl⟩
  rotate_left
  · obtain ⟨fr, hfr⟩ : ∃ fr : Int, fr = (k : Int) := ⟨_, rfl⟩
    rw [← hfr] at h0 h1 ⊢
    refine lv_up [2, 3] caughtUpR (enters_of Try.func28 (by kernel_rfl) rfl) (enters_of Try.func34 (by kernel_rfl) rfl) rfl (by simp) (fun ρ => clearA_c _ _ _ _) rfl (lv_ret ?_)
    refine endR_facts [rowsF (.slice none 0 0) []] (fun A w _ f hf => by cases List.mem_singleton.1 hf; exact rowsF_nil _ _) ?_
    refine endR_ok [rowsF (.slice none 0 0) []] rfl rfl ⟨rfl, rfl⟩ rfl (fun _ => ?_) (by simp)
    have hx : addX n l s t fr r = ([], false, 270) := by
      unfold addX
      rw [if_pos ⟨ht, hp⟩, if_pos ⟨h0, h1⟩, hfr, Int.toNat_natCast, if_neg (by rw [List.getD_eq_getElem?_getD, hx]; simp [hm])]
    rw [hx]
    exact ⟨none, 0, rfl, rfl⟩
  have haX : addX n l s t k r = (t.set k r, (missN 0 (t.set k r)).isEmpty, 0) := by
    unfold addX
    rw [if_pos ⟨ht, hp⟩, if_pos ⟨h0, h1⟩, Int.toNat_natCast, if_pos (by rw [List.getD_eq_getElem?_getD, hx]; simpa using hm)]
  refine cjs_weak (wk_own 37 1) ?_
  refine cjs_loopP (γ := Nat × Option Addr × Nat × List Value) (fun g => g.1 ≤ t.length ∧ g.2.2.2.length = g.1) (fun g => [(41, .o (.v (.int .i64 g.1)))]) (fun g => [(2, .c [.v (.slice g.2.1 g.1 g.2.2.1)] 26), (6, .own (.slice g.2.1 g.1 g.2.2.1) 37 1 g.1 g.2.2.2)]) (fun g => [allF encR 2 g.2.2.2 (t.take g.1)]) (fun g => t.length - g.1) (0, none, 0, []) ⟨Nat.zero_le _, rfl⟩ (wk_patchF (by repeat' (first | exact trivial | exact Or.inl rfl | refine Or.inr ⟨?_, ?_⟩ | rfl | refine ⟨?_, ?_⟩ | exact lt_all_v)) (by repeat' (first | exact trivial | exact Or.inl rfl | refine Or.inr ⟨?_, ?_⟩ | rfl | refine ⟨?_, ?_⟩ | exact lt_all_v)) (fun A w => facts_cons (fun _ => by rw [List.take_zero]; exact allF_nil) (by simp)) (by simp) (D_cau rfl rfl)) ?_
  rintro ⟨i, a1, c1, vs⟩ ⟨hi, hvl⟩
  simp only at hi hvl
  refine brB_dec (fun h => ?_) (fun h => ?_)
  · have hit : i < t.length := by dsimp only at h; omega
    obtain ⟨y, hy⟩ := at_some (xs := t) (k := i) hit
    refine ojs_ex _ (fun A w hF => rowsF_at hy A w (hF (rowsF (.slice a t.length cap) t) (by simp))) ?_
    rintro ⟨b, off, ra, rc⟩ (rfl : a = some ⟨b, off, none⟩)
    refine ojs_index rfl hit rfl rfl rfl rfl ?_
    refine ojs_load1 _ (List.mem_cons_self ..) celF_at rfl rfl rfl ?_
    refine cjs_drawn [3, 4, 5, 7] (.op 0 <| .op 1 <| .op 2 <| .op 3 <| .op 4 <| .op 5 <| .op 6 <| .op 7 .z) [2] [(7, 2)] [] [] (by kernel_rfl) (by kernel_rfl) rfl (by simp) (by simp) ?_
    intro N
    refine ojs_call [] [] rfl rfl rfl rfl rfl rfl rfl (by simp) (fun _ => cloneR_c ra rc y (hlen y (List.mem_of_getElem? hy))) (by simp) (.inl rfl) ?_
    rintro e cs F1 _ ⟨a3, c3, rfl, rfl⟩
    refine ⟨⟨(by repeat' (first | exact trivial | refine ⟨Or.inl rfl, ?_⟩ | refine ⟨Or.inr ⟨rfl, Nat.le_of_ble_eq_true rfl, _, rfl, rfl, rfl⟩, ?_⟩)), by simp⟩, ?_⟩
    refine ⟨⟨(by repeat' (first | exact trivial | refine ⟨Or.inl rfl, ?_⟩ | refine ⟨Or.inr ⟨rfl, Nat.le_of_ble_eq_true rfl, _, rfl, rfl, rfl⟩, ?_⟩)), by simp⟩, ?_⟩
    refine ojs_append 6 rfl rfl rfl rfl rfl rfl rfl rfl rfl (by omega) rfl rfl rfl (srcL (news := [.slice a3 y.length c3]) rfl rfl) rfl (by simp [Value.oneCell']) (by dsimp only; omega) (by simp [maxLen]; omega) ?_
    intro a4 c4
    refine ⟨⟨(by repeat' (first | exact trivial | refine ⟨Or.inl rfl, ?_⟩ | refine ⟨Or.inr ⟨rfl, Nat.le_of_ble_eq_true rfl, _, rfl, rfl, rfl⟩, ?_⟩)), by simp⟩, ?_⟩
    refine ⟨⟨(by repeat' (first | exact trivial | refine ⟨Or.inl rfl, ?_⟩ | refine ⟨Or.inr ⟨rfl, Nat.le_of_ble_eq_true rfl, _, rfl, rfl, rfl⟩, ?_⟩)), by simp⟩, ?_⟩
    refine ojs_arith (z := ((i + 1 : Nat) : Int)) (by first | decide | (rw [wrap_in] <;> omega) | (dsimp only; rw [wrap_in] <;> omega)) rfl rfl rfl rfl ?_
    refine ⟨(i + 1, a4, c4, vs ++ [.slice a3 y.length c3]), ⟨(by first | omega | (dsimp only; omega)), by simp [hvl]⟩, (by first | omega | (dsimp only; omega)), wk_patchF (by repeat' (first | exact trivial | exact Or.inl rfl | refine Or.inr ⟨?_, ?_⟩ | rfl | refine ⟨?_, ?_⟩ | exact lt_all_v)) (by repeat' (first | exact trivial | exact Or.inl rfl | refine Or.inr ⟨?_, ?_⟩ | rfl | refine ⟨?_, ?_⟩ | exact lt_all_v)) (fun A w => facts_cons (fun hF => ?_) (by simp)) (by simp) (D_cau rfl rfl)⟩
    dsimp only
    rw [take_snoc hy]
    exact allF_snoc (hF _ (by simp)) (hF _ (by simp))
  · obtain rfl : i = t.length := by dsimp only at h; omega
    refine cjs_ownAddr 6 rfl (by dsimp only; omega) ?_
    rintro g rfl
    refine cjs_drawn [4, 6] (.op 0 <| .op 1 <| .op 2 <| .op 3 <| .op 4 <| .op 5 <| .op 6 .z) [2] [] [] [] (by kernel_rfl) (by kernel_rfl) rfl (by simp) (by simp) ?_
    intro N
    refine ojs_call [] [] rfl rfl rfl rfl rfl rfl rfl (by simp) (fun _ => cloneR_c ar cr r hr) (by simp) (.inl rfl) ?_
    rintro e cs F1 _ ⟨a3, c3, rfl, rfl⟩
    refine ⟨⟨(by repeat' (first | exact trivial | refine ⟨Or.inl rfl, ?_⟩ | refine ⟨Or.inr ⟨rfl, Nat.le_of_ble_eq_true rfl, _, rfl, rfl, rfl⟩, ?_⟩)), by simp⟩, ?_⟩
    refine ⟨_, yd_index (i := k) rfl hkl rfl rfl rfl rfl, ?_⟩
    refine ojs_storeW (xs := [.slice a3 r.length c3]) (cells' := vs.set k (.slice a3 r.length c3)) 6 rfl rfl rfl rfl rfl rfl rfl (by dsimp only; omega) rfl (by dsimp only; simp; omega) (by simp [Value.oneCell']) (by dsimp only; rw [List.set_eq_take_append_cons_drop, if_pos (by omega)]; simp) ?_
    refine ⟨⟨(by repeat' (first | exact trivial | refine ⟨Or.inl rfl, ?_⟩ | refine ⟨Or.inr ⟨rfl, Nat.le_of_ble_eq_true rfl, _, rfl, rfl, rfl⟩, ?_⟩)), by simp⟩, ?_⟩
    obtain ⟨t2, ht2⟩ : ∃ t2, t2 = t.set k r := ⟨_, rfl⟩
    have hl2 : t2.length = t.length := by rw [ht2]; simp
    have hb2 : tallyB n l s t2 = true := by rw [ht2]; exact tally_set ht hp
    rw [← ht2] at haX
    refine cjs_weak ((wk_seal (m := t.length) (j := 6) (enc := encV id) (xs := vs.set k (.slice a3 r.length c3)) (.inl rfl) (fun _ => rfl) (by simp [hvl]) (by rw [flat_id]; rfl)).trans (wk_facts [rowsF (.slice (some ⟨g, 0, none⟩) t.length c1) t2] fun A w => facts_cons (fun hF => ?_) (by simp))) ?_
    · refine rowsF_of (hF _ (List.mem_cons_self ..)) ?_
      have h1 := hF (allF encR 2 vs (t.take t.length)) (by simp)
      rw [List.take_length] at h1
      rw [ht2]
      exact allF_set h1 (hF _ (by simp))
    refine cjs_drawn [2, 3, 4, 5] (.op 0 <| .op 1 <| .op 2 <| .op 3 <| .op 4 <| .op 5 .z) [2, 5] [(3, 2)] [] [] (by kernel_rfl) (by kernel_rfl) rfl (by simp) (by simp) ?_
    intro N
    refine ojs_call [] [] rfl rfl rfl rfl rfl rfl rfl (by simp) (fun _ => (by have := whole_c n l s (some ⟨g, 0, none⟩) c1 t2 (by rw [ht2]; intro z hz; rcases List.mem_or_eq_of_mem_set hz with h | rfl; exact hlen z h; exact hr) (by omega); rw [hl2] at this; exact this)) (by simp) (.inl rfl) ?_
    rintro e cs F1 _ ⟨rfl, rfl⟩
    refine ⟨⟨(by repeat' (first | exact trivial | refine ⟨Or.inl rfl, ?_⟩ | refine ⟨Or.inr ⟨rfl, Nat.le_of_ble_eq_true rfl, _, rfl, rfl, rfl⟩, ?_⟩)), by simp⟩, ?_⟩
    refine ⟨⟨(by repeat' (first | exact trivial | refine ⟨Or.inl rfl, ?_⟩ | refine ⟨Or.inr ⟨rfl, Nat.le_of_ble_eq_true rfl, _, rfl, rfl, rfl⟩, ?_⟩)), by simp⟩, ?_⟩
    refine ⟨⟨(by repeat' (first | exact trivial | refine ⟨Or.inl rfl, ?_⟩ | refine ⟨Or.inr ⟨rfl, Nat.le_of_ble_eq_true rfl, _, rfl, rfl, rfl⟩, ?_⟩)), by simp⟩, ?_⟩
    refine ⟨⟨(by repeat' (first | exact trivial | refine ⟨Or.inl rfl, ?_⟩ | refine ⟨Or.inr ⟨rfl, Nat.le_of_ble_eq_true rfl, _, rfl, rfl, rfl⟩, ?_⟩)), by simp⟩, ?_⟩
    refine lv_idle caughtIdleR (enters_of Try.func28 (by kernel_rfl) rfl) (lv_ret ?_)
    refine endR_ok [rowsF (.slice (some ⟨g, 0, none⟩) t.length c1) t2] rfl rfl ⟨rfl, rfl⟩ rfl (fun _ => ?_) (by simp)
    rw [haX]
    have hmx : missX n l s t2 = missN 0 t2 := by unfold missX; rw [if_pos hb2]
    rw [hmx]
    exact ⟨some ⟨g, 0, none⟩, c1, by rw [hl2]; rfl, by rw [hl2]⟩

end Go.Proofs.Ytnkpmeplapkobaa
