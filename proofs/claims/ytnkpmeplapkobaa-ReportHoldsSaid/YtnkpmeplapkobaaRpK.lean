/- Reports, by the symbolic run: the reference's Add; Check; New; tallies that are the same. -/
import Derived.Test.YtnkpmeplapkobaaRpJ
namespace Go.Proofs.Ytnkpmeplapkobaa
open Go.RowKit Go.Shelf

theorem rowsF_split {v : Value} {t : List (List (Bool × Int))} (A : Nat → Prop) (w : World) (h : (rowsF v t).h A w) : ∃ vs : List Value, (vs.length = t.length ∧ ∀ u ∈ vs, u.oneCell' = true) ∧ ∀ g ∈ [slF (encV id) 1 v vs, allF encR 2 vs t], g.h A w := by
  obtain ⟨vs, h1, h2, h3⟩ := h
  refine ⟨vs, ⟨h2, fun u hu => ?_⟩, ?_⟩
  · obtain ⟨i, hi⟩ := List.mem_iff_getElem?.1 hu
    obtain ⟨x, hx⟩ := at_some (xs := t) (k := i) (by have := (List.getElem?_eq_some_iff.1 hi).1; omega)
    obtain ⟨a, c, rfl, _⟩ := h3 i u x hi hx
    rfl
  simp only [List.forall_mem_cons, List.not_mem_nil, false_implies, implies_true, and_true]
  exact ⟨h1, h2, h3⟩

set_option maxHeartbeats 2000000 in
theorem refAdd_c (n l s : Int) (a : Option Addr) (cap : Nat) (t : List (List (Bool × Int))) (fr : Int) (ar : Option Addr) (cr : Nat) (r : List (Bool × Int)) (htl : t.length ≤ 100) (hlen : ∀ r ∈ t, r.length ≤ 1099511627776) (hr : r.length ≤ 1099511627776) :
    Cm Try.prog 17 [.agg #[.int .i64 n, .int .i64 l, .int .i64 s], .agg #[.slice a t.length cap], .int .i64 fr, .slice ar r.length cr] [] [rowsF (.slice a t.length cap) t, slF encR 2 (.slice ar r.length cr) r] (addR (addX n l s t fr r)) := by
  refine cm_of (tab := tb) (ok := tbOk) [.g [.v (.int .i64 n), .v (.int .i64 l), .v (.int .i64 s)], .g [.v (.slice a t.length cap)], .o (.v (.int .i64 fr)), .o (.v (.slice ar r.length cr))] Try.func17 Try.ntmps17 rfl rfl (fun _ _ => rfl) ?_
  intro w0 A0
  refine ojs_call [] [] rfl rfl rfl rfl rfl rfl rfl (by simp) (fun _ => refTally_c n l s a cap t hlen (by omega)) (by simp) (.inl rfl) ?_
  rintro e cs F1 _ ⟨rfl, rfl⟩
  cases ht : tallyB n l s t
  · refine endR_facts [rowsF (.slice none 0 0) []] (fun A w _ f hf => by cases List.mem_singleton.1 hf; exact rowsF_nil _ _) ?_
    refine endR_ok [rowsF (.slice none 0 0) []] rfl rfl ⟨rfl, rfl⟩ rfl (fun _ => ?_) (by simp)
    have hx : addX n l s t fr r = ([], false, 2) := by
      unfold addX
      rw [if_neg (by rw [ht]; simp)]
    rw [hx]
    exact ⟨none, 0, rfl, rfl⟩
  have hbd := tally_bd ht
  refine ojs_call [] [] rfl rfl rfl rfl rfl rfl rfl (by simp) (fun _ => refRight_c n l s ar cr r hr) (by simp) (.inl rfl) ?_
  rintro e cs F1 _ ⟨rfl, rfl⟩
  cases hp : repB n l s r
  · refine endR_facts [rowsF (.slice none 0 0) []] (fun A w _ f hf => by cases List.mem_singleton.1 hf; exact rowsF_nil _ _) ?_
    refine endR_ok [rowsF (.slice none 0 0) []] rfl rfl ⟨rfl, rfl⟩ rfl (fun _ => ?_) (by simp)
    have hx : addX n l s t fr r = ([], false, 2) := by
      unfold addX
      rw [if_neg (by rw [hp]; simp)]
    rw [hx]
    exact ⟨none, 0, rfl, rfl⟩
  refine brB_dec (fun h0 => ?_) (fun h0 => ?_)
  · refine endR_facts [rowsF (.slice none 0 0) []] (fun A w _ f hf => by cases List.mem_singleton.1 hf; exact rowsF_nil _ _) ?_
    refine endR_ok [rowsF (.slice none 0 0) []] rfl rfl ⟨rfl, rfl⟩ rfl (fun _ => ?_) (by simp)
    have hx : addX n l s t fr r = ([], false, 4) := by
      unfold addX
      rw [if_pos ⟨ht, hp⟩, if_neg (fun h => by omega)]
    rw [hx]
    exact ⟨none, 0, rfl, rfl⟩
  refine brB_dec (fun h1 => ?_) (fun h1 => ?_)
  · refine endR_facts [rowsF (.slice none 0 0) []] (fun A w _ f hf => by cases List.mem_singleton.1 hf; exact rowsF_nil _ _) ?_
    refine endR_ok [rowsF (.slice none 0 0) []] rfl rfl ⟨rfl, rfl⟩ rfl (fun _ => ?_) (by simp)
    have hx : addX n l s t fr r = ([], false, 4) := by
      unfold addX
      rw [if_pos ⟨ht, hp⟩, if_neg (fun h => by omega)]
    rw [hx]
    exact ⟨none, 0, rfl, rfl⟩
  obtain ⟨k, rfl⟩ : ∃ k : Nat, fr = k := ⟨fr.toNat, by omega⟩
  have hkl : k < t.length := by omega
  obtain ⟨x, hx⟩ := at_some (xs := t) (k := k) hkl
  refine ojs_ex _ (fun A w hF => rowsF_at hx A w (hF (rowsF (.slice a t.length cap) t) (by simp))) ?_
  rintro ⟨b, off, ra, rc⟩ (rfl : a = some ⟨b, off, none⟩)
  refine ojs_index rfl hkl rfl rfl rfl rfl ?_
  refine ojs_load1 _ (List.mem_cons_self ..) celF_at rfl rfl rfl ?_
  refine brB_dec (fun hm => ?_) (fun hm => ?_)
  · obtain ⟨fr, hfr⟩ : ∃ fr : Int, fr = (k : Int) := ⟨_, rfl⟩
    rw [← hfr] at h0 h1 ⊢
    have hm : x.isEmpty = false := by cases x with | nil => simp at hm | cons => rfl
    refine endR_facts [rowsF (.slice none 0 0) []] (fun A w _ f hf => by cases List.mem_singleton.1 hf; exact rowsF_nil _ _) ?_
    refine endR_ok [rowsF (.slice none 0 0) []] rfl rfl ⟨rfl, rfl⟩ rfl (fun _ => ?_) (by simp)
    have hx : addX n l s t fr r = ([], false, 270) := by
      unfold addX
      rw [if_pos ⟨ht, hp⟩, if_pos (by omega), hfr, Int.toNat_natCast, if_neg (by rw [List.getD_eq_getElem?_getD, hx]; simp only [Option.getD_some, hm]; simp)]
    rw [hx]
    exact ⟨none, 0, rfl, rfl⟩
  have hm : x.isEmpty = true := by cases x with | nil => rfl | cons => exfalso; simp at hm
  have haX : addX n l s t k r = (t.set k r, (missN 0 (t.set k r)).isEmpty, 0) := by
    unfold addX
    rw [if_pos ⟨ht, hp⟩, if_pos (by omega), Int.toNat_natCast, if_pos (by rw [List.getD_eq_getElem?_getD, hx]; simpa using hm)]
  refine ojs_litOwn 40 1 [] rfl rfl rfl (by decide) ?_
  intro g1
  refine ojs_ex _ (fun A w hF => rowsF_split A w (hF (rowsF (.slice (some ⟨b, off, none⟩) t.length cap) t) (by simp))) ?_
  rintro vs ⟨hvl, hv1⟩
  refine ojs_append 3 rfl rfl rfl rfl rfl rfl rfl rfl rfl (by omega) rfl rfl rfl (srcF (enc := encV id) (ys := vs) rfl (by simp) (fun _ => rfl)) (by rw [flat_id]; omega) (by rw [flat_id]; exact hv1) (by omega) (by simp [maxLen]; omega) ?_
  intro a2 c2
  rw [flat_id, List.nil_append, show 0 + t.length = t.length from Nat.zero_add _]
  refine cjs_ownAddr 3 rfl (by omega) ?_
  rintro g2 rfl
  refine cjs_drawn [3, 5, 7] (.op 0 <| .op 1 <| .op 2 <| .op 4 <| .op 3 <| .op 5 <| .op 6 <| .op 7 .z) [4] [] [] [] (by kernel_rfl) (by kernel_rfl) rfl (by simp) (by simp) ?_
  intro N
  refine ⟨⟨(by repeat' (first | exact trivial | refine ⟨Or.inl rfl, ?_⟩ | refine ⟨Or.inr ⟨rfl, Nat.le_of_ble_eq_true rfl, _, rfl, rfl, rfl⟩, ?_⟩)), by simp⟩, ?_⟩
  refine ojs_litOwn 48 2 [] rfl rfl rfl (by decide) ?_
  intro g3
  refine ojs_append 5 rfl rfl rfl rfl rfl rfl rfl rfl rfl (by omega) rfl rfl rfl (srcF (enc := encR) (ys := r) rfl (by simp) encR_len) (flat_len encR_len r) encR_one (by omega) (by simp [maxLen]; omega) ?_
  intro a4 c4
  rw [List.nil_append, show 0 + r.length = r.length from Nat.zero_add _]
  refine ⟨⟨(by repeat' (first | exact trivial | refine ⟨Or.inl rfl, ?_⟩ | refine ⟨Or.inr ⟨rfl, Nat.le_of_ble_eq_true rfl, _, rfl, rfl, rfl⟩, ?_⟩)), by simp⟩, ?_⟩
  refine ⟨_, yd_index (i := k) rfl hkl rfl rfl rfl rfl, ?_⟩
  refine ojs_storeW (xs := [.slice a4 r.length c4]) (cells' := vs.set k (.slice a4 r.length c4)) 3 rfl rfl rfl rfl rfl rfl rfl (by omega) rfl (by simp; omega) (by simp [Value.oneCell']) (by rw [List.set_eq_take_append_cons_drop, if_pos (by omega)]; simp) ?_
  refine ⟨⟨(by repeat' (first | exact trivial | refine ⟨Or.inl rfl, ?_⟩ | refine ⟨Or.inr ⟨rfl, Nat.le_of_ble_eq_true rfl, _, rfl, rfl, rfl⟩, ?_⟩)), by simp⟩, ?_⟩
  obtain ⟨t2, ht2⟩ : ∃ t2, t2 = t.set k r := ⟨_, rfl⟩
  have hl2 : t2.length = t.length := by rw [ht2]; simp
  rw [← ht2] at haX
  refine cjs_weak ((wk_seal (m := r.length) (j := 5) (enc := encR) (xs := r) (.inl rfl) encR_len rfl rfl).trans ((wk_seal (m := t.length) (j := 3) (enc := encV id) (xs := vs.set k (.slice a4 r.length c4)) (.inl rfl) (fun _ => rfl) (by simp [hvl]) (by rw [flat_id]; rfl)).trans (wk_facts [rowsF (.slice (some ⟨g2, 0, none⟩) t.length c2) t2] fun A w => facts_cons (fun hF => ?_) (by simp)))) ?_
  · refine rowsF_of (hF _ (List.mem_cons_self ..)) ?_
    rw [ht2]
    exact allF_set (hF (allF encR 2 vs t) (by simp)) (hF (slF encR 2 (.slice a4 r.length c4) r) (by simp))
  refine cjs_drawn [2, 5] (.op 0 <| .op 1 <| .op 2 <| .op 3 <| .op 4 <| .op 5 <| .op 6 <| .op 7 .z) [4] [] [] [] (by kernel_rfl) (by kernel_rfl) rfl (by simp) (by simp) ?_
  intro N
  refine ojs_call [] [] rfl rfl rfl rfl rfl rfl rfl (by simp) (fun _ => (by have := refMissing_c (some ⟨g2, 0, none⟩) c2 t2 (by omega); rw [hl2] at this; exact this)) (by simp) (.inl rfl) ?_
  rintro e cs F1 _ ⟨am, cm, rfl, rfl⟩
  refine ⟨⟨(by repeat' (first | exact trivial | refine ⟨Or.inl rfl, ?_⟩ | refine ⟨Or.inr ⟨rfl, Nat.le_of_ble_eq_true rfl, _, rfl, rfl, rfl⟩, ?_⟩)), by simp⟩, ?_⟩
  refine ⟨⟨(by repeat' (first | exact trivial | refine ⟨Or.inl rfl, ?_⟩ | refine ⟨Or.inr ⟨rfl, Nat.le_of_ble_eq_true rfl, _, rfl, rfl, rfl⟩, ?_⟩)), by simp⟩, ?_⟩
  refine endR_ok [rowsF (.slice (some ⟨g2, 0, none⟩) t.length c2) t2] rfl rfl ⟨rfl, rfl⟩ rfl (fun _ => ?_) (by simp)
  rw [haX]
  have hm0 : ((((missN 0 t2).length : Nat) : Int) == 0) = (missN 0 t2).isEmpty := by cases missN 0 t2 with | nil => rfl | cons => simp; omega
  refine ⟨some ⟨g2, 0, none⟩, c2, ?_, by rw [hl2]⟩
  rw [hl2, ← hm0]
  rfl

theorem check_c (n l s : Int) (a : Option Addr) (cap : Nat) (xs : List (Bool × Int)) (hlen : xs.length ≤ 1099511627776) :
    Cm Try.prog 18 [.agg #[.int .i64 n, .int .i64 l, .int .i64 s], .slice a xs.length cap] [] [slF encR 2 (.slice a xs.length cap) xs] (rets (.int .i64 (cond (repB n l s xs) 0 2))) := by
  refine cm_of (tab := tb) (ok := tbOk) [.g [.v (.int .i64 n), .v (.int .i64 l), .v (.int .i64 s)], .o (.v (.slice a xs.length cap))] Try.func18 Try.ntmps18 rfl rfl (fun _ _ => rfl) ?_
  intro w0 A0
  refine ojs_call [] [] rfl rfl rfl rfl rfl rfl rfl (by simp) (fun _ => right_c n l s a cap xs hlen) (by simp) (.inl rfl) ?_
  rintro e cs F1 _ ⟨rfl, rfl⟩
  cases h : repB n l s xs
  · exact endR_ok [] rfl rfl ⟨rfl, rfl⟩ rfl (fun _ => ⟨rfl, rfl⟩) (by simp)
  · exact endR_ok [] rfl rfl ⟨rfl, rfl⟩ rfl (fun _ => ⟨rfl, rfl⟩) (by simp)

theorem siteCheck_c (n l s : Int) : Cm Try.prog 33 [.agg #[.int .i64 n, .int .i64 l, .int .i64 s]] [] [] (rets (.int .i64 (cond (shapeB n l s) 0 2))) :=
  cm_old fun _ w _ _ => by
    have := siteCheck_any n l s w
    rw [show shapeE n l s = cond (shapeB n l s) 0 2 by unfold shapeE; cases shapeB n l s <;> rfl] at this
    exact this
theorem new_c (n l s : Int) : Cm Try.prog 12 [.agg #[.int .i64 n, .int .i64 l, .int .i64 s]] [] [] (fun e _ F1 => (shapeB n l s = false ∧ e = .returned (.tuple #[.agg #[.slice none 0 0], .int .i64 2]) ∧ F1 = []) ∨
    (shapeB n l s = true ∧ ∃ (m : Nat) (a : Option Addr), n = m ∧ e = .returned (.tuple #[.agg #[.slice a m m], .int .i64 0]) ∧ F1 = [rowsF (.slice a m m) (List.replicate m [])])) := by
  refine cm_of (tab := tb) (ok := tbOk) [.g [.v (.int .i64 n), .v (.int .i64 l), .v (.int .i64 s)]] Try.func12 Try.ntmps12 rfl rfl (fun _ _ => rfl) ?_
  intro w0 A0
  refine ojs_call [] [] rfl rfl rfl rfl rfl rfl rfl (by simp) (fun _ => siteCheck_c n l s) (by simp) (.inl rfl) ?_
  rintro e cs F1 _ ⟨rfl, rfl⟩
  cases hs : shapeB n l s
  · exact endR_ok [] rfl rfl ⟨rfl, rfl⟩ rfl (fun _ => .inl ⟨rfl, rfl, rfl⟩) (by simp)
  have hsh := shapeB_is hs
  obtain ⟨m, rfl⟩ : ∃ m : Nat, n = m := ⟨n.toNat, by omega⟩
  refine ojs_makeSlice (m := m) rfl rfl rfl rfl rfl rfl rfl rfl rfl (by omega) (by simp [maxLen]; omega) ?_
  intro a1
  have hmc : (madeCells ([7].map zdec).toArray (m * 1)).toList = List.replicate m (.slice none 0 0) := by
    rw [Nat.mul_one]; exact toList_madeCells_one _ m
  rw [hmc]
  refine endR_weak ((wk_seal (m := m) (j := 2) (enc := encV id) (xs := List.replicate m (.slice none 0 0)) (.inl rfl) (fun _ => rfl) (by simp) (by rw [flat_id]; rfl)).trans (wk_facts [rowsF (.slice a1 m m) (List.replicate m [])] fun A w => facts_cons (fun hF => ?_) (by simp))) ?_
  · refine rowsF_of (hF _ (List.mem_cons_self ..)) ⟨by simp, fun i u xs hu hx => ?_⟩
    have h1 := List.eq_of_mem_replicate (List.mem_of_getElem? hu)
    have h2 := List.eq_of_mem_replicate (List.mem_of_getElem? hx)
    subst h1 h2
    exact ⟨none, 0, rfl, ⟨Nat.le_refl _, fun _ => rfl⟩, .inl rfl⟩
  exact endR_ok [rowsF (.slice a1 m m) (List.replicate m [])] rfl rfl ⟨rfl, rfl⟩ rfl (fun _ => .inr ⟨rfl, m, a1, rfl, rfl, rfl⟩) (by simp)

theorem sameTally_c (a : Option Addr) (cap : Nat) (b : Option Addr) (cap2 : Nat) (t : List (List (Bool × Int))) (htl : t.length ≤ 1099511627776) (hlen : ∀ r ∈ t, r.length ≤ 1099511627776) :
    Cm Try.prog 19 [.agg #[.slice a t.length cap], .agg #[.slice b t.length cap2]] [] [rowsF (.slice a t.length cap) t, rowsF (.slice b t.length cap2) t] (rets (.bool true)) := by
  refine cm_of (tab := tb) (ok := tbOk) [.g [.v (.slice a t.length cap)], .g [.v (.slice b t.length cap2)]] Try.func19 Try.ntmps19 rfl rfl (fun _ _ => rfl) ?_
  intro w0 A0
  refine brB_split (fun h => by simp at h) (fun _ => ?_)
  refine cjs_loopP (γ := Nat) (fun k => k ≤ t.length) (fun k => [(5, .o (.v (.int .i64 k)))]) (fun _ => []) (fun _ => []) (fun k => t.length - k) 0 (Nat.zero_le _) (wk_patch (by repeat' (first | exact trivial | exact Or.inl rfl | refine Or.inr ⟨?_, ?_⟩ | rfl | refine ⟨?_, ?_⟩ | exact lt_all_v)) (by repeat' (first | exact trivial | exact Or.inl rfl | refine Or.inr ⟨?_, ?_⟩ | rfl | refine ⟨?_, ?_⟩ | exact lt_all_v)) (by simp) (by simp) D_nil) ?_
  intro k hk
  refine brB_dec (fun h => ?_) (fun h => ?_)
  · obtain ⟨x, hx⟩ := at_some (xs := t) (k := k) (by omega)
    refine cjs_ex _ (fun A w hF => rowsF_at hx A w (hF (rowsF (.slice a t.length cap) t) (by simp))) ?_
    rintro ⟨b1, o1, ra, rc⟩ (rfl : a = some ⟨b1, o1, none⟩)
    refine cjs_ex _ (fun A w hF => rowsF_at hx A w (hF (rowsF (.slice b t.length cap2) t) (by simp))) ?_
    rintro ⟨b2, o2, ra2, rc2⟩ (rfl : b = some ⟨b2, o2, none⟩)
    refine cjs_drawn [10] (.op 0 <| .op 1 <| .op 2 <| .op 3 <| .op 4 <| .op 5 <| .op 6 <| .op 7 <| .op 8 <| .op 9 <| .op 10 <| .op 11 .z) [0, 1] [] [] [celF b1 (o1 + k * 1) (.slice ra x.length rc), celF b2 (o2 + k * 1) (.slice ra2 x.length rc2)] (by kernel_rfl) (by kernel_rfl) rfl (by simp) (by simp) ?_
    intro N
    refine ⟨_, yd_index rfl (by omega) rfl rfl rfl rfl, ?_⟩
    refine ⟨_, yd_load1 (celF b1 (o1 + k * 1) (.slice ra x.length rc)) (by simp) celF_at rfl rfl rfl, ?_⟩
    refine ⟨_, yd_index rfl (by omega) rfl rfl rfl rfl, ?_⟩
    refine ⟨_, yd_load1 (celF b2 (o2 + k * 1) (.slice ra2 x.length rc2)) (by simp) celF_at rfl rfl rfl, ?_⟩
    refine ojs_call [] [] rfl rfl rfl rfl rfl rfl rfl (by simp) (fun _ => sameReport_c ra rc ra2 rc2 x (hlen x (List.mem_of_getElem? hx))) (by simp) (.inl rfl) ?_
    rintro e cs F1 _ ⟨rfl, rfl⟩
    refine ⟨⟨(by repeat' (first | exact trivial | refine ⟨Or.inl rfl, ?_⟩ | refine ⟨Or.inr ⟨rfl, Nat.le_of_ble_eq_true rfl, _, rfl, rfl, rfl⟩, ?_⟩)), by simp⟩, ?_⟩
    refine ojs_arith (z := ((k + 1 : Nat) : Int)) (by first | decide | (rw [wrap_in] <;> omega) | (dsimp only; rw [wrap_in] <;> omega)) rfl rfl rfl rfl ?_
    exact ⟨k + 1, (by first | omega | (dsimp only; omega)), (by first | omega | (dsimp only; omega)), (wk_patch (by repeat' (first | exact trivial | exact Or.inl rfl | refine Or.inr ⟨?_, ?_⟩ | rfl | refine ⟨?_, ?_⟩ | exact lt_all_v)) (by repeat' (first | exact trivial | exact Or.inl rfl | refine Or.inr ⟨?_, ?_⟩ | rfl | refine ⟨?_, ?_⟩ | exact lt_all_v)) (by simp) (by simp) D_nil)⟩
  · exact endR_ok [] rfl rfl ⟨rfl, rfl⟩ rfl (fun _ => ⟨rfl, rfl⟩) (by simp)

end Go.Proofs.Ytnkpmeplapkobaa
