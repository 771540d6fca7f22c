/- Reports, by the symbolic run: slices.DeleteFunc, report.Of. -/
import Derived.Test.YtnkpmeplapkobaaRpF
import Derived.Test.YtnkpmeplapkobaaLib5
namespace Go.Proofs.Ytnkpmeplapkobaa
open Go.RowKit Go.Shelf

theorem flat_part {α : Type} {enc : α → List Value} {k : Nat} (hk : ∀ x, (enc x).length = k) : ∀ {zs : List α} {j : Nat} {x : α}, zs[j]? = some x → ((zs.flatMap enc).drop (j * k)).take k = enc x
  | z :: zs, 0, x, h => by
    simp at h
    subst h
    rw [Nat.zero_mul, List.drop_zero, List.flatMap_cons, List.take_append_of_le_length (by rw [hk]; exact Nat.le_refl _), List.take_of_length_le (by rw [hk]; exact Nat.le_refl _)]
  | z :: zs, j + 1, x, h => by
    have := flat_part hk (zs := zs) (j := j) (x := x) (by simpa using h)
    rw [List.flatMap_cons, Nat.succ_mul, Nat.add_comm, List.drop_append, List.drop_of_length_le (l := enc z) (by rw [hk]; omega), List.nil_append, hk, Nat.add_sub_cancel_left]
    exact this
theorem flat_len {α : Type} {enc : α → List Value} {k : Nat} (hk : ∀ x, (enc x).length = k) (zs : List α) : (zs.flatMap enc).length = zs.length * k := by
  induction zs with
  | nil => simp
  | cons z zs ih => rw [List.flatMap_cons, List.length_append, ih, hk, List.length_cons, Nat.succ_mul, Nat.add_comm]
theorem flat_take {α : Type} {enc : α → List Value} {k : Nat} (hk : ∀ x, (enc x).length = k) : ∀ (zs : List α) (i : Nat), (zs.flatMap enc).take (i * k) = (zs.take i).flatMap enc
  | [], i => by simp
  | z :: zs, 0 => by simp
  | z :: zs, i + 1 => by
    rw [List.flatMap_cons, Nat.succ_mul, Nat.add_comm, List.take_append, List.take_of_length_le (by rw [hk]; omega), hk, Nat.add_sub_cancel_left, flat_take hk zs i]
    simp
theorem flat_set {α : Type} {enc : α → List Value} {k : Nat} (hk : ∀ x, (enc x).length = k) (y : α) : ∀ (zs : List α) (i : Nat), i < zs.length → (zs.flatMap enc).take (i * k) ++ enc y ++ (zs.flatMap enc).drop (i * k + (enc y).length) = (zs.set i y).flatMap enc
  | z :: zs, 0, h => by
    simp only [Nat.zero_mul, List.take_zero, List.nil_append, Nat.zero_add, List.set_cons_zero, List.flatMap_cons]
    rw [hk, List.drop_append_of_le_length (by rw [hk]; exact Nat.le_refl _), List.drop_of_length_le (by rw [hk]; exact Nat.le_refl _), List.nil_append]
  | z :: zs, i + 1, h => by
    have ih := flat_set hk y zs i (by simpa using h)
    rw [List.set_cons_succ, List.flatMap_cons, List.flatMap_cons, ← ih, Nat.succ_mul, Nat.add_comm (i * k) k, List.take_append, List.take_of_length_le (by rw [hk]; omega), hk, Nat.add_sub_cancel_left]
    rw [Nat.add_assoc, List.drop_append, List.drop_of_length_le (l := enc z) (by rw [hk]; omega), List.nil_append]
    simp only [hk, Nat.add_sub_cancel_left, List.append_assoc]

structure DL where
  j : Nat
  i : Nat
  zs : List Bk
def DL.p (q : Bk → Bool) (xs : List Bk) (d : DL) : Prop := d.i < d.j ∧ d.j ≤ xs.length ∧ d.zs.length = xs.length ∧ d.zs.take d.i = (xs.take d.j).filter q ∧ d.zs.drop d.j = xs.drop d.j

set_option maxHeartbeats 1000000 in
theorem delete_cw (xs : List Bk) (node : Int) (b : Nat) (hlen : xs.length ≤ 1000) :
    CoW Try.prog 42 (fun v => [v, .func (.func 44) #[] #[.pointer (some ⟨b, 0, none⟩)]]) [blkF b [.int .i64 node] 3] 44 3 xs.length (xs.flatMap encB) (xs.filter fun x => !notP node x).length ((xs.filter fun x => !notP node x).flatMap encB) := by
  refine cow_of (tab := tb) (ok := tbOk) (fun v => [.o (.v v), .o (.v (.func (.func 44) #[] #[.pointer (some ⟨b, 0, none⟩)]))]) Try.func42 Try.ntmps42 rfl (fun _ => rfl) (fun _ _ => rfl) ?_
  intro w0 A0 a cap
  refine ojs_callOwnR 0 rfl rfl rfl encB_len rfl rfl rfl rfl rfl (fun _ => indexFunc_c a cap xs node b hlen) (by simp) (by rintro e cs F1 ⟨_, rfl⟩; rfl) ?_
  rintro e cs ⟨rfl, _⟩
  cases hfi : xs.findIdx? (notP node) with
  | none =>
    have hI : idxP (notP node) xs = -1 := by unfold idxP; rw [hfi]
    rw [hI]
    have hall : (xs.filter fun x => !notP node x) = xs := by
      rw [List.filter_eq_self]
      intro x hx
      rw [List.findIdx?_eq_none_iff] at hfi
      rw [hfi x hx]; rfl
    rw [hall]
    exact endW_ok 0 rfl rfl rfl rfl
  | some i =>
    have hI : idxP (notP node) xs = (i : Int) := by unfold idxP; rw [hfi]
    rw [hI]
    obtain ⟨hil, hpi, hbef⟩ := List.findIdx?_eq_some_iff_getElem.1 hfi
    refine ojs_arith (z := ((i + 1 : Nat) : Int)) (by rw [wrap_in] <;> omega) rfl rfl rfl rfl ?_
    refine cjs_ownAddr 0 rfl (show 0 < xs.length by omega) ?_
    rintro g rfl
    refine cjs_ownCap 0 rfl fun hcap => ?_
    refine cjs_loop (γ := DL) (DL.p (fun x => !notP node x) xs) (fun d => ⟨[(0, .o (.v (.slice (some ⟨g, 0, none⟩) xs.length cap))), (1, .o (.v (.func (.func 44) #[] #[.pointer (some ⟨b, 0, none⟩)]))), (5, .o (.v (.int .i64 d.i))), (6, .o (.v (.int .i64 d.j)))],
      [(0, .own (.slice (some ⟨g, 0, none⟩) xs.length cap) 44 3 xs.length (d.zs.flatMap encB))], 1, [blkF b [.int .i64 node] 3], fun _ => []⟩) (fun d => xs.length - d.j) ⟨i + 1, i, xs⟩ ?_ (wk_same (by repeat' (first | exact trivial | rfl | refine ⟨?_, ?_⟩ | exact lt_all_v | exact (congrArg some idN_ren_lc.symm) | omega)) (by repeat' (first | exact trivial | rfl | refine ⟨?_, ?_⟩ | exact lt_all_v | exact (congrArg some idN_ren_lc.symm) | omega)) (by simp) (by simp)) ?_
    · refine ⟨by dsimp only; omega, by dsimp only; omega, rfl, ?_, rfl⟩
      have hx : xs[i]? = some xs[i] := List.getElem?_eq_getElem hil
      dsimp only
      rw [take_snoc hx, List.filter_append, List.filter_cons, hpi]
      simp only [Bool.not_true, Bool.false_eq_true, if_false, List.filter_nil, List.append_nil]
      symm
      rw [List.filter_eq_self]
      intro x hx
      obtain ⟨j, hj⟩ := List.mem_iff_getElem?.1 hx
      rw [List.getElem?_take] at hj
      split at hj
      · rename_i hji
        obtain ⟨h1, h2⟩ := List.getElem?_eq_some_iff.1 hj
        have := hbef j hji
        rw [h2] at this
        simpa using this
      · cases hj
    rintro ⟨j, i2, zs⟩ ⟨h1, h2, h3, h4, h5⟩
    simp only at h1 h2 h3 h4 h5
    refine brB_dec (fun hj => ?_) (fun hj => ?_)
    · have hj : j < xs.length := by dsimp only at hj; omega
      obtain ⟨x, hx⟩ := at_some (xs := xs) (k := j) hj
      have hz : zs[j]? = some x := by
        have e1 : (zs.drop j)[0]? = (xs.drop j)[0]? := by rw [h5]
        rw [List.getElem?_drop, List.getElem?_drop, Nat.add_zero, hx] at e1
        exact e1
      refine ojs_index rfl hj rfl rfl rfl rfl ?_
      refine ojs_loadW (u := .g [.v (.int .i64 x.1), .v (.int .i64 x.2.1), .v (.int .i64 x.2.2)]) 0 rfl rfl rfl rfl (by omega) ?_ ?_
      · have hp := flat_part encB_len hz
        have hl := flat_len encB_len zs
        simp only [partS, Nat.zero_add]
        rw [cond_eq_ite, if_pos (by rw [Nat.ble_eq, List.length_map, hl, h3]; omega), ← List.map_drop, ← List.map_take, hp]
        rfl
      have hd1 : zs.drop (j + 1) = xs.drop (j + 1) := by rw [← List.drop_drop, ← List.drop_drop, h5]
      have ht1 : xs.take (j + 1) = xs.take j ++ [x] := take_snoc hx
      refine ojs_call [] [] rfl rfl rfl rfl rfl rfl rfl (by simp) (fun _ => of1_c x node b) (by simp) (.inl rfl) ?_
      rintro e cs F1 _ ⟨rfl, rfl⟩
      cases hp : notP node x
      · refine ojs_index (i := i2) rfl (by omega) rfl rfl rfl rfl ?_
        refine ojs_storeW (xs := encB x) (cells' := (zs.set i2 x).flatMap encB) 0 rfl rfl rfl rfl rfl rfl rfl (by omega) rfl (by dsimp only; rw [flat_len encB_len, encB_len]; omega) (by simp [encB, Value.oneCell']) (by dsimp only; rw [Nat.zero_add]; exact flat_set encB_len x zs i2 (by omega)) ?_
        refine ojs_arith (z := ((i2 + 1 : Nat) : Int)) (by dsimp only; rw [wrap_in] <;> omega) rfl rfl rfl rfl ?_
        refine ojs_arith (z := ((j + 1 : Nat) : Int)) (by dsimp only; rw [wrap_in] <;> omega) rfl rfl rfl rfl ?_
        refine ⟨⟨j + 1, i2 + 1, zs.set i2 x⟩, ⟨by dsimp only; omega, by dsimp only; omega, by simp [h3], ?_, ?_⟩, by dsimp only; omega, wk_same (by repeat' (first | exact trivial | rfl | refine ⟨?_, ?_⟩ | exact lt_all_v | exact (congrArg some idN_ren_lc.symm) | omega)) (by repeat' (first | exact trivial | rfl | refine ⟨?_, ?_⟩ | exact lt_all_v | exact (congrArg some idN_ren_lc.symm) | omega)) (by simp) (by simp)⟩
        · dsimp only
          rw [ht1, List.filter_append, ← h4, List.filter_cons, hp]
          simp only [Bool.not_false, if_true, List.filter_nil]
          rw [take_snoc (show (zs.set i2 x)[i2]? = some x by rw [List.getElem?_set_self (by omega)]), List.take_set_of_le (Nat.le_refl _)]
        · dsimp only
          rw [List.drop_set_of_lt (by omega), hd1]
      · refine ojs_arith (z := ((j + 1 : Nat) : Int)) (by dsimp only; rw [wrap_in] <;> omega) rfl rfl rfl rfl ?_
        refine ⟨⟨j + 1, i2, zs⟩, ⟨by dsimp only; omega, by dsimp only; omega, h3, ?_, hd1⟩, by dsimp only; omega, wk_same (by repeat' (first | exact trivial | rfl | refine ⟨?_, ?_⟩ | exact lt_all_v | exact (congrArg some idN_ren_lc.symm) | omega)) (by repeat' (first | exact trivial | rfl | refine ⟨?_, ?_⟩ | exact lt_all_v | exact (congrArg some idN_ren_lc.symm) | omega)) (by simp) (by simp)⟩
        dsimp only
        rw [ht1, List.filter_append, ← h4, List.filter_cons, hp]
        simp
    · obtain rfl : j = xs.length := by dsimp only at hj; omega
      rw [List.take_length] at h4
      have hol : (xs.filter fun x => !notP node x).length = i2 := by rw [← h4, List.length_take]; omega
      refine ojs_sliceL (i := i2) rfl (by omega) rfl rfl rfl rfl ?_
      refine ojs_clearW 0 rfl rfl rfl rfl rfl rfl rfl rfl rfl rfl (by decide) (by omega) (fun hc => ?_) (by omega) ?_
      · by_cases hmi : xs.length = i2
        · exact .inl hmi
        · right
          rw [if_neg (by omega), Option.map_some, add_none]
          simp
      intro cells' hcl htk
      refine ojs_sliceH (i := i2) rfl ?_ rfl rfl rfl rfl ?_
      · omega
      rw [hol]
      refine endW_weak (wk_shrink (j := 0) (m' := i2) rfl (by omega) (by omega)) ?_
      rw [htk, flat_take encB_len, h4]
      exact endW_ok 0 rfl rfl rfl rfl

theorem reportOf_c (a : Option Addr) (cap : Nat) (xs : List Bk) (node : Int) (hlen : xs.length ≤ 1000) :
    Cm Try.prog 24 [.slice a xs.length cap, .int .i64 node] [] [slF encB 3 (.slice a xs.length cap) xs] (fun e _ F1 => ∃ a' c', e = .returned (.slice a' (xs.filter fun x => !notP node x).length c') ∧ F1 = [slF encB 3 (.slice a' (xs.filter fun x => !notP node x).length c') (xs.filter fun x => !notP node x)]) := by
  refine cm_of (tab := tb) (ok := tbOk) [.o (.v (.slice a xs.length cap)), .o (.v (.int .i64 node))] Try.func24 Try.ntmps24 rfl rfl (fun _ _ => rfl) ?_
  intro w0 A0
  refine ojs_callOwn rfl rfl rfl rfl rfl (fun _ => rfl) rfl rfl (cloneB_co a cap xs (by omega)) (by simp) ?_
  intro a1 c1
  refine ojs_callOwnW (args := fun ρ v => [v, .func (.func 44) #[] #[.pointer (some ⟨ρ 0, 0, none⟩)]]) 1 [0] rfl rfl rfl rfl rfl rfl rfl (fun _ => rfl) rfl rfl (fun ρ => delete_cw xs node (ρ 0) hlen) (by simp) ?_
  intro a2 c2
  refine endR_weak (wk_seal (j := 1) (enc := encB) (xs := xs.filter fun x => !notP node x) (.inl rfl) encB_len rfl rfl) ?_
  refine endR_ok [slF encB 3 (.slice a2 (xs.filter fun x => !notP node x).length c2) (xs.filter fun x => !notP node x)] rfl rfl ⟨rfl, rfl⟩ rfl (fun _ => ?_) (by simp)
  exact ⟨_, _, rfl, rfl⟩

end Go.Proofs.Ytnkpmeplapkobaa
