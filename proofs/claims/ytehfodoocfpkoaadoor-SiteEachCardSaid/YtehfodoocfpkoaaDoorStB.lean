/- Sites, by the symbolic run: sites as numbers, one by one. -/
import Derived.Test.YtehfodoocfpkoaaDoorStA
namespace Go.Proofs.YtehfodoocfpkoaaDoor
open Go.RowKit Go.Shelf

theorem blk_cell {b o : Nat} {cs : List Value} {t : TypeId} {v : Value} (hv : cs[o]? = some v) (A : Nat → Prop) (w : World) (h : (blkF b cs t).h A w) : w.cell? ⟨b, o, none⟩ = some v := (cell_of_list (o := o) h.2).trans hv
theorem blk_cells {b : Nat} {cs : List Value} {t : TypeId} (A : Nat → Prop) (w : World) (h : (blkF b cs t).h A w) : ∀ (j : Nat) (u : Value), cs[j]? = some u → w.cell? ⟨b, 0 + j, none⟩ = some u := fun j u hu => by rw [Nat.zero_add]; exact blk_cell hu A w h
theorem many_c (n l s : Int) (hs : shapeB n l s = true) : Cm Tryd.prog 31 [.agg #[.int .i64 n, .int .i64 l, .int .i64 s]] [] [] (rets (.int .i64 (n * s))) := by
  refine cm_of (tab := tb) (ok := tbOk) [.g [.v (.int .i64 n), .v (.int .i64 l), .v (.int .i64 s)]] Tryd.func31 Tryd.ntmps31 rfl rfl (fun _ _ => rfl) ?_
  intro w0 A0
  have h := shapeB_is hs
  have h1 : 0 ≤ n * s := Int.mul_nonneg (by omega) (by omega)
  have h2 : n * s ≤ 64 * 4 := Int.mul_le_mul (by omega) (by omega) (by omega) (by omega)
  refine ojs_arith (z := n * s) (by rw [wrap_in] <;> omega) rfl rfl rfl rfl ?_
  exact endR_ok [] rfl rfl ⟨rfl, rfl⟩ rfl (fun _ => ⟨rfl, rfl⟩) (by simp)
theorem refSlot_c (n l s node slot : Int) : Cm Tryd.prog 16 [.agg #[.int .i64 n, .int .i64 l, .int .i64 s], .int .i64 node, .int .i64 slot] [] [] (rets (.bool (decide (0 ≤ node) && decide (node < n) && decide (0 ≤ slot) && decide (slot < s)))) := by
  refine cm_of (tab := tb) (ok := tbOk) [.g [.v (.int .i64 n), .v (.int .i64 l), .v (.int .i64 s)], .o (.v (.int .i64 node)), .o (.v (.int .i64 slot))] Tryd.func16 Tryd.ntmps16 rfl rfl (fun _ _ => rfl) ?_
  intro w0 A0
  have fin : ∀ b : Bool, b = (decide (0 ≤ node) && decide (node < n) && decide (0 ≤ slot) && decide (slot < s)) → rets (.bool (decide (0 ≤ node) && decide (node < n) && decide (0 ≤ slot) && decide (slot < s))) (.returned (.bool b)) [] [] := fun b hb => ⟨ret_bool hb, rfl⟩
  refine brB_dec (fun h1 => ?_) (fun h1 => ?_)
  rotate_left
  · exact endR_ok [] rfl rfl ⟨rfl, rfl⟩ rfl (fun _ => fin _ (by simp [h1])) (by simp)
  refine brB_dec (fun h2 => ?_) (fun h2 => ?_)
  rotate_left
  · exact endR_ok [] rfl rfl ⟨rfl, rfl⟩ rfl (fun _ => fin _ (by simp [h2])) (by simp)
  refine brB_dec (fun h3 => ?_) (fun h3 => ?_)
  · exact endR_ok [] rfl rfl ⟨rfl, rfl⟩ rfl (fun _ => fin _ (by simp [h1, h2, h3])) (by simp)
  · exact endR_ok [] rfl rfl ⟨rfl, rfl⟩ rfl (fun _ => fin _ (by simp [h3])) (by simp)
theorem refShape_c (n l s : Int) : Cm Tryd.prog 12 [.agg #[.int .i64 n, .int .i64 l, .int .i64 s]] [] [] (rets (.bool (shapeB n l s))) := by
  refine cm_of (tab := tb) (ok := tbOk) [.g [.v (.int .i64 n), .v (.int .i64 l), .v (.int .i64 s)]] Tryd.func12 Tryd.ntmps12 rfl rfl (fun _ _ => rfl) ?_
  intro w0 A0
  repeat' (refine brB_dec (fun _ => ?_) (fun _ => ?_))
  all_goals
    refine endR_ok [] rfl rfl ⟨rfl, rfl⟩ rfl (fun _ => ⟨ret_bool ?_, rfl⟩) (by simp)
    unfold shapeB
    first | (simp; done) | (simp; omega) | (rw [Bool.eq_iff_iff]; simp; omega)
/-- A slot that is asked for. -/
theorem site1_c (n l s node : Int) (hs : shapeB n l s = true) (b c : Nat) : Cm Tryd.prog 27 [.pointer (some ⟨b, 0, none⟩), .pointer (some ⟨c, 0, none⟩)] [] [blkF b [.int .i64 node] 3, blkF c [.int .i64 n, .int .i64 l, .int .i64 s] 23] (rets (.bool (inB node 0 (n - 1)))) := by
  refine cm_of (tab := tb) (ok := tbOk) [.o (.v (.pointer (some ⟨b, 0, none⟩))), .o (.v (.pointer (some ⟨c, 0, none⟩)))] Tryd.func27 Tryd.ntmps27 rfl rfl (fun _ _ => rfl) ?_
  intro w0 A0
  have h := shapeB_is hs
  refine ojs_load1 (blkF b [.int .i64 node] 3) (by simp) (blk_cell rfl) rfl rfl rfl ?_
  refine ojs_load1 (blkF c [.int .i64 n, .int .i64 l, .int .i64 s] 23) (by simp) (blk_cell rfl) rfl rfl rfl ?_
  refine ojs_arith (z := n - 1) (by rw [wrap_in] <;> omega) rfl rfl rfl rfl ?_
  refine ojs_call [] [] rfl rfl rfl rfl rfl rfl rfl (by simp) (fun _ => within_c node 0 (n - 1)) (by simp) (.inl rfl) ?_
  rintro e cs F1 _ ⟨rfl, rfl⟩
  exact endR_ok [] rfl rfl ⟨rfl, rfl⟩ rfl (fun _ => ⟨rfl, rfl⟩) (by simp)
theorem site2_c (n l s slot : Int) (hs : shapeB n l s = true) (b c : Nat) : Cm Tryd.prog 29 [.pointer (some ⟨b, 0, none⟩), .pointer (some ⟨c, 0, none⟩)] [] [blkF b [.int .i64 slot] 3, blkF c [.int .i64 n, .int .i64 l, .int .i64 s] 23] (rets (.bool (inB slot 0 (s - 1)))) := by
  refine cm_of (tab := tb) (ok := tbOk) [.o (.v (.pointer (some ⟨b, 0, none⟩))), .o (.v (.pointer (some ⟨c, 0, none⟩)))] Tryd.func29 Tryd.ntmps29 rfl rfl (fun _ _ => rfl) ?_
  intro w0 A0
  have h := shapeB_is hs
  refine ojs_load1 (blkF b [.int .i64 slot] 3) (by simp) (blk_cell rfl) rfl rfl rfl ?_
  refine ojs_load1 (blkF c [.int .i64 n, .int .i64 l, .int .i64 s] 23) (by simp) (blk_cell rfl) rfl rfl rfl ?_
  refine ojs_arith (z := s - 1) (by rw [wrap_in] <;> omega) rfl rfl rfl rfl ?_
  refine ojs_call [] [] rfl rfl rfl rfl rfl rfl rfl (by simp) (fun _ => within_c slot 0 (s - 1)) (by simp) (.inl rfl) ?_
  rintro e cs F1 _ ⟨rfl, rfl⟩
  exact endR_ok [] rfl rfl ⟨rfl, rfl⟩ rfl (fun _ => ⟨rfl, rfl⟩) (by simp)
def siteX (n l s node slot : Int) : Int × Int := bif shapeB n l s then (bif (inB node 0 (n - 1) && inB slot 0 (s - 1)) then (node * s + slot, 0) else (0, 4)) else (0, 2)
theorem site_c (n l s node slot : Int) : Cm Tryd.prog 10 [.agg #[.int .i64 n, .int .i64 l, .int .i64 s], .int .i64 node, .int .i64 slot] [] [] (rets (.tuple #[.int .i64 (siteX n l s node slot).1, .int .i64 (siteX n l s node slot).2])) := by
  refine cm_of (tab := tb) (ok := tbOk) [.g [.v (.int .i64 n), .v (.int .i64 l), .v (.int .i64 s)], .o (.v (.int .i64 node)), .o (.v (.int .i64 slot))] Tryd.func10 Tryd.ntmps10 rfl rfl (fun _ _ => rfl) ?_
  intro w0 A0
  have ct : ∀ ρ : Nm, Cm Tryd.prog 26 [.agg #[.int .i64 n, .int .i64 l, .int .i64 s], .slice (some ⟨ρ 3, 0, none⟩) 2 2] []
      [blkF (ρ 3) [.func (.func 27) #[] #[.pointer (some ⟨ρ 1, 0, none⟩), .pointer (some ⟨ρ 0, 0, none⟩)], .func (.func 29) #[] #[.pointer (some ⟨ρ 2, 0, none⟩), .pointer (some ⟨ρ 0, 0, none⟩)]] 34, blkF (ρ 0) [.int .i64 n, .int .i64 l, .int .i64 s] 23, blkF (ρ 1) [.int .i64 node] 3, blkF (ρ 2) [.int .i64 slot] 3]
      (rets (.int .i64 (askE (shapeB n l s) (inB node 0 (n - 1) && inB slot 0 (s - 1))))) := fun ρ => by
    have := (asked_c (n := n) (l := l) (s := s) (a := some ⟨ρ 3, 0, none⟩) (cap := 2) (F0 := [blkF (ρ 0) [.int .i64 n, .int .i64 l, .int .i64 s] 23, blkF (ρ 1) [.int .i64 node] 3, blkF (ρ 2) [.int .i64 slot] 3])
      (xs := [(.func (.func 27) #[] #[.pointer (some ⟨ρ 1, 0, none⟩), .pointer (some ⟨ρ 0, 0, none⟩)], inB node 0 (n - 1)), (.func (.func 29) #[] #[.pointer (some ⟨ρ 2, 0, none⟩), .pointer (some ⟨ρ 0, 0, none⟩)], inB slot 0 (s - 1))]) (by simp) (fun hs x hx => by
        simp only [List.mem_cons, List.not_mem_nil, or_false] at hx
        rcases hx with rfl | rfl
        · exact ⟨_, [.pointer (some ⟨ρ 1, 0, none⟩), .pointer (some ⟨ρ 0, 0, none⟩)], rfl, rfl, (site1_c n l s node hs _ _).facts fun A w h f hf => h f (by simp at hf ⊢; rcases hf with rfl | rfl <;> simp)⟩
        · exact ⟨_, [.pointer (some ⟨ρ 2, 0, none⟩), .pointer (some ⟨ρ 0, 0, none⟩)], rfl, rfl, (site2_c n l s slot hs _ _).facts fun A w h f hf => h f (by simp at hf ⊢; rcases hf with rfl | rfl <;> simp)⟩))
    simp only [List.all_cons, List.all_nil, Bool.and_true, List.length_cons, List.length_nil, Nat.zero_add, Nat.reduceAdd] at this
    exact this.facts fun A w => facts_cons (fun h => slF_blk (by rfl) (h _ (List.mem_cons_self ..))) (by simp)
  refine ojs_call [3, 0, 1, 2] [] rfl rfl rfl rfl rfl rfl rfl (by simp) (fun ρ => ct ρ) (by simp) (.inr (by rintro e cs F1 ⟨_, rfl⟩; rfl)) ?_
  rintro e cs F1 _ ⟨rfl, rfl⟩
  have hX : siteX n l s node slot = bif shapeB n l s then (bif (inB node 0 (n - 1) && inB slot 0 (s - 1)) then (node * s + slot, 0) else (0, 4)) else (0, 2) := rfl
  rw [hX]
  cases hs : shapeB n l s
  · exact endR_ok [] rfl rfl ⟨rfl, rfl⟩ rfl (fun _ => ⟨rfl, rfl⟩) (by simp)
  cases hok : (inB node 0 (n - 1) && inB slot 0 (s - 1))
  · exact endR_ok [] rfl rfl ⟨rfl, rfl⟩ rfl (fun _ => ⟨rfl, rfl⟩) (by simp)
  have h := shapeB_is hs
  unfold inB at hok
  simp only [Bool.and_eq_true, decide_eq_true_eq] at hok
  have h1 : 0 ≤ node * s := Int.mul_nonneg (by omega) (by omega)
  have h2 : node * s ≤ 64 * 4 := Int.mul_le_mul (by omega) (by omega) (by omega) (by omega)
  refine ojs_arith (z := node * s) (by rw [wrap_in] <;> omega) rfl rfl rfl rfl ?_
  refine ojs_arith (z := node * s + slot) (by rw [wrap_in] <;> omega) rfl rfl rfl rfl ?_
  exact endR_ok [] rfl rfl ⟨rfl, rfl⟩ rfl (fun _ => ⟨rfl, rfl⟩) (by simp)
theorem of1_c (n l s z : Int) (hs : shapeB n l s = true) (b c : Nat) : Cm Tryd.prog 30 [.pointer (some ⟨b, 0, none⟩), .pointer (some ⟨c, 0, none⟩)] [] [blkF b [.int .i64 z] 3, blkF c [.int .i64 n, .int .i64 l, .int .i64 s] 23] (rets (.bool (inB z 0 (n * s - 1)))) := by
  refine cm_of (tab := tb) (ok := tbOk) [.o (.v (.pointer (some ⟨b, 0, none⟩))), .o (.v (.pointer (some ⟨c, 0, none⟩)))] Tryd.func30 Tryd.ntmps30 rfl rfl (fun _ _ => rfl) ?_
  intro w0 A0
  have h := shapeB_is hs
  have h1 : 0 ≤ n * s := Int.mul_nonneg (by omega) (by omega)
  have h2 : n * s ≤ 64 * 4 := Int.mul_le_mul (by omega) (by omega) (by omega) (by omega)
  refine cjs_drawn [3, 5] (.op 0 <| .op 1 <| .op 2 <| .op 3 <| .op 4 <| .op 5 <| .op 6 .z) [] [] [] [blkF b [.int .i64 z] 3, blkF c [.int .i64 n, .int .i64 l, .int .i64 s] 23] (by kernel_rfl) (by kernel_rfl) rfl (by simp) (by simp) ?_
  intro N
  refine ⟨_, yd_load1 (blkF b [.int .i64 z] 3) (by simp) (blk_cell rfl) rfl rfl rfl, ?_⟩
  refine ⟨_, yd_loadN (vs := [.int .i64 n, .int .i64 l, .int .i64 s]) (blkF c [.int .i64 n, .int .i64 l, .int .i64 s] 23) (by simp) blk_cells rfl rfl rfl, ?_⟩
  refine ⟨_, yd_build rfl rfl rfl rfl, ?_⟩
  refine ojs_call [] [] rfl rfl rfl rfl rfl rfl rfl (by simp) (fun _ => many_c n l s hs) (by simp) (.inl rfl) ?_
  rintro e cs F1 _ ⟨rfl, rfl⟩
  refine ⟨⟨(by repeat' (first | exact trivial | refine ⟨Or.inl rfl, ?_⟩ | refine ⟨Or.inr ⟨rfl, Nat.le_of_ble_eq_true rfl, _, rfl, rfl, rfl⟩, ?_⟩)), by simp⟩, ?_⟩
  refine ⟨_, yd_arith (z := n * s - 1) (by rw [wrap_in] <;> omega) rfl rfl rfl rfl, ?_⟩
  refine ojs_call [] [] rfl rfl rfl rfl rfl rfl rfl (by simp) (fun _ => within_c z 0 (n * s - 1)) (by simp) (.inl rfl) ?_
  rintro e cs F1 _ ⟨rfl, rfl⟩
  refine ⟨⟨(by repeat' (first | exact trivial | refine ⟨Or.inl rfl, ?_⟩ | refine ⟨Or.inr ⟨rfl, Nat.le_of_ble_eq_true rfl, _, rfl, rfl, rfl⟩, ?_⟩)), by simp⟩, ?_⟩
  exact endR_ok [] rfl rfl ⟨rfl, rfl⟩ rfl (fun _ => ⟨rfl, rfl⟩) (by simp)
def ofX (n l s z : Int) : Int × Int × Int := bif shapeB n l s then (bif inB z 0 (n * s - 1) then (z.tdiv s, z.tmod s, 0) else (0, 0, 4)) else (0, 0, 2)
theorem of_c (n l s z : Int) : Cm Tryd.prog 11 [.agg #[.int .i64 n, .int .i64 l, .int .i64 s], .int .i64 z] [] [] (rets (.tuple #[.int .i64 (ofX n l s z).1, .int .i64 (ofX n l s z).2.1, .int .i64 (ofX n l s z).2.2])) := by
  refine cm_of (tab := tb) (ok := tbOk) [.g [.v (.int .i64 n), .v (.int .i64 l), .v (.int .i64 s)], .o (.v (.int .i64 z))] Tryd.func11 Tryd.ntmps11 rfl rfl (fun _ _ => rfl) ?_
  intro w0 A0
  have ct : ∀ ρ : Nm, Cm Tryd.prog 26 [.agg #[.int .i64 n, .int .i64 l, .int .i64 s], .slice (some ⟨ρ 2, 0, none⟩) 1 1] []
      [blkF (ρ 2) [.func (.func 30) #[] #[.pointer (some ⟨ρ 1, 0, none⟩), .pointer (some ⟨ρ 0, 0, none⟩)]] 34, blkF (ρ 0) [.int .i64 n, .int .i64 l, .int .i64 s] 23, blkF (ρ 1) [.int .i64 z] 3]
      (rets (.int .i64 (askE (shapeB n l s) (inB z 0 (n * s - 1))))) := fun ρ => by
    have := (asked_c (n := n) (l := l) (s := s) (a := some ⟨ρ 2, 0, none⟩) (cap := 1) (F0 := [blkF (ρ 0) [.int .i64 n, .int .i64 l, .int .i64 s] 23, blkF (ρ 1) [.int .i64 z] 3])
      (xs := [(.func (.func 30) #[] #[.pointer (some ⟨ρ 1, 0, none⟩), .pointer (some ⟨ρ 0, 0, none⟩)], inB z 0 (n * s - 1))]) (by simp) (fun hs x hx => by
        cases List.mem_singleton.1 hx
        exact ⟨_, [.pointer (some ⟨ρ 1, 0, none⟩), .pointer (some ⟨ρ 0, 0, none⟩)], rfl, rfl, (of1_c n l s z hs _ _).facts fun A w h f hf => h f (by simp at hf ⊢; rcases hf with rfl | rfl <;> simp)⟩))
    simp only [List.all_cons, List.all_nil, Bool.and_true, List.length_cons, List.length_nil, Nat.zero_add] at this
    exact this.facts fun A w => facts_cons (fun h => slF_blk (by rfl) (h _ (List.mem_cons_self ..))) (by simp)
  refine ojs_call [2, 0, 1] [] rfl rfl rfl rfl rfl rfl rfl (by simp) (fun ρ => ct ρ) (by simp) (.inr (by rintro e cs F1 ⟨_, rfl⟩; rfl)) ?_
  rintro e cs F1 _ ⟨rfl, rfl⟩
  have hX : ofX n l s z = bif shapeB n l s then (bif inB z 0 (n * s - 1) then (z.tdiv s, z.tmod s, 0) else (0, 0, 4)) else (0, 0, 2) := rfl
  rw [hX]
  cases hs : shapeB n l s
  · exact endR_ok [] rfl rfl ⟨rfl, rfl⟩ rfl (fun _ => ⟨rfl, rfl⟩) (by simp)
  cases hok : inB z 0 (n * s - 1)
  · exact endR_ok [] rfl rfl ⟨rfl, rfl⟩ rfl (fun _ => ⟨rfl, rfl⟩) (by simp)
  have h := shapeB_is hs
  unfold inB at hok
  simp only [Bool.and_eq_true, decide_eq_true_eq] at hok
  obtain ⟨z', rfl⟩ : ∃ z' : Nat, z = z' := ⟨z.toNat, by omega⟩
  obtain ⟨s', rfl⟩ : ∃ s' : Nat, s = s' := ⟨s.toNat, by omega⟩
  have h2 : n * (s' : Int) ≤ 64 * 4 := Int.mul_le_mul (by omega) (by omega) (by omega) (by omega)
  have hd : (z' : Int).tdiv (s' : Int) = ((z' / s' : Nat) : Int) := by rw [Int.ofNat_tdiv]
  have hm : (z' : Int).tmod (s' : Int) = ((z' % s' : Nat) : Int) := by rw [Int.ofNat_tmod]
  have hd2 : z' / s' ≤ z' := Nat.div_le_self _ _
  have hm2 : z' % s' ≤ z' := Nat.mod_le _ _
  obtain ⟨q1, hq1⟩ : ∃ q, q = z' / s' := ⟨_, rfl⟩
  obtain ⟨q2, hq2⟩ : ∃ q, q = z' % s' := ⟨_, rfl⟩
  rw [← hq1] at hd hd2
  rw [← hq2] at hm hm2
  refine cjs_drawn [] (.op 0 <| .op 1 <| .op 2 <| .op 3 <| .op 4 <| .op 5 <| .op 6 <| .op 7 <| .op 8 <| .op 9 <| .op 10 .z) [0, 1] [] [] [] (by kernel_rfl) (by kernel_rfl) rfl (by simp) (by simp) ?_
  intro N
  refine ⟨_, yd_div (r := (z' : Int).tdiv s') (by omega) (by rw [hd]; omega) (by rw [hd]; omega) rfl rfl rfl rfl, ?_⟩
  refine ⟨_, yd_div (r := (z' : Int).tmod s') (by omega) (by rw [hm]; omega) (by rw [hm]; omega) rfl rfl rfl rfl, ?_⟩
  exact endR_ok [] rfl rfl ⟨rfl, rfl⟩ rfl (fun _ => ⟨rfl, rfl⟩) (by simp)

end Go.Proofs.YtehfodoocfpkoaaDoor
