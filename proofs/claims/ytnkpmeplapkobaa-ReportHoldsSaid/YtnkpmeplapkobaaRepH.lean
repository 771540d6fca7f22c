/- Reports: whole. -/
import Derived.Test.YtnkpmeplapkobaaRepG
import Derived.Test.YtnkpmeplapkobaaLib2
namespace Go.Proofs.Ytnkpmeplapkobaa
open Go.RowKit Go.Shelf
attribute [local go_sem] Oper.semAt_some

theorem missX_len {n l s : Int} {t : List (List (Bool × Int))} : (missX n l s t).length ≤ t.length := by
  unfold missX
  split
  · exact missN_len
  · simp

set_option maxRecDepth 100000 in
set_option maxHeartbeats 2000000 in
theorem whole_any (n l s : Int) (w : World) (v : Value) (t : List (List (Bool × Int))) (hv : Rows2 w v t) (hlen : ∀ r ∈ t, r.length ≤ 1099511627776) (htl : t.length ≤ 1099511627776) :
    Calls Try.prog 38 #[.agg #[v, .int .i64 n, .int .i64 l, .int .i64 s]] w fun e w' => e = .returned (.bool (missX n l s t).isEmpty) ∧ Below w.heap.size w w' := by
  have HV := Lib.hid hv
  obtain ⟨a, cap, rfl⟩ := hv.shape
  have KM := Lib.hid (fun (W : World) (h : Rows2 W (.slice a t.length cap) t) => missingSeq_any n l s W _ t h hlen)
  clear hv
  refine calls_of_marks 8 Try.func38 rfl ?_
  simp only [Try.ntmps38, List.size_toArray, List.length_cons, List.length_nil, Nat.reduceAdd, Nat.reduceSub, Array.replicate_succ, Array.replicate_zero, List.push_toArray, List.append_toArray, List.nil_append, List.cons_append]
  go_wp2_with fail
  obtain ⟨V, hV⟩ : ∃ V, V = (w.alloc (.cells #[.slice a t.length cap, .int .i64 n, .int .i64 l, .int .i64 s] 74)).alloc (.cells #[.bool false] 4) := ⟨_, rfl⟩
  rw [← hV]
  have E : Below w.heap.size w V := by rw [hV]; (repeat (first | (with_reducible exact Below.refl _ _) | (with_reducible assumption) | (with_reducible refine below_drewN ?_ _) | (with_reducible refine Below.drew ?_) | ((with_reducible refine Below.alloc ?_ ?_ _); rotate_left; focus (first | (with_reducible exact Nat.le_refl _) | omega | (simp; done) | (simp; omega))) | ((with_reducible refine Below.setCell (p := ⟨_, _, _⟩) ?_ ?_ _); rotate_left; focus (first | (with_reducible exact Nat.le_refl _) | omega | (simp; done) | (simp; omega)))))
  have q1 : V.heap[w.heap.size + 1]? = some (.cells #[.bool false] 4 (0, 0)) := by rw [hV]; exact (alloc2s w _ _).2
  clear hV
  refine (KM.out V (HV.out.below E)).mono ?_
  rintro e W1 ⟨B, sw, rfl, hc, hS, hB1⟩
  have E1 := Lib.hid (E.trans (hB1.mono E.size))
  have Q1 := Lib.hid (blk_keep q1 hB1)
  have HC := Lib.hid hc
  have HSS := Lib.hid hS
  have l1 := lt_of_block Q1.out
  have lB := World.block_lt_of_cell? _ _ hc
  dsimp only at lB
  clear hc hS hB1 E q1
  go_wp2_with fail
  refine (wpIn_wide (n := 8)).1 (wpIn_rangeQ (n := 8) rfl (enters_of Try.func32 (by kernel_rfl) rfl) (missing_seq 7 (by decide) B sw (missX n l s t) (Nat.le_trans missX_len htl) W1 HC.out HSS.out) (Below.refl _ _) (by intro _; rfl)
    (fun k W => k = 0 ∧ Below W1.heap.size W1 W)
    (fun c k W => c = .ret ∧ Rnd (w.heap.size + 1) (w.heap.size + 1 + 1) W1 W ∧ W.heap[w.heap.size + 1]? = some (.cells #[.bool false] 4 (0, 0)))
    (fun k A B ⟨h1, h2⟩ hAB => ⟨h1, h2.trans hAB⟩)
    (fun c k A B ⟨h1, h2, h3⟩ hAB => ⟨h1, h2.below_of hAB, (hAB.block _ l1).trans h3⟩)
    ⟨rfl, Below.refl _ _⟩ ?round ?done ?stop)
  case round =>
    rintro lp k x W K hx hzW ⟨rfl, hB⟩ hK
    clear hB
    gi_wp2
    refine hK _ _ (Below.refl _ _) ?_
    intro l' W2 hkept hz2 ⟨_, hB2⟩
    have Q2 := Lib.hid ((hB2.block _ l1).trans Q1.out)
    have p2 := cells1 Q2.out
    have B2 := Lib.hid hB2
    clear hK hkept hB2
    gi_wp2
    exact ⟨(Rnd.refl _ _ _).setCell (p := ⟨_, _, _⟩) (.inl (by dsimp only; omega)) _, rfl, (Rnd.of_below (B2.out)).setCell (p := ⟨_, _, _⟩) (.inl (by dsimp only; omega)) _, Boxed.set (.bool false) (show Boxed W2 (w.heap.size + 1) 4 _ from Q2.out)⟩
  case done =>
    rintro W ⟨h0, hB⟩ hD hzD
    have Q2 := Lib.hid ((hB.block _ l1).trans Q1.out)
    have p2 := cells1 Q2.out
    have DD := Lib.hid hD
    have EB := Lib.hid (E1.out.trans (hB.mono E1.out.size))
    have hX := Lib.hid (show (missX n l s t).isEmpty = true by cases h : missX n l s t with | nil => rfl | cons x y => rw [h] at h0; simp at h0)
    clear hB hD h0
    go_wp2
    have q3 : (W.setCell ⟨w.heap.size + 1, 0, none⟩ (.bool true)).heap[w.heap.size + 1]? = some (.cells #[.bool true] 4 (0, 0)) := Boxed.set (.bool true) (show Boxed W (w.heap.size + 1) 4 _ from Q2.out)
    have k2 : (W.setCell ⟨w.heap.size + 1, 0, none⟩ (.bool true)).heap[W1.heap.size]? = some (.deferred (some [])) := blk_set_other _ DD.out (by dsimp only; omega)
    have c5 := (cells1 ((World.putObj_heap_other (o := .deferred none) (show w.heap.size + 1 ≠ W1.heap.size by omega)).trans q3)).1
    refine ⟨by simp, .inl ⟨_, _, rfl, run_takeDeferred k2, ?_⟩⟩
    refine ⟨.bool true, ?_, ret_bool hX.out.symm, (EB.out.setCell (p := ⟨_, _, _⟩) (by dsimp only; omega) _).trans (below_putObj _ _ (by omega))⟩
    simp [results, Try.results38, go_sem, c5]
  case stop =>
    rintro c k W hk0 hk1 ⟨rfl, hR, hq⟩ hD hzD
    have hX := Lib.hid (show (missX n l s t).isEmpty = false by cases h : missX n l s t with | nil => rw [h] at hk1; simp at hk1; omega | cons x y => rfl)
    have c5 := (cells1 ((World.putObj_heap_other (o := .deferred none) (show w.heap.size + 1 ≠ W1.heap.size by omega)).trans hq)).1
    have EB := Lib.hid (below_rnd E1.out hR (by omega))
    have DD := Lib.hid hD
    clear hR hq hD hk1
    refine wpIn_wide.2 ?_
    go_wp2
    refine ⟨by simp, .inl ⟨_, _, rfl, run_takeDeferred DD.out, ?_⟩⟩
    refine ⟨.bool false, ?_, ret_bool hX.out.symm, EB.out.trans (below_putObj _ _ (by omega))⟩
    simp [results, Try.results38, go_sem, c5]

end Go.Proofs.Ytnkpmeplapkobaa
