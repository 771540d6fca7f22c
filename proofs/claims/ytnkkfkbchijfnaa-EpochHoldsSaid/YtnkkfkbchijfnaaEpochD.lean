/- Epochs: the latest of none. -/
import Derived.Test.YtnkkfkbchijfnaaEpochC
namespace Go.Proofs.Ytnkkfkbchijfnaa
open Go.RowKit Go.Shelf
attribute [local go_sem] Oper.semAt_some
theorem wpIn_scope_wide {P : Program} {n : Nat} {Q : Exit → Act → World → Prop} {a : Act} {w : World} {c : Code} (h : c.wpIn Fence.wide n P (Exit.noGoto Q) a w) : (Code.scope c).wpIn Fence.wide n P Q a w :=
  wpIn_wide.2 (wp_scope_straight (wpIn_wide.1 h))
theorem hro0 : Fence.wide.round = none := rfl

set_option maxHeartbeats 400000 in
theorem cloneE_none (w : World) :
    Calls Try.prog 32 #[.slice none 0 0] w fun e w' => e = .returned (.slice none 0 0) ∧ w = w' := by
  have heq := fun w' => Lib.run_eql_slice_nil (P := Try.prog) w' 59 25 none 0 0 0 0 Try.underlying59
  go_enter Try.func32, Try.ntmps32
  go_wp2
  go_ret
  exact ⟨rfl, rfl⟩

set_option maxHeartbeats 400000 in
theorem rising_none (w : World) :
    Calls Try.prog 27 #[.slice none 0 0] w fun e w' => e = .returned (.func (.func 33) #[] #[.pointer (some ⟨w.heap.size, 0, none⟩)]) ∧ w' = w.alloc (.cells #[.slice none 0 0] 59) := by
  go_enter Try.func27, Try.ntmps27
  go_wp2_with (go_at_call 32; refine (cloneE_none _).mono ?_; rintro e w' ⟨rfl, rfl⟩)
  go_ret
  exact ⟨rfl, rfl⟩

set_option maxRecDepth 100000 in
set_option maxHeartbeats 2000000 in
theorem risingSeq_none (n : Nat) (Bs : Nat) (w0 w : World) (hBs : Bs < w.heap.size) (hc : w.cell? ⟨Bs, 0, none⟩ = some (.slice none 0 0)) :
    SeqStopsK Fence.wide n Try.prog 33 #[.pointer (some ⟨Bs, 0, none⟩)] (fun _ : Empty => #[undef, undef]) (Below w0.heap.size) (fun ys => ys = []) (fun _ => False) 0 w := fun l J Jx W hW hJ _ hY h0 => by
  have hcW : W.cell? ⟨Bs, 0, none⟩ = some (.slice none 0 0) := (hW.cell (p := ⟨Bs, 0, none⟩) hBs).trans hc
  have HJ := Lib.hid (hJ [] W (W.alloc (.cells #[.int .i64 0, .int .i64 0] 25)) none h0 (World.grownBy_alloc _ _ none) (fun r e => by cases e))
  clear hc hW hBs hY h0 hJ
  have hbl := World.block_lt_of_cell? _ _ hcW
  dsimp only at hbl
  refine callsIn_of_wp Try.func33 rfl trivial ?_ rfl
  simp only [Try.ntmps33, List.size_toArray, List.length_cons, List.length_nil, Nat.reduceAdd, Nat.reduceSub, Array.replicate_succ, Array.replicate_zero, List.push_toArray, List.append_toArray, List.nil_append, List.cons_append]
  refine wpIn_scope_wide ?_
  gi_wp2
  refine wpIn_label ?_
  gi_wp2
  refine wpIn_loop_rounds 1 ?_
  rw [roundsIn_succ]
  gi_wp2
  rw [Exit.noGoto_normal]
  go_end0
  exact ⟨⟨_, rfl⟩, .inl ⟨_, rfl, HJ.out⟩⟩

set_option maxRecDepth 100000 in
set_option maxHeartbeats 2000000 in
theorem latest_in (n : Nat) (hn : 4 ≤ n) (w : World) :
    CallsIn Fence.wide n Try.prog 21 #[.slice none 0 0] w fun e W' => e = .returned (.agg #[.int .i64 0, .int .i64 0]) ∧ Below w.heap.size w W' := by
  have h1 : 1 ≤ n := by omega
  have hwide : ∀ f, Fence.wide.fn f := fun _ => trivial
  refine callsIn_of_wp_marks Try.func21 rfl trivial ?_ rfl
  simp only [Try.ntmps21, List.size_toArray, List.length_cons, List.length_nil, Nat.reduceAdd, Nat.reduceSub, Array.replicate_succ, Array.replicate_zero, List.push_toArray, List.append_toArray, List.nil_append, List.cons_append]
  gi_wp2_with (gi_at_call 27; refine (callsIn_wide.2 (rising_none _)).mono ?_; rintro e w' ⟨rfl, rfl⟩)
  have b2 := Boxed.new w 25 (.int .i64 0)
  have hB0 : Below w.heap.size w (((w.alloc (.cells #[.int .i64 0, .int .i64 0] 25)).alloc (.cells #[.func (.func 26) #[] #[]] 63)).alloc (.cells #[.slice none 0 0] 59)) := by (repeat (first | (with_reducible exact Below.refl _ _) | (with_reducible assumption) | (with_reducible refine below_drewN ?_ _) | (with_reducible refine Below.drew ?_) | ((with_reducible refine Below.alloc ?_ ?_ _); rotate_left; focus (first | (with_reducible exact Nat.le_refl _) | omega | (simp; done) | (simp; omega))) | ((with_reducible refine Below.setCell (p := ⟨_, _, _⟩) ?_ ?_ _); rotate_left; focus (first | (with_reducible exact Nat.le_refl _) | omega | (simp; done) | (simp; omega)))))
  refine wpIn_rangeFunc_ownG hro0 h1 (gf := 33) (lb := #[.pointer (some ⟨w.heap.size + 1 + 1, 0, none⟩)]) rfl trivial (enters_of Try.func33 (by kernel_rfl) rfl)
    (risingSeq_none (n - 1) (w.heap.size + 1 + 1) w _ (by simp) (by go_simp)) belowK_t (belowK_b (by simp; omega)) (Below.refl _ _) (fun x => nomatch x)
    (fun pre W => (W.cell? ⟨w.heap.size, 0, none⟩ = some (.int .i64 0) ∧ W.cell? ⟨w.heap.size, 1, none⟩ = some (.int .i64 0) ∧ W.frozen? ⟨w.heap.size, 0, none⟩ = false ∧ W.frozen? ⟨w.heap.size, 1, none⟩ = false) ∧ Below w.heap.size w W)
    (fun c pre W => False)
    (OwnFrom.and (Own.from (fun s A B row hs hg hr => ⟨cell_kept hs.1 hg hr, cell_kept hs.2.1 hg hr, (frozen_kept hs.1 hg hr).trans hs.2.2.1, (frozen_kept hs.2.1 hg hr).trans hs.2.2.2⟩) _) (ownFrom_below (Nat.le_refl _) (by simp; omega)))
    (fun c => ownFrom_pure _ _)
    ⟨⟨by go_simp, by go_simp, by go_simp, by go_simp⟩, hB0⟩
    (fun x => nomatch x) (fun l x => nomatch x) (fun l pre x => nomatch x) ?done ?stop
  case done =>
    rintro D ys W hD rfl ⟨⟨hc0, hc1, hf0, hf1⟩, hB⟩ hK
    gi_wp2
    have hK1 := (KeepsOthers.setCell W ⟨w.heap.size, 0, none⟩ (.int .i64 0)).same D _ hK rfl
    have hK' := (KeepsOthers.setCell (W.setCell ⟨w.heap.size, 0, none⟩ (.int .i64 0)) ⟨w.heap.size, 1, none⟩ (.int .i64 0)).same D _ hK1 rfl
    have hB2 : Below w.heap.size w ((W.setCell ⟨w.heap.size, 0, none⟩ (.int .i64 0)).setCell ⟨w.heap.size, 1, none⟩ (.int .i64 0)) := (hB.setCell (p := ⟨w.heap.size, 0, none⟩) (Nat.le_refl _) _).setCell (p := ⟨w.heap.size, 1, none⟩) (Nat.le_refl _) _
    have hx0 : ((W.setCell ⟨w.heap.size, 0, none⟩ (.int .i64 0)).setCell ⟨w.heap.size, 1, none⟩ (.int .i64 0)).cell? ⟨w.heap.size, 0, none⟩ = some (.int .i64 0) := by go_simp
    have hx1 : ((W.setCell ⟨w.heap.size, 0, none⟩ (.int .i64 0)).setCell ⟨w.heap.size, 1, none⟩ (.int .i64 0)).cell? ⟨w.heap.size, 1, none⟩ = some (.int .i64 0) := by go_simp
    have hy0 := cell_kept hx0 (grownBy_putObj' _ D (.deferred none)) (fun r e => by cases e; exact ⟨_, hK', rfl⟩)
    have hy1 := cell_kept hx1 (grownBy_putObj' _ D (.deferred none)) (fun r e => by cases e; exact ⟨_, hK', rfl⟩)
    refine ⟨by simp, .inl ⟨_, _, rfl, run_takeDeferred hK', ?_⟩⟩
    refine ⟨.agg #[.int .i64 0, .int .i64 0], ?_, rfl, hB2.trans (belowK_b (w := w) (Nat.le_refl _) _ D _ _ (by simp at hD; omega) hK' rfl rfl)⟩
    simp [results, Try.results21, go_sem, hy0, hy1]
  case stop =>
    rintro D c pre W hD hsp
    exact hsp.elim

theorem latest_none (w : World) :
    Calls Try.prog 21 #[.slice none 0 0] w fun e W' => e = .returned (.agg #[.int .i64 0, .int .i64 0]) ∧ Below w.heap.size w W' :=
  callsIn_wide.1 (latest_in 4 (Nat.le_refl _) w)

end Go.Proofs.Ytnkkfkbchijfnaa
