/- Reports: Decide that gives up. -/
import Derived.Test.YtnkpmeplapkobaaRepI
namespace Go.Proofs.Ytnkpmeplapkobaa
open Go.RowKit Go.Shelf

/-- What Decide leaves: a list, an error. -/
def DecPost (w : World) (x : List Bk × Int) (e : Ending) (w' : World) : Prop :=
  ∃ sv, e = .returned (.tuple #[sv, .int .i64 x.2]) ∧ Sl encB 3 w' sv x.1 ∧ Below w.heap.size w w'

set_option maxHeartbeats 400000 in
theorem clearD_any (X : Nat) (w : World) (v : Value) (h : w.heap[X]? = some (.cells #[v] 38 (0, 0))) : Calls Try.prog 39 #[.pointer (some ⟨X, 0, none⟩)] w fun e w' => e = .returned (.tuple #[]) ∧ w' = w.setCell ⟨X, 0, none⟩ (.slice none 0 0) := by
  have p := cells1 h
  go_enter Try.func39, Try.ntmps39
  go_wp2
  go_end0
  exact ⟨rfl, rfl⟩

/-- What is given up with in Decide is told, and the list is none. -/
theorem up_tail (w W : World) (Z : Nat) (m : Int) (v v3 : Value) (hZ : w.heap.size ≤ Z) (hB : Below w.heap.size w W) (Q2 : W.heap[Z + 1 + 1]? = some (.cells #[v] 38 (0, 0))) (Q3 : W.heap[Z + 1 + 1 + 1]? = some (.cells #[v3] 45 (0, 0))) :
    ((W.setCell ⟨Z + 1 + 1, 0, none⟩ (.slice none 0 0)).setCell ⟨Z + 1 + 1 + 1, 0, none⟩ (.int .i64 m)).cell? ⟨Z + 1 + 1, 0, none⟩ = some (.slice none 0 0) ∧
    ((W.setCell ⟨Z + 1 + 1, 0, none⟩ (.slice none 0 0)).setCell ⟨Z + 1 + 1 + 1, 0, none⟩ (.int .i64 m)).cell? ⟨Z + 1 + 1 + 1, 0, none⟩ = some (.int .i64 m) ∧
    Below w.heap.size w ((W.setCell ⟨Z + 1 + 1, 0, none⟩ (.slice none 0 0)).setCell ⟨Z + 1 + 1 + 1, 0, none⟩ (.int .i64 m)) := by
  have h2 : (W.setCell ⟨Z + 1 + 1, 0, none⟩ (.slice none 0 0)).heap[Z + 1 + 1]? = some (.cells #[.slice none 0 0] 38 (0, 0)) := by have := blk_set (i := 0) (.slice none 0 0) Q2; simpa using this
  have h3 : (W.setCell ⟨Z + 1 + 1, 0, none⟩ (.slice none 0 0)).heap[Z + 1 + 1 + 1]? = some (.cells #[v3] 45 (0, 0)) := blk_set_other _ Q3 (by dsimp only; omega)
  have h4 : ((W.setCell ⟨Z + 1 + 1, 0, none⟩ (.slice none 0 0)).setCell ⟨Z + 1 + 1 + 1, 0, none⟩ (.int .i64 m)).heap[Z + 1 + 1 + 1]? = some (.cells #[.int .i64 m] 45 (0, 0)) := by have := blk_set (i := 0) (.int .i64 m) h3; simpa using this
  exact ⟨(cells1 (blk_set_other _ h2 (by dsimp only; omega))).1, (cells1 h4).1, (hB.setCell (p := ⟨_, _, _⟩) (by dsimp only; omega) _).setCell (p := ⟨_, _, _⟩) (by dsimp only; omega) _⟩

set_option maxRecDepth 100000 in
set_option maxHeartbeats 2000000 in
theorem dec_bad (n l s : Int) (w : World) (v : Value) (t : List (List (Bool × Int))) (hv : Rows2 w v t) (hlen : ∀ r ∈ t, r.length ≤ 1099511627776) (ht : tallyB n l s t = false) :
    Calls Try.prog 15 #[.agg #[.int .i64 n, .int .i64 l, .int .i64 s], .agg #[v]] w (DecPost w ([], 2)) := by
  obtain ⟨a, cap, rfl⟩ := hv.shape
  have KO := Lib.hid (fun (W : World) (h : Rows2 W (.slice a t.length cap) t) => of_any n l s W _ t h hlen)
  have HV := Lib.hid hv
  have HT := Lib.hid ht
  clear hv ht hlen
  go_enter_defers Try.func15, Try.ntmps15
  go_wp2_with fail
  obtain ⟨q0, q1, q2, q3⟩ := alloc4s w (.cells #[.int .i64 n, .int .i64 l, .int .i64 s] 23) (.cells #[.slice a t.length cap] 26) (.cells #[.slice none 0 0] 38) (.cells #[.int .i64 0] 45)
  have E := below_alloc4s w (.cells #[.int .i64 n, .int .i64 l, .int .i64 s] 23) (.cells #[.slice a t.length cap] 26) (.cells #[.slice none 0 0] 38) (.cells #[.int .i64 0] 45)
  refine (KO.out _ (HV.out.below E)).mono ?_
  rintro e W1 ⟨⟨h, _⟩ | ⟨_, rfl⟩, hB⟩
  · rw [HT.out] at h; cases h
  · refine leaves_cons (f := 28) (args := #[.pointer (some ⟨w.heap.size + 1 + 1 + 1, 0, none⟩), .func (.func 39) #[] #[.pointer (some ⟨w.heap.size + 1 + 1, 0, none⟩)]]) (by simp) (by simp [go_sem]) ?_
    have Q3 := blk_keep q3 hB
    have Q2 := blk_keep q2 hB
    refine (caught_up (w.heap.size + 1 + 1 + 1) 39 _ 2 [] W1 (fun w' => w' = W1.setCell ⟨w.heap.size + 1 + 1, 0, none⟩ (.slice none 0 0)) (enters_of Try.func39 (by kernel_rfl) rfl) (clearD_any _ W1 _ Q2) (fun w' h => by rw [h]; exact ⟨_, blk_set_other _ Q3 (by dsimp only; omega)⟩)).mono ?_
    rintro e u' w'' ⟨rfl, rfl, w1, rfl, rfl⟩
    obtain ⟨c2, c3, B⟩ := up_tail w W1 w.heap.size 2 _ _ (Nat.le_refl _) (E.trans (hB.mono E.size)) Q2 Q3
    have key : DecPost w ([], 2) (.returned (.tuple #[.slice none 0 0, .int .i64 2])) _ := ⟨_, rfl, Sl.nil _ _ _, B⟩
    simpa [Leaves, settle, results, Try.results15, go_sem, c2, c3] using key

set_option maxRecDepth 100000 in
set_option maxHeartbeats 2000000 in
theorem dec_few (n l s : Int) (w : World) (v : Value) (t : List (List (Bool × Int))) (hv : Rows2 w v t) (hlen : ∀ r ∈ t, r.length ≤ 1099511627776) (ht : tallyB n l s t = true) (hm : (missN 0 t).isEmpty = false) :
    Calls Try.prog 15 #[.agg #[.int .i64 n, .int .i64 l, .int .i64 s], .agg #[v]] w (DecPost w ([], 271)) := by
  obtain ⟨a, cap, rfl⟩ := hv.shape
  have KO := Lib.hid (fun (W : World) (h : Rows2 W (.slice a t.length cap) t) => of_any n l s W _ t h hlen)
  have htl := (tally_bd ht).1
  have KW := Lib.hid (fun (W : World) (h : Rows2 W (.slice a t.length cap) t) => whole_any n l s W _ t h hlen (by omega))
  have HM := Lib.hid (show (missX n l s t).isEmpty = false by unfold missX; rw [if_pos ht]; exact hm)
  have HV := Lib.hid hv
  have HT := Lib.hid ht
  clear hv ht hlen hm htl
  go_enter_defers Try.func15, Try.ntmps15
  go_wp2_with fail
  obtain ⟨q0, q1, q2, q3⟩ := alloc4s w (.cells #[.int .i64 n, .int .i64 l, .int .i64 s] 23) (.cells #[.slice a t.length cap] 26) (.cells #[.slice none 0 0] 38) (.cells #[.int .i64 0] 45)
  have E := below_alloc4s w (.cells #[.int .i64 n, .int .i64 l, .int .i64 s] 23) (.cells #[.slice a t.length cap] 26) (.cells #[.slice none 0 0] 38) (.cells #[.int .i64 0] 45)
  refine (KO.out _ (HV.out.below E)).mono ?_
  rintro e W1 ⟨⟨_, rfl⟩ | ⟨h, _⟩, hB⟩
  rotate_left
  · rw [HT.out] at h; cases h
  have E1 := Lib.hid (E.trans (hB.mono E.size))
  have Q2 := Lib.hid (blk_keep q2 hB)
  have Q3 := Lib.hid (blk_keep q3 hB)
  clear q0 q1 q2 q3 hB E
  go_wp2_with fail
  obtain ⟨V, hV⟩ : ∃ V, V = W1.alloc (.cells #[.slice a t.length cap, .int .i64 n, .int .i64 l, .int .i64 s] 74) := ⟨_, rfl⟩
  rw [← hV]
  have hg : Below W1.heap.size W1 V := by rw [hV]; (repeat (first | (with_reducible exact Below.refl _ _) | (with_reducible assumption) | (with_reducible refine below_drewN ?_ _) | (with_reducible refine Below.drew ?_) | ((with_reducible refine Below.alloc ?_ ?_ _); rotate_left; focus (first | (with_reducible exact Nat.le_refl _) | omega | (simp; done) | (simp; omega))) | ((with_reducible refine Below.setCell (p := ⟨_, _, _⟩) ?_ ?_ _); rotate_left; focus (first | (with_reducible exact Nat.le_refl _) | omega | (simp; done) | (simp; omega)))))
  have E2 := Lib.hid (E1.out.trans (hg.mono E1.out.size))
  have Q2 := Lib.hid (blk_keep Q2.out hg)
  have Q3 := Lib.hid (blk_keep Q3.out hg)
  clear hg hV
  refine (KW.out V (HV.out.below E2.out)).mono ?_
  rintro e W3 ⟨rfl, hB3⟩
  rw [HM.out]
  have E3 := Lib.hid (E2.out.trans (hB3.mono E2.out.size))
  have Q2 := blk_keep Q2.out hB3
  have Q3 := blk_keep Q3.out hB3
  clear hB3
  go_wp2_with fail
  refine (must_no 271 W3).mono ?_
  rintro e W4 ⟨rfl, rfl⟩
  refine leaves_cons (f := 28) (args := #[.pointer (some ⟨w.heap.size + 1 + 1 + 1, 0, none⟩), .func (.func 39) #[] #[.pointer (some ⟨w.heap.size + 1 + 1, 0, none⟩)]]) (by simp) (by simp [go_sem]) ?_
  refine (caught_up (w.heap.size + 1 + 1 + 1) 39 _ 271 [] W3 (fun w' => w' = W3.setCell ⟨w.heap.size + 1 + 1, 0, none⟩ (.slice none 0 0)) (enters_of Try.func39 (by kernel_rfl) rfl) (clearD_any _ W3 _ Q2) (fun w' h => by rw [h]; exact ⟨_, blk_set_other _ Q3 (by dsimp only; omega)⟩)).mono ?_
  rintro e u' w'' ⟨rfl, rfl, w1, rfl, rfl⟩
  obtain ⟨c2, c3, B⟩ := up_tail w W3 w.heap.size 271 _ _ (Nat.le_refl _) E3.out Q2 Q3
  have key : DecPost w ([], 271) (.returned (.tuple #[.slice none 0 0, .int .i64 271])) _ := ⟨_, rfl, Sl.nil _ _ _, B⟩
  simpa [Leaves, settle, results, Try.results15, go_sem, c2, c3] using key

end Go.Proofs.Ytnkpmeplapkobaa
