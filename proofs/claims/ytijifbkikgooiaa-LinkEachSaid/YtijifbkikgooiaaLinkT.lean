/- Link: ref.Take, where the stamp may be. -/
import Derived.Test.YtijifbkikgooiaaLinkN
import Derived.Test.YtijifbkikgooiaaLinkO
namespace Go.Proofs.Ytijifbkikgooiaa
open Go.RowKit Go.Shelf

set_option maxRecDepth 100000 in
set_option maxHeartbeats 2000000 in
theorem refTake_no (w : World) (v : Value) (l : Lk) (k : Nat) (x1 x2 y1 y2 : Int) (ho : l.out.length ≤ 1099511627776) (hi : l.inn.length ≤ 1099511627776) (hl : LkR w v l) (hr : rightB l = true) (hm : mayB (x1, x2) = true)
    (hx : l.inn[k]? = some (y1, y2)) (hcmp : ordS (x1, x2) (y1, y2) ≤ 0) :
    Calls Try.prog 25 #[v, .int .i64 k, .agg #[.int .i64 x1, .int .i64 x2]] w (TakePost w (l, false, 0)) := by
  have hl' := hl
  have hlt : k < l.inn.length := (List.getElem?_eq_some_iff.1 hx).1
  obtain ⟨s1, s2, rfl, h1, h2⟩ := hl
  obtain ⟨a1, c1, rfl⟩ := h1.shape
  obtain ⟨ab, aoff, c2, rfl, hab, hac⟩ := h2.atP hlt
  have HA := Lib.hid (hac k _ hx)
  have HX := Lib.hid hx
  have HR := Lib.hid hr
  clear hr hx h1 h2 hac
  go_enter Try.func25, Try.ntmps25
  go_wp2_with fail
  obtain ⟨W, hW⟩ : ∃ W', W' = ((w.alloc (.cells #[.int .i64 l.inc, .slice a1 l.out.length c1, .slice (some ⟨ab, aoff, none⟩) l.inn.length c2] 25)).alloc (.cells #[.int .i64 x1, .int .i64 x2] 27)).alloc (.cells #[.int .i64 0, .slice none 0 0, .slice none 0 0] 25) := ⟨_, rfl⟩
  rw [← hW]
  have hB : Below w.heap.size w W := by rw [hW]; (repeat (first | (with_reducible exact Below.refl _ _) | (with_reducible assumption) | (with_reducible refine below_drewN ?_ _) | (with_reducible refine Below.drew ?_) | ((with_reducible refine Below.alloc ?_ ?_ _); rotate_left; focus (first | (with_reducible exact Nat.le_refl _) | omega | (simp; done) | (simp; omega))) | ((with_reducible refine Below.setCell (p := ⟨_, _, _⟩) ?_ ?_ _); rotate_left; focus (first | (with_reducible exact Nat.le_refl _) | omega | (simp; done) | (simp; omega)))))
  have hsz : w.heap.size + 2 < W.heap.size := by rw [hW]; simp
  have q0 : W.heap[w.heap.size]? = some (.cells #[.int .i64 l.inc, .slice a1 l.out.length c1, .slice (some ⟨ab, aoff, none⟩) l.inn.length c2] 25 (0, 0)) := by rw [hW]; exact blk_old _ (blk_old _ (blk_new _ _))
  have q1 : W.heap[w.heap.size + 1]? = some (.cells #[.int .i64 x1, .int .i64 x2] 27 (0, 0)) := by rw [hW]; have := blk_new (w.alloc (.cells #[.int .i64 l.inc, .slice a1 l.out.length c1, .slice (some ⟨ab, aoff, none⟩) l.inn.length c2] 25)) (.cells #[.int .i64 x1, .int .i64 x2] 27); rw [World.size_alloc] at this; exact blk_old _ this
  have q2 : W.heap[w.heap.size + 1 + 1]? = some (.cells #[.int .i64 0, .slice none 0 0, .slice none 0 0] 25 (0, 0)) := by rw [hW]; have := blk_new ((w.alloc (.cells #[.int .i64 l.inc, .slice a1 l.out.length c1, .slice (some ⟨ab, aoff, none⟩) l.inn.length c2] 25)).alloc (.cells #[.int .i64 x1, .int .i64 x2] 27)) (.cells #[.int .i64 0, .slice none 0 0, .slice none 0 0] 25); rw [World.size_alloc, World.size_alloc] at this; exact this
  clear hW
  refine (refRight_any _ _ l ho hi (hl'.below hB)).mono ?_
  rintro e W1 ⟨rfl, hB1⟩
  rw [HR.out]
  have r0 := cells3 (blk_below q0 hB1 (by omega))
  have r1 := cells2 (blk_below q1 hB1 (by omega))
  have hD := hB.trans (hB1.mono (Nat.le_of_lt (by omega)))
  have hs1 := hB1.size
  go_wp2_with fail
  refine (stamp_any _ _ _).mono ?_
  rintro e W2 ⟨rfl, hB2⟩
  have r0 := cells3 (blk_below (blk_below q0 hB1 (by omega)) hB2 (by omega))
  have r1 := cells2 (blk_below (blk_below q1 hB1 (by omega)) hB2 (by omega))
  have r2 := cells3 (blk_below (blk_below q2 hB1 (by omega)) hB2 (by omega))
  have hE := hD.trans (hB2.mono (by omega))
  rw [hm]
  have q0 := blk_below (blk_below q0 hB1 (by omega)) hB2 (by omega)
  have q1 := blk_below (blk_below q1 hB1 (by omega)) hB2 (by omega)
  have q2 := blk_below (blk_below q2 hB1 (by omega)) hB2 (by omega)
  have hs2 := hB2.size
  have i0 : (0 : Int) ≤ (k : Int) := by omega
  clear r2
  go_wp2_with fail
  refine (copy_any _ _ l ho hi (hl'.below hE)).mono ?_
  rintro e W3 ⟨r, rfl, ⟨s1, s2, rfl, o1, o2⟩, hB3⟩
  have q0 := blk_below q0 hB3 (by omega)
  have q1 := blk_below q1 hB3 (by omega)
  have q2 := blk_below q2 hB3 (by omega)
  obtain ⟨a3, c3, rfl⟩ := owns_shape o1
  obtain ⟨g, cap, rfl, hg1, hg2⟩ := o2.form (by omega)
  have gc := flatP_at HX.out
  have gc1 : W3.cell? ⟨g, k * 2, none⟩ = some (.int .i64 y1) := by rw [o2.cellAt _ (by omega)]; exact gc.1
  have gc2 : W3.cell? ⟨g, k * 2 + 1, none⟩ = some (.int .i64 y2) := by rw [o2.cellAt _ (by omega)]; exact gc.2
  have O1 := Lib.hid o1
  have O2 := Lib.hid o2
  have hs3 := hB3.size
  clear o1 o2 hl' gc r0 r1
  go_wp2
  obtain ⟨W4, hW4⟩ : ∃ W', W' = (W3.alloc (.cells #[.int .i64 l.inc, .slice a3 l.out.length c3, .slice (some ⟨g, 0, none⟩) l.inn.length cap] 25)) := ⟨_, rfl⟩
  rw [← hW4]
  have hs4 : W3.heap.size < W4.heap.size := by rw [hW4]; simp
  have hF : Below w.heap.size w W4 := by rw [hW4]; exact (hE.trans (hB3.mono hE.size)).alloc (by first | omega | (simp; done) | (simp; omega) | (dsimp only; omega)) _
  have qZ : W4.heap[W3.heap.size]? = some (.cells #[.int .i64 l.inc, .slice a3 l.out.length c3, .slice (some ⟨g, 0, none⟩) l.inn.length cap] 25 (0, 0)) := by rw [hW4]; exact blk_new _ _
  have q1 : W4.heap[w.heap.size + 1]? = some (.cells #[.int .i64 x1, .int .i64 x2] 27 (0, 0)) := by rw [hW4]; exact blk_old _ q1
  have q2 : W4.heap[w.heap.size + 1 + 1]? = some (.cells #[.int .i64 0, .slice none 0 0, .slice none 0 0] 25 (0, 0)) := by rw [hW4]; exact blk_old _ q2
  have O1 : Hid (W4.ownsRow (w.heap.size + 3) 2 1 (.slice a3 l.out.length c3) l.out.length (l.out.flatMap encI)) := by rw [hW4]; exact (owns_base O1.out (by omega)).alloc _
  have O2 : Hid (W4.ownsRow (w.heap.size + 3) 27 2 (.slice (some ⟨g, 0, none⟩) l.inn.length cap) l.inn.length (l.inn.flatMap encP)) := by rw [hW4]; exact (owns_base O2.out (by omega)).alloc _
  have q0 : W4.heap[w.heap.size]? = some (.cells #[.int .i64 l.inc, .slice a1 l.out.length c1, .slice (some ⟨ab, aoff, none⟩) l.inn.length c2] 25 (0, 0)) := by rw [hW4]; exact blk_old _ q0
  have gc1 := Lib.hid (show W4.cell? ⟨g, k * 2, none⟩ = some (.int .i64 y1) by rw [hW4, World.cell?_alloc_past _ _ _ hg2]; exact gc1)
  have gc2 := Lib.hid (show W4.cell? ⟨g, k * 2 + 1, none⟩ = some (.int .i64 y2) by rw [hW4, World.cell?_alloc_past _ _ _ hg2]; exact gc2)
  have hab4 : ab < W4.heap.size := Nat.lt_of_lt_of_le hab hF.size
  have ac1 := (hF.cell (p := ⟨ab, aoff + k * 2, none⟩) hab).trans HA.out.1
  have ac2 := (hF.cell (p := ⟨ab, aoff + k * 2 + 1, none⟩) hab).trans HA.out.2
  obtain ⟨Z, hZ⟩ : ∃ Z, Z = W3.heap.size := ⟨_, rfl⟩
  rw [← hZ] at qZ ⊢
  have hZ1 : w.heap.size + 2 < Z := by omega
  have hgl : w.heap.size + 2 < g := by omega
  have hgZ : g < Z := by omega
  have hZ2 : Z < W4.heap.size := by omega
  have hZ3 : g < W4.heap.size := by omega
  have p0 := cells3 q0
  have p1 := cells2 q1
  clear hW4 hZ hB hB1 hB2 hB3 hD hE hs1 hs2 hs3 hs4
  go_region_held3 (fun w' => w'.cell? ⟨w.heap.size + 1, 0, none⟩ = some (.int .i64 x1) ∧ w'.cell? ⟨w.heap.size + 1, 1, none⟩ = some (.int .i64 x2) ∧ w'.cell? ⟨w.heap.size, 2, none⟩ = some (.slice (some ⟨ab, aoff, none⟩) l.inn.length c2) ∧ w'.cell? ⟨ab, aoff + k * 2, none⟩ = some (.int .i64 y1) ∧ w'.cell? ⟨ab, aoff + k * 2 + 1, none⟩ = some (.int .i64 y2)) (go_keep)
    (first
      | (go_at_call 15
         refine (refOrder_any _ _ _ _ _).mono ?_
         rintro e W5 ⟨rfl, hB5'⟩
         have hB5 := below_undrew hB5'
         clear hB5'
         have b1 := cells2 (blk_below q1 hB5 (Nat.lt_trans (by omega) hZ2))
         have b2 := cells3 (blk_below q2 hB5 (Nat.lt_trans (by omega) hZ2))
         have bZ := cells3 (blk_below qZ hB5 hZ2)
         have b0 := cells3 (blk_below q0 hB5 (Nat.lt_trans (by omega) hZ2))
         have bg1 := (hB5.cell (p := ⟨ab, aoff + k * 2, none⟩) hab4).trans ac1
         have bg2 := (hB5.cell (p := ⟨ab, aoff + k * 2 + 1, none⟩) hab4).trans ac2
         have bgg1 := (hB5.cell (p := ⟨g, k * 2, none⟩) hZ3).trans gc1.out
         have bgg2 := (hB5.cell (p := ⟨g, k * 2 + 1, none⟩) hZ3).trans gc2.out
         have bgf := (owns_below O2.out hB5).frozenAt))
  have O1 := Lib.hid (owns_below O1.out hB5)
  have O2 := Lib.hid (owns_below O2.out hB5)
  have hG := hF.trans (hB5.mono hF.size)
  clear hB5 hF
  go_wp2
  go_light
  refine bodyPost_ret (v := .tuple #[.agg #[.int .i64 l.inc, .slice a3 l.out.length c3, .slice (some ⟨g, 0, none⟩) l.inn.length cap], .bool false, .int .i64 0]) (by simp [results, Try.results25, go_sem, b2]) rfl ⟨_, rfl, ⟨_, _, rfl, ?_, ?_⟩, ?_⟩
  · refine owns_base (base := w.heap.size + 3) ?_ (by omega)
    repeat (first | (with_reducible refine World.ownsRow.drew ?_) | ((with_reducible refine ownsRow_setCell_below ?_ ?_ _); rotate_left; focus (first | (simp; done) | (simp; omega) | (dsimp only; omega))))
    exact O1.out
  · refine owns_base (base := w.heap.size + 3) ?_ (by omega)
    repeat (first | (with_reducible refine World.ownsRow.drew ?_) | ((with_reducible refine ownsRow_setCell_below ?_ ?_ _); rotate_left; focus (first | (simp; done) | (simp; omega) | (dsimp only; omega))))
    exact O2.out
  · clear bgf b1 b2 bZ
    (repeat (first | (with_reducible exact Below.refl _ _) | (with_reducible assumption) | (with_reducible refine below_drewN ?_ _) | (with_reducible refine Below.drew ?_) | ((with_reducible refine Below.alloc ?_ ?_ _); rotate_left; focus (first | (with_reducible exact Nat.le_refl _) | omega | (simp; done) | (simp; omega))) | ((with_reducible refine Below.setCell (p := ⟨_, _, _⟩) ?_ ?_ _); rotate_left; focus (first | (with_reducible exact Nat.le_refl _) | omega | (simp; done) | (simp; omega)))))

set_option maxRecDepth 100000 in
set_option maxHeartbeats 2000000 in
theorem refTake_yes (w : World) (v : Value) (l : Lk) (k : Nat) (x1 x2 y1 y2 : Int) (ho : l.out.length ≤ 1099511627776) (hi : l.inn.length ≤ 1099511627776) (hl : LkR w v l) (hr : rightB l = true) (hm : mayB (x1, x2) = true)
    (hx : l.inn[k]? = some (y1, y2)) (hcmp : 0 < ordS (x1, x2) (y1, y2)) :
    Calls Try.prog 25 #[v, .int .i64 k, .agg #[.int .i64 x1, .int .i64 x2]] w (TakePost w (⟨l.inc, l.out, l.inn.set k (x1, x2)⟩, true, 0)) := by
  have hl' := hl
  have hlt : k < l.inn.length := (List.getElem?_eq_some_iff.1 hx).1
  obtain ⟨s1, s2, rfl, h1, h2⟩ := hl
  obtain ⟨a1, c1, rfl⟩ := h1.shape
  obtain ⟨ab, aoff, c2, rfl, hab, hac⟩ := h2.atP hlt
  have HA := Lib.hid (hac k _ hx)
  have HX := Lib.hid hx
  have HR := Lib.hid hr
  clear hr hx h1 h2 hac
  go_enter Try.func25, Try.ntmps25
  go_wp2_with fail
  obtain ⟨W, hW⟩ : ∃ W', W' = ((w.alloc (.cells #[.int .i64 l.inc, .slice a1 l.out.length c1, .slice (some ⟨ab, aoff, none⟩) l.inn.length c2] 25)).alloc (.cells #[.int .i64 x1, .int .i64 x2] 27)).alloc (.cells #[.int .i64 0, .slice none 0 0, .slice none 0 0] 25) := ⟨_, rfl⟩
  rw [← hW]
  have hB : Below w.heap.size w W := by rw [hW]; (repeat (first | (with_reducible exact Below.refl _ _) | (with_reducible assumption) | (with_reducible refine below_drewN ?_ _) | (with_reducible refine Below.drew ?_) | ((with_reducible refine Below.alloc ?_ ?_ _); rotate_left; focus (first | (with_reducible exact Nat.le_refl _) | omega | (simp; done) | (simp; omega))) | ((with_reducible refine Below.setCell (p := ⟨_, _, _⟩) ?_ ?_ _); rotate_left; focus (first | (with_reducible exact Nat.le_refl _) | omega | (simp; done) | (simp; omega)))))
  have hsz : w.heap.size + 2 < W.heap.size := by rw [hW]; simp
  have q0 : W.heap[w.heap.size]? = some (.cells #[.int .i64 l.inc, .slice a1 l.out.length c1, .slice (some ⟨ab, aoff, none⟩) l.inn.length c2] 25 (0, 0)) := by rw [hW]; exact blk_old _ (blk_old _ (blk_new _ _))
  have q1 : W.heap[w.heap.size + 1]? = some (.cells #[.int .i64 x1, .int .i64 x2] 27 (0, 0)) := by rw [hW]; have := blk_new (w.alloc (.cells #[.int .i64 l.inc, .slice a1 l.out.length c1, .slice (some ⟨ab, aoff, none⟩) l.inn.length c2] 25)) (.cells #[.int .i64 x1, .int .i64 x2] 27); rw [World.size_alloc] at this; exact blk_old _ this
  have q2 : W.heap[w.heap.size + 1 + 1]? = some (.cells #[.int .i64 0, .slice none 0 0, .slice none 0 0] 25 (0, 0)) := by rw [hW]; have := blk_new ((w.alloc (.cells #[.int .i64 l.inc, .slice a1 l.out.length c1, .slice (some ⟨ab, aoff, none⟩) l.inn.length c2] 25)).alloc (.cells #[.int .i64 x1, .int .i64 x2] 27)) (.cells #[.int .i64 0, .slice none 0 0, .slice none 0 0] 25); rw [World.size_alloc, World.size_alloc] at this; exact this
  clear hW
  refine (refRight_any _ _ l ho hi (hl'.below hB)).mono ?_
  rintro e W1 ⟨rfl, hB1⟩
  rw [HR.out]
  have r0 := cells3 (blk_below q0 hB1 (by omega))
  have r1 := cells2 (blk_below q1 hB1 (by omega))
  have hD := hB.trans (hB1.mono (Nat.le_of_lt (by omega)))
  have hs1 := hB1.size
  go_wp2_with fail
  refine (stamp_any _ _ _).mono ?_
  rintro e W2 ⟨rfl, hB2⟩
  have r0 := cells3 (blk_below (blk_below q0 hB1 (by omega)) hB2 (by omega))
  have r1 := cells2 (blk_below (blk_below q1 hB1 (by omega)) hB2 (by omega))
  have r2 := cells3 (blk_below (blk_below q2 hB1 (by omega)) hB2 (by omega))
  have hE := hD.trans (hB2.mono (by omega))
  rw [hm]
  have q0 := blk_below (blk_below q0 hB1 (by omega)) hB2 (by omega)
  have q1 := blk_below (blk_below q1 hB1 (by omega)) hB2 (by omega)
  have q2 := blk_below (blk_below q2 hB1 (by omega)) hB2 (by omega)
  have hs2 := hB2.size
  have i0 : (0 : Int) ≤ (k : Int) := by omega
  clear r2
  go_wp2_with fail
  refine (copy_any _ _ l ho hi (hl'.below hE)).mono ?_
  rintro e W3 ⟨r, rfl, ⟨s1, s2, rfl, o1, o2⟩, hB3⟩
  have q0 := blk_below q0 hB3 (by omega)
  have q1 := blk_below q1 hB3 (by omega)
  have q2 := blk_below q2 hB3 (by omega)
  obtain ⟨a3, c3, rfl⟩ := owns_shape o1
  obtain ⟨g, cap, rfl, hg1, hg2⟩ := o2.form (by omega)
  have gc := flatP_at HX.out
  have gc1 : W3.cell? ⟨g, k * 2, none⟩ = some (.int .i64 y1) := by rw [o2.cellAt _ (by omega)]; exact gc.1
  have gc2 : W3.cell? ⟨g, k * 2 + 1, none⟩ = some (.int .i64 y2) := by rw [o2.cellAt _ (by omega)]; exact gc.2
  have O1 := Lib.hid o1
  have O2 := Lib.hid o2
  have hs3 := hB3.size
  clear o1 o2 hl' gc r0 r1
  go_wp2
  obtain ⟨W4, hW4⟩ : ∃ W', W' = (W3.alloc (.cells #[.int .i64 l.inc, .slice a3 l.out.length c3, .slice (some ⟨g, 0, none⟩) l.inn.length cap] 25)) := ⟨_, rfl⟩
  rw [← hW4]
  have hs4 : W3.heap.size < W4.heap.size := by rw [hW4]; simp
  have hF : Below w.heap.size w W4 := by rw [hW4]; exact (hE.trans (hB3.mono hE.size)).alloc (by first | omega | (simp; done) | (simp; omega) | (dsimp only; omega)) _
  have qZ : W4.heap[W3.heap.size]? = some (.cells #[.int .i64 l.inc, .slice a3 l.out.length c3, .slice (some ⟨g, 0, none⟩) l.inn.length cap] 25 (0, 0)) := by rw [hW4]; exact blk_new _ _
  have q1 : W4.heap[w.heap.size + 1]? = some (.cells #[.int .i64 x1, .int .i64 x2] 27 (0, 0)) := by rw [hW4]; exact blk_old _ q1
  have q2 : W4.heap[w.heap.size + 1 + 1]? = some (.cells #[.int .i64 0, .slice none 0 0, .slice none 0 0] 25 (0, 0)) := by rw [hW4]; exact blk_old _ q2
  have O1 : Hid (W4.ownsRow (w.heap.size + 3) 2 1 (.slice a3 l.out.length c3) l.out.length (l.out.flatMap encI)) := by rw [hW4]; exact (owns_base O1.out (by omega)).alloc _
  have O2 : Hid (W4.ownsRow (w.heap.size + 3) 27 2 (.slice (some ⟨g, 0, none⟩) l.inn.length cap) l.inn.length (l.inn.flatMap encP)) := by rw [hW4]; exact (owns_base O2.out (by omega)).alloc _
  have q0 : W4.heap[w.heap.size]? = some (.cells #[.int .i64 l.inc, .slice a1 l.out.length c1, .slice (some ⟨ab, aoff, none⟩) l.inn.length c2] 25 (0, 0)) := by rw [hW4]; exact blk_old _ q0
  have gc1 := Lib.hid (show W4.cell? ⟨g, k * 2, none⟩ = some (.int .i64 y1) by rw [hW4, World.cell?_alloc_past _ _ _ hg2]; exact gc1)
  have gc2 := Lib.hid (show W4.cell? ⟨g, k * 2 + 1, none⟩ = some (.int .i64 y2) by rw [hW4, World.cell?_alloc_past _ _ _ hg2]; exact gc2)
  have hab4 : ab < W4.heap.size := Nat.lt_of_lt_of_le hab hF.size
  have ac1 := (hF.cell (p := ⟨ab, aoff + k * 2, none⟩) hab).trans HA.out.1
  have ac2 := (hF.cell (p := ⟨ab, aoff + k * 2 + 1, none⟩) hab).trans HA.out.2
  obtain ⟨Z, hZ⟩ : ∃ Z, Z = W3.heap.size := ⟨_, rfl⟩
  rw [← hZ] at qZ ⊢
  have hZ1 : w.heap.size + 2 < Z := by omega
  have hgl : w.heap.size + 2 < g := by omega
  have hgZ : g < Z := by omega
  have hZ2 : Z < W4.heap.size := by omega
  have hZ3 : g < W4.heap.size := by omega
  have p0 := cells3 q0
  have p1 := cells2 q1
  clear hW4 hZ hB hB1 hB2 hB3 hD hE hs1 hs2 hs3 hs4
  go_region_held3 (fun w' => w'.cell? ⟨w.heap.size + 1, 0, none⟩ = some (.int .i64 x1) ∧ w'.cell? ⟨w.heap.size + 1, 1, none⟩ = some (.int .i64 x2) ∧ w'.cell? ⟨w.heap.size, 2, none⟩ = some (.slice (some ⟨ab, aoff, none⟩) l.inn.length c2) ∧ w'.cell? ⟨ab, aoff + k * 2, none⟩ = some (.int .i64 y1) ∧ w'.cell? ⟨ab, aoff + k * 2 + 1, none⟩ = some (.int .i64 y2)) (go_keep)
    (first
      | (go_at_call 15
         refine (refOrder_any _ _ _ _ _).mono ?_
         rintro e W5 ⟨rfl, hB5'⟩
         have hB5 := below_undrew hB5'
         clear hB5'
         have b1 := cells2 (blk_below q1 hB5 (Nat.lt_trans (by omega) hZ2))
         have b2 := cells3 (blk_below q2 hB5 (Nat.lt_trans (by omega) hZ2))
         have bZ := cells3 (blk_below qZ hB5 hZ2)
         have b0 := cells3 (blk_below q0 hB5 (Nat.lt_trans (by omega) hZ2))
         have bg1 := (hB5.cell (p := ⟨ab, aoff + k * 2, none⟩) hab4).trans ac1
         have bg2 := (hB5.cell (p := ⟨ab, aoff + k * 2 + 1, none⟩) hab4).trans ac2
         have bgg1 := (hB5.cell (p := ⟨g, k * 2, none⟩) hZ3).trans gc1.out
         have bgg2 := (hB5.cell (p := ⟨g, k * 2 + 1, none⟩) hZ3).trans gc2.out
         have bgf := (owns_below O2.out hB5).frozenAt))
  have O1 := Lib.hid (owns_below O1.out hB5)
  have O2 := Lib.hid (owns_below O2.out hB5)
  have hG := hF.trans (hB5.mono hF.size)
  have n1 : ¬ g = Z := by omega
  have n1' : ¬ Z = g := by omega
  have n2 : ¬ g = w.heap.size + 1 + 1 := by omega
  have n2' : ¬ w.heap.size + 1 + 1 = g := by omega
  have n3 : ¬ w.heap.size + 1 = g := by omega
  have n3' : ¬ g = w.heap.size + 1 := by omega
  clear hB5 hF
  go_wp2
  go_light
  refine bodyPost_ret (v := .tuple #[.agg #[.int .i64 l.inc, .slice a3 l.out.length c3, .slice (some ⟨g, 0, none⟩) l.inn.length cap], .bool true, .int .i64 0]) (by simp [results, Try.results25, go_sem, b2]) rfl ⟨_, rfl, ⟨_, _, rfl, ?_, ?_⟩, ?_⟩
  · refine owns_base (base := w.heap.size + 3) ?_ (by omega)
    repeat (first | (with_reducible refine World.ownsRow.drew ?_) | ((with_reducible refine ownsRow_setCell_below ?_ ?_ _); rotate_left; focus (first | (simp; done) | (simp; omega) | (dsimp only; omega))))
    refine ownsRow_setCell_other (ownsRow_setCell_other O1.out ?_ _) ?_ _
    all_goals
      rcases owns_ne O1.out O2.out (by decide) with h | h
      · rw [h]; simp
      · simpa [Value.ownBlock] using h
  · simp only [List.length_set]
    refine owns_base (base := w.heap.size + 3) ?_ (by omega)
    repeat (first | (with_reducible refine World.ownsRow.drew ?_) | ((with_reducible refine ownsRow_setCell_below ?_ ?_ _); rotate_left; focus (first | (simp; done) | (simp; omega) | (dsimp only; omega))))
    rw [← set_flatP k _ hlt]
    exact ((O2.out.stored (k * 2) _).1.stored (k * 2 + 1) _).1
  · clear bgf b1 b2 bZ
    (repeat (first | (with_reducible exact Below.refl _ _) | (with_reducible assumption) | (with_reducible refine below_drewN ?_ _) | (with_reducible refine Below.drew ?_) | ((with_reducible refine Below.alloc ?_ ?_ _); rotate_left; focus (first | (with_reducible exact Nat.le_refl _) | omega | (simp; done) | (simp; omega))) | ((with_reducible refine Below.setCell (p := ⟨_, _, _⟩) ?_ ?_ _); rotate_left; focus (first | (with_reducible exact Nat.le_refl _) | omega | (simp; done) | (simp; omega)))))

theorem refTake_any (w : World) (v : Value) (l : Lk) (fr x1 x2 : Int) (ho : l.out.length ≤ 1099511627776) (hi : l.inn.length ≤ 1099511627776) (hl : LkR w v l) :
    Calls Try.prog 25 #[v, .int .i64 fr, .agg #[.int .i64 x1, .int .i64 x2]] w (TakePost w (takeR l fr (x1, x2))) := by
  unfold takeR
  by_cases hr : rightB l = true
  · by_cases hm : mayB (x1, x2) = true
    · rw [if_neg (by simp [hr, hm])]
      by_cases h0 : fr < 0
      · rw [if_pos (.inl h0)]; exact refTake_bad3 w v l fr x1 x2 ho hi hl hr hm h0
      · by_cases h1 : (l.inn.length : Int) ≤ fr
        · rw [if_pos (.inr h1)]; exact refTake_bad4 w v l fr x1 x2 ho hi hl hr hm (by omega) (by simp; omega) h1
        · rw [if_neg (by omega)]
          obtain ⟨k, rfl⟩ := Int.eq_ofNat_of_zero_le (show 0 ≤ fr by omega)
          obtain ⟨⟨y1, y2⟩, hx⟩ := at_some (xs := l.inn) (k := k) (by omega)
          have hg : l.inn.getD (k : Int).toNat (0, 0) = (y1, y2) := by simp [hx]
          rw [hg, Int.toNat_natCast]
          by_cases h2 : 0 < ordS (x1, x2) (y1, y2)
          · rw [if_pos h2]; exact refTake_yes w v l k x1 x2 y1 y2 ho hi hl hr hm hx h2
          · rw [if_neg h2]; exact refTake_no w v l k x1 x2 y1 y2 ho hi hl hr hm hx (by omega)
    · have hm' : mayB (x1, x2) = false := by simpa using hm
      rw [if_pos (.inr hm')]; exact refTake_bad2 w v l fr x1 x2 ho hi hl hr hm'
  · have hr' : rightB l = false := by simpa using hr
    rw [if_pos (.inl hr')]; exact refTake_bad1 w v l fr x1 x2 ho hi hl hr'

end Go.Proofs.Ytijifbkikgooiaa
