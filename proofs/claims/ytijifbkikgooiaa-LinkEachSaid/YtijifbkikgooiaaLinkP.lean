/- Link: the chapter's rows, walked. -/
import Derived.Test.YtijifbkikgooiaaLinkO
namespace Go.Proofs.Ytijifbkikgooiaa
open Go.RowKit Go.Shelf

theorem blk_keep {w w' : World} {b : Nat} {o : Obj} (h : w.heap[b]? = some o) (hb : Below w.heap.size w w') : w'.heap[b]? = some o := blk_below h hb (Array.getElem?_eq_some_iff.1 h).1
theorem lk_set {w : World} {base : Nat} {v : Value} {l : Lk} (h : LkOwn w base v l) {a : Addr} (ha : a.block < base) (u : Value) : LkOwn (w.setCell a u) base v l := by
  obtain ⟨s1, s2, hv, h1, h2⟩ := h
  exact ⟨s1, s2, hv, ownsRow_setCell_below h1 ha u, ownsRow_setCell_below h2 ha u⟩

set_option maxRecDepth 100000 in
set_option maxHeartbeats 8000000 in
theorem works_any (w : World) : Calls Try.prog 9 #[] w fun e w' => e = .returned (.bool true) ∧ Below w.heap.size w w' := by
  go_enter Try.func9, Try.ntmps9
  go_wp2_with fail
  have k1 := new_any w 2
  rw [wk0_eq] at k1
  refine k1.mono ?_
  clear k1
  rintro e W1 ⟨r1, rfl, hO1, hB1⟩
  obtain ⟨sa1, sb1, rfl, oa1, ob1⟩ := hO1
  obtain ⟨a1, ca1, rfl⟩ := owns_shape oa1
  obtain ⟨d1, cb1, rfl⟩ := owns_shape ob1
  have L1 := Lib.hid (LkOwn.reads (l := wk0) ⟨_, _, rfl, oa1, ob1⟩)
  have hs1 := hB1.size
  go_wp2_with fail
  obtain ⟨V1, hV1⟩ : ∃ V, V = W1.alloc (.cells #[.int .i64 wk0.inc, .slice a1 wk0.out.length ca1, .slice d1 wk0.inn.length cb1] 25) := ⟨_, rfl⟩
  rw [← hV1]
  have f1 : Below W1.heap.size W1 V1 := by rw [hV1]; (repeat (first | (with_reducible exact Below.refl _ _) | (with_reducible assumption) | (with_reducible refine below_drewN ?_ _) | (with_reducible refine Below.drew ?_) | ((with_reducible refine Below.alloc ?_ ?_ _); rotate_left; focus (first | (with_reducible exact Nat.le_refl _) | omega | (simp; done) | (simp; omega))) | ((with_reducible refine Below.setCell (p := ⟨_, _, _⟩) ?_ ?_ _); rotate_left; focus (first | (with_reducible exact Nat.le_refl _) | omega | (simp; done) | (simp; omega)))))
  have g1 : Below w.heap.size w V1 := hB1.trans (f1.mono hs1)
  have z1 : W1.heap.size < V1.heap.size := by rw [hV1]; simp <;> omega
  have b1 := Lib.hid (by have := blk_new W1 (.cells #[.int .i64 wk0.inc, .slice a1 wk0.out.length ca1, .slice d1 wk0.inn.length cb1] 25); rw [← hV1] at this; exact this)
  have L1 := Lib.hid (LkR.below L1.out f1)
  clear hV1 oa1 ob1
  have e1 := g1
  have kk := send_any V1 (.agg #[.int .i64 wk0.inc, .slice a1 wk0.out.length ca1, .slice d1 wk0.inn.length cb1]) wk0 1 (by have := wk_len; omega) (by have := wk_len; omega) L1.out
  rw [wk1_eq] at kk
  refine kk.mono ?_
  clear kk
  rintro e W2 ⟨r2, rfl, hO2, hB2⟩
  obtain ⟨sa2, sb2, rfl, oa2, ob2⟩ := hO2
  obtain ⟨a2, ca2, rfl⟩ := owns_shape oa2
  obtain ⟨d2, cb2, rfl⟩ := owns_shape ob2
  have L2 := Lib.hid (LkOwn.reads (l := wk1) ⟨_, _, rfl, oa2, ob2⟩)
  have hs2 := hB2.size
  go_wp2_with fail
  obtain ⟨V2, hV2⟩ : ∃ V, V = (W2.alloc (.cells #[.int .i64 wk1.inc, .slice a2 wk1.out.length ca2, .slice d2 wk1.inn.length cb2] 25)).alloc (.cells #[.int .i64 1, .int .i64 1] 27) := ⟨_, rfl⟩
  rw [← hV2]
  have f2 : Below W2.heap.size W2 V2 := by rw [hV2]; (repeat (first | (with_reducible exact Below.refl _ _) | (with_reducible assumption) | (with_reducible refine below_drewN ?_ _) | (with_reducible refine Below.drew ?_) | ((with_reducible refine Below.alloc ?_ ?_ _); rotate_left; focus (first | (with_reducible exact Nat.le_refl _) | omega | (simp; done) | (simp; omega))) | ((with_reducible refine Below.setCell (p := ⟨_, _, _⟩) ?_ ?_ _); rotate_left; focus (first | (with_reducible exact Nat.le_refl _) | omega | (simp; done) | (simp; omega)))))
  have g2 : Below V1.heap.size V1 V2 := hB2.trans (f2.mono hs2)
  have z2 : W2.heap.size + 1 < V2.heap.size := by rw [hV2]; simp <;> omega
  have b1 := Lib.hid (blk_keep b1.out g2)
  have b3 := Lib.hid (by have := blk_old (.cells #[.int .i64 1, .int .i64 1] 27) (blk_new W2 (.cells #[.int .i64 wk1.inc, .slice a2 wk1.out.length ca2, .slice d2 wk1.inn.length cb2] 25)); rw [← hV2] at this; exact this)
  have b4 := Lib.hid (by have := (show ((W2.alloc (.cells #[.int .i64 wk1.inc, .slice a2 wk1.out.length ca2, .slice d2 wk1.inn.length cb2] 25)).alloc (.cells #[.int .i64 1, .int .i64 1] 27)).heap[W2.heap.size + 1]? = some (.cells #[.int .i64 1, .int .i64 1] 27) from by have := blk_new (W2.alloc (.cells #[.int .i64 wk1.inc, .slice a2 wk1.out.length ca2, .slice d2 wk1.inn.length cb2] 25)) (.cells #[.int .i64 1, .int .i64 1] 27); rw [World.size_alloc] at this; exact this); rw [← hV2] at this; exact this)
  have L2 := Lib.hid (LkR.below L2.out f2)
  clear hV2 oa2 ob2
  have e2 := e1.trans (g2.mono e1.size)
  have kk := send_any V2 (.agg #[.int .i64 wk1.inc, .slice a2 wk1.out.length ca2, .slice d2 wk1.inn.length cb2]) wk1 1 (by have := wk_len; omega) (by have := wk_len; omega) L2.out
  rw [wk2_eq] at kk
  refine kk.mono ?_
  clear kk
  rintro e W3 ⟨r3, rfl, hO3, hB3⟩
  obtain ⟨sa3, sb3, rfl, oa3, ob3⟩ := hO3
  obtain ⟨a3, ca3, rfl⟩ := owns_shape oa3
  obtain ⟨d3, cb3, rfl⟩ := owns_shape ob3
  have L3 := Lib.hid (LkOwn.reads (l := wk2) ⟨_, _, rfl, oa3, ob3⟩)
  have hs3 := hB3.size
  go_wp2_with fail
  obtain ⟨V3, hV3⟩ : ∃ V, V = (W3.alloc (.cells #[.int .i64 wk2.inc, .slice a3 wk2.out.length ca3, .slice d3 wk2.inn.length cb3] 25)).alloc (.cells #[.int .i64 1, .int .i64 2] 27) := ⟨_, rfl⟩
  rw [← hV3]
  have f3 : Below W3.heap.size W3 V3 := by rw [hV3]; (repeat (first | (with_reducible exact Below.refl _ _) | (with_reducible assumption) | (with_reducible refine below_drewN ?_ _) | (with_reducible refine Below.drew ?_) | ((with_reducible refine Below.alloc ?_ ?_ _); rotate_left; focus (first | (with_reducible exact Nat.le_refl _) | omega | (simp; done) | (simp; omega))) | ((with_reducible refine Below.setCell (p := ⟨_, _, _⟩) ?_ ?_ _); rotate_left; focus (first | (with_reducible exact Nat.le_refl _) | omega | (simp; done) | (simp; omega)))))
  have g3 : Below V2.heap.size V2 V3 := hB3.trans (f3.mono hs3)
  have z3 : W3.heap.size + 1 < V3.heap.size := by rw [hV3]; simp <;> omega
  have b1 := Lib.hid (blk_keep b1.out g3)
  have b3 := Lib.hid (blk_keep b3.out g3)
  have b4 := Lib.hid (blk_keep b4.out g3)
  have b6 := Lib.hid (by have := blk_old (.cells #[.int .i64 1, .int .i64 2] 27) (blk_new W3 (.cells #[.int .i64 wk2.inc, .slice a3 wk2.out.length ca3, .slice d3 wk2.inn.length cb3] 25)); rw [← hV3] at this; exact this)
  have b7 := Lib.hid (by have := (show ((W3.alloc (.cells #[.int .i64 wk2.inc, .slice a3 wk2.out.length ca3, .slice d3 wk2.inn.length cb3] 25)).alloc (.cells #[.int .i64 1, .int .i64 2] 27)).heap[W3.heap.size + 1]? = some (.cells #[.int .i64 1, .int .i64 2] 27) from by have := blk_new (W3.alloc (.cells #[.int .i64 wk2.inc, .slice a3 wk2.out.length ca3, .slice d3 wk2.inn.length cb3] 25)) (.cells #[.int .i64 1, .int .i64 2] 27); rw [World.size_alloc] at this; exact this); rw [← hV3] at this; exact this)
  have L3 := Lib.hid (LkR.below L3.out f3)
  clear hV3 oa3 ob3
  have e3 := e2.trans (g3.mono e2.size)
  have L1 := Lib.hid (LkR.below (LkR.below L1.out g2) g3)
  have kk := restart_any V3 (.agg #[.int .i64 wk2.inc, .slice a3 wk2.out.length ca3, .slice d3 wk2.inn.length cb3]) wk2 (by have := wk_len; omega) (by have := wk_len; omega) L3.out
  rw [wk3_eq] at kk
  refine kk.mono ?_
  clear kk
  rintro e W4 ⟨r4, rfl, hO4, hB4⟩
  obtain ⟨sa4, sb4, rfl, oa4, ob4⟩ := hO4
  obtain ⟨a4, ca4, rfl⟩ := owns_shape oa4
  obtain ⟨d4, cb4, rfl⟩ := owns_shape ob4
  have L4 := Lib.hid (LkOwn.reads (l := wk3) ⟨_, _, rfl, oa4, ob4⟩)
  have hs4 := hB4.size
  go_wp2_with fail
  obtain ⟨V4, hV4⟩ : ∃ V, V = W4.alloc (.cells #[.int .i64 wk3.inc, .slice a4 wk3.out.length ca4, .slice d4 wk3.inn.length cb4] 25) := ⟨_, rfl⟩
  rw [← hV4]
  have f4 : Below W4.heap.size W4 V4 := by rw [hV4]; (repeat (first | (with_reducible exact Below.refl _ _) | (with_reducible assumption) | (with_reducible refine below_drewN ?_ _) | (with_reducible refine Below.drew ?_) | ((with_reducible refine Below.alloc ?_ ?_ _); rotate_left; focus (first | (with_reducible exact Nat.le_refl _) | omega | (simp; done) | (simp; omega))) | ((with_reducible refine Below.setCell (p := ⟨_, _, _⟩) ?_ ?_ _); rotate_left; focus (first | (with_reducible exact Nat.le_refl _) | omega | (simp; done) | (simp; omega)))))
  have g4 : Below V3.heap.size V3 V4 := hB4.trans (f4.mono hs4)
  have z4 : W4.heap.size < V4.heap.size := by rw [hV4]; simp <;> omega
  have b1 := Lib.hid (blk_keep b1.out g4)
  have b3 := Lib.hid (blk_keep b3.out g4)
  have b4 := Lib.hid (blk_keep b4.out g4)
  have b6 := Lib.hid (blk_keep b6.out g4)
  have b7 := Lib.hid (blk_keep b7.out g4)
  have b9 := Lib.hid (by have := blk_new W4 (.cells #[.int .i64 wk3.inc, .slice a4 wk3.out.length ca4, .slice d4 wk3.inn.length cb4] 25); rw [← hV4] at this; exact this)
  have L4 := Lib.hid (LkR.below L4.out f4)
  clear hV4 oa4 ob4
  have e4 := e3.trans (g4.mono e3.size)
  have kk := send_any V4 (.agg #[.int .i64 wk3.inc, .slice a4 wk3.out.length ca4, .slice d4 wk3.inn.length cb4]) wk3 1 (by have := wk_len; omega) (by have := wk_len; omega) L4.out
  rw [wk4_eq] at kk
  refine kk.mono ?_
  clear kk
  rintro e W5 ⟨r5, rfl, hO5, hB5⟩
  obtain ⟨sa5, sb5, rfl, oa5, ob5⟩ := hO5
  obtain ⟨a5, ca5, rfl⟩ := owns_shape oa5
  obtain ⟨d5, cb5, rfl⟩ := owns_shape ob5
  have L5 := Lib.hid (LkOwn.reads (l := wk4) ⟨_, _, rfl, oa5, ob5⟩)
  have hs5 := hB5.size
  go_wp2_with fail
  obtain ⟨V5, hV5⟩ : ∃ V, V = (W5.alloc (.cells #[.int .i64 wk4.inc, .slice a5 wk4.out.length ca5, .slice d5 wk4.inn.length cb5] 25)).alloc (.cells #[.int .i64 2, .int .i64 1] 27) := ⟨_, rfl⟩
  rw [← hV5]
  have f5 : Below W5.heap.size W5 V5 := by rw [hV5]; (repeat (first | (with_reducible exact Below.refl _ _) | (with_reducible assumption) | (with_reducible refine below_drewN ?_ _) | (with_reducible refine Below.drew ?_) | ((with_reducible refine Below.alloc ?_ ?_ _); rotate_left; focus (first | (with_reducible exact Nat.le_refl _) | omega | (simp; done) | (simp; omega))) | ((with_reducible refine Below.setCell (p := ⟨_, _, _⟩) ?_ ?_ _); rotate_left; focus (first | (with_reducible exact Nat.le_refl _) | omega | (simp; done) | (simp; omega)))))
  have g5 : Below V4.heap.size V4 V5 := hB5.trans (f5.mono hs5)
  have z5 : W5.heap.size + 1 < V5.heap.size := by rw [hV5]; simp <;> omega
  have b1 := Lib.hid (blk_keep b1.out g5)
  have b3 := Lib.hid (blk_keep b3.out g5)
  have b4 := Lib.hid (blk_keep b4.out g5)
  have b6 := Lib.hid (blk_keep b6.out g5)
  have b7 := Lib.hid (blk_keep b7.out g5)
  have b9 := Lib.hid (blk_keep b9.out g5)
  have b11 := Lib.hid (by have := blk_old (.cells #[.int .i64 2, .int .i64 1] 27) (blk_new W5 (.cells #[.int .i64 wk4.inc, .slice a5 wk4.out.length ca5, .slice d5 wk4.inn.length cb5] 25)); rw [← hV5] at this; exact this)
  have b12 := Lib.hid (by have := (show ((W5.alloc (.cells #[.int .i64 wk4.inc, .slice a5 wk4.out.length ca5, .slice d5 wk4.inn.length cb5] 25)).alloc (.cells #[.int .i64 2, .int .i64 1] 27)).heap[W5.heap.size + 1]? = some (.cells #[.int .i64 2, .int .i64 1] 27) from by have := blk_new (W5.alloc (.cells #[.int .i64 wk4.inc, .slice a5 wk4.out.length ca5, .slice d5 wk4.inn.length cb5] 25)) (.cells #[.int .i64 2, .int .i64 1] 27); rw [World.size_alloc] at this; exact this); rw [← hV5] at this; exact this)
  have L5 := Lib.hid (LkR.below L5.out f5)
  clear hV5 oa5 ob5
  have q1 := cells2 b4.out
  have q2 := cells2 b7.out
  have q3 := cells3 b1.out
  have q4 := cells2 b12.out
  go_wp2_with (go_at_call 11; refine (num_any _ _).mono ?_; rintro e w' ⟨rfl, rfl⟩)
  clear q1 q2 q3 q4
  have e5 := e4.trans (g5.mono e4.size)
  have L1 := Lib.hid (LkR.below (LkR.below L1.out g4) g5)
  have kk := take_any V5 (.agg #[.int .i64 wk0.inc, .slice a1 wk0.out.length ca1, .slice d1 wk0.inn.length cb1]) wk0 1 1 2 (by have := wk_len; omega) (by have := wk_len; omega) L1.out
  rw [wk5_eq] at kk
  refine kk.mono ?_
  clear kk
  rintro e W6 ⟨r6, rfl, hO6, hB6⟩
  obtain ⟨sa6, sb6, rfl, oa6, ob6⟩ := hO6
  obtain ⟨a6, ca6, rfl⟩ := owns_shape oa6
  obtain ⟨d6, cb6, rfl⟩ := owns_shape ob6
  have L6 := Lib.hid (LkOwn.reads (l := wk5) ⟨_, _, rfl, oa6, ob6⟩)
  have q1 := cells2 (blk_keep b4.out hB6)
  have t1 := (Array.getElem?_eq_some_iff.1 (blk_keep b4.out hB6)).1
  have hs6 := hB6.size
  go_wp2_with fail
  obtain ⟨V6, hV6⟩ : ∃ V, V = W6.alloc (.cells #[.int .i64 wk5.inc, .slice a6 wk5.out.length ca6, .slice d6 wk5.inn.length cb6] 25) := ⟨_, rfl⟩
  rw [← hV6]
  have f6 : Below W6.heap.size W6 V6 := by rw [hV6]; (repeat (first | (with_reducible exact Below.refl _ _) | (with_reducible assumption) | (with_reducible refine below_drewN ?_ _) | (with_reducible refine Below.drew ?_) | ((with_reducible refine Below.alloc ?_ ?_ _); rotate_left; focus (first | (with_reducible exact Nat.le_refl _) | omega | (simp; done) | (simp; omega))) | ((with_reducible refine Below.setCell (p := ⟨_, _, _⟩) ?_ ?_ _); rotate_left; focus (first | (with_reducible exact Nat.le_refl _) | omega | (simp; done) | (simp; omega)))))
  have g6 : Below V5.heap.size V5 V6 := hB6.trans (f6.mono hs6)
  have z6 : W6.heap.size < V6.heap.size := by rw [hV6]; simp <;> omega
  have b1 := Lib.hid (blk_keep b1.out g6)
  have b3 := Lib.hid (blk_keep b3.out g6)
  have b4 := Lib.hid (blk_keep b4.out g6)
  have b6 := Lib.hid (blk_keep b6.out g6)
  have b7 := Lib.hid (blk_keep b7.out g6)
  have b9 := Lib.hid (blk_keep b9.out g6)
  have b11 := Lib.hid (blk_keep b11.out g6)
  have b12 := Lib.hid (blk_keep b12.out g6)
  have b14 := Lib.hid (by have := blk_new W6 (.cells #[.int .i64 wk5.inc, .slice a6 wk5.out.length ca6, .slice d6 wk5.inn.length cb6] 25); rw [← hV6] at this; exact this)
  have L6 := Lib.hid (LkR.below L6.out f6)
  clear hV6 oa6 ob6
  clear q1 t1
  have e6 := e5.trans (g6.mono e5.size)
  have y5 := hB6.size
  have kk := take_any V6 (.agg #[.int .i64 wk5.inc, .slice a6 wk5.out.length ca6, .slice d6 wk5.inn.length cb6]) wk5 1 1 1 (by have := wk_len; omega) (by have := wk_len; omega) L6.out
  rw [wk6_eq] at kk
  refine kk.mono ?_
  clear kk
  rintro e W7 ⟨r7, rfl, hO7, hB7⟩
  have hO7k := hO7
  obtain ⟨sa7, sb7, rfl, oa7, ob7⟩ := hO7
  obtain ⟨a7, ca7, rfl⟩ := owns_shape oa7
  obtain ⟨d7, cb7, rfl⟩ := owns_shape ob7
  have L7 := Lib.hid (LkOwn.reads (l := wk6) ⟨_, _, rfl, oa7, ob7⟩)
  have hs7 := hB7.size
  have q1 := cells3 (blk_keep b14.out hB7)
  have q2 := cells2 (blk_keep b7.out hB7)
  have t1 := (Array.getElem?_eq_some_iff.1 b14.out).1
  have ne1 : ¬ W6.heap.size = W3.heap.size + 1 := by omega
  have ne2 : ¬ W3.heap.size + 1 = W6.heap.size := by omega
  go_wp2_with fail
  obtain ⟨V7, hV7⟩ : ∃ V, V = ((W7.setCell ⟨W6.heap.size, 0, none⟩ (.int .i64 wk6.inc)).setCell ⟨W6.heap.size, 1, none⟩ (.slice a7 wk6.out.length ca7)).setCell ⟨W6.heap.size, 2, none⟩ (.slice d7 wk6.inn.length cb7) := ⟨_, rfl⟩
  rw [← hV7]
  have e7 : Below V5.heap.size V5 V7 := by rw [hV7]; exact ((((g6).trans (hB7.mono (g6).size)).setCell y5 _).setCell y5 _).setCell y5 _
  have z7 : W7.heap.size ≤ V7.heap.size := by rw [hV7]; simp
  have L7 := Lib.hid (LkOwn.reads (lk_set (lk_set (lk_set hO7k (a := ⟨W6.heap.size, 0, none⟩) t1 (.int .i64 wk6.inc)) (a := ⟨W6.heap.size, 1, none⟩) t1 (.slice a7 wk6.out.length ca7)) (a := ⟨W6.heap.size, 2, none⟩) t1 (.slice d7 wk6.inn.length cb7)))
  rw [← hV7] at L7
  have b1 := Lib.hid (blk_set_other (a := ⟨W6.heap.size, 2, none⟩) (.slice d7 wk6.inn.length cb7) (blk_set_other (a := ⟨W6.heap.size, 1, none⟩) (.slice a7 wk6.out.length ca7) (blk_set_other (a := ⟨W6.heap.size, 0, none⟩) (.int .i64 wk6.inc) (blk_keep b1.out hB7) (show W1.heap.size ≠ W6.heap.size by omega)) (show W1.heap.size ≠ W6.heap.size by omega)) (show W1.heap.size ≠ W6.heap.size by omega))
  rw [← hV7] at b1
  have b4 := Lib.hid (blk_set_other (a := ⟨W6.heap.size, 2, none⟩) (.slice d7 wk6.inn.length cb7) (blk_set_other (a := ⟨W6.heap.size, 1, none⟩) (.slice a7 wk6.out.length ca7) (blk_set_other (a := ⟨W6.heap.size, 0, none⟩) (.int .i64 wk6.inc) (blk_keep b4.out hB7) (show W2.heap.size + 1 ≠ W6.heap.size by omega)) (show W2.heap.size + 1 ≠ W6.heap.size by omega)) (show W2.heap.size + 1 ≠ W6.heap.size by omega))
  rw [← hV7] at b4
  have b7 := Lib.hid (blk_set_other (a := ⟨W6.heap.size, 2, none⟩) (.slice d7 wk6.inn.length cb7) (blk_set_other (a := ⟨W6.heap.size, 1, none⟩) (.slice a7 wk6.out.length ca7) (blk_set_other (a := ⟨W6.heap.size, 0, none⟩) (.int .i64 wk6.inc) (blk_keep b7.out hB7) (show W3.heap.size + 1 ≠ W6.heap.size by omega)) (show W3.heap.size + 1 ≠ W6.heap.size by omega)) (show W3.heap.size + 1 ≠ W6.heap.size by omega))
  rw [← hV7] at b7
  have b12 := Lib.hid (blk_set_other (a := ⟨W6.heap.size, 2, none⟩) (.slice d7 wk6.inn.length cb7) (blk_set_other (a := ⟨W6.heap.size, 1, none⟩) (.slice a7 wk6.out.length ca7) (blk_set_other (a := ⟨W6.heap.size, 0, none⟩) (.int .i64 wk6.inc) (blk_keep b12.out hB7) (show W5.heap.size + 1 ≠ W6.heap.size by omega)) (show W5.heap.size + 1 ≠ W6.heap.size by omega)) (show W5.heap.size + 1 ≠ W6.heap.size by omega))
  rw [← hV7] at b12
  have b14 := Lib.hid (blk_set (i := 2) (.slice d7 wk6.inn.length cb7) (blk_set (i := 1) (.slice a7 wk6.out.length ca7) (blk_set (i := 0) (.int .i64 wk6.inc) (blk_keep b14.out hB7))))
  rw [← hV7] at b14
  have b14 : Hid (V7.heap[W6.heap.size]? = some (.cells #[.int .i64 wk6.inc, .slice a7 wk6.out.length ca7, .slice d7 wk6.inn.length cb7] 25 (0, 0))) := b14
  clear hV7 oa7 ob7 q1 q2 ne1 ne2 hO7k
  have kk := take_any V7 (.agg #[.int .i64 wk6.inc, .slice a7 wk6.out.length ca7, .slice d7 wk6.inn.length cb7]) wk6 1 1 2 (by have := wk_len; omega) (by have := wk_len; omega) L7.out
  rw [wk7_eq] at kk
  refine kk.mono ?_
  clear kk
  rintro e W8 ⟨r8, rfl, hO8, hB8⟩
  have hO8k := hO8
  obtain ⟨sa8, sb8, rfl, oa8, ob8⟩ := hO8
  obtain ⟨a8, ca8, rfl⟩ := owns_shape oa8
  obtain ⟨d8, cb8, rfl⟩ := owns_shape ob8
  have L8 := Lib.hid (LkOwn.reads (l := wk7) ⟨_, _, rfl, oa8, ob8⟩)
  have hs8 := hB8.size
  have q1 := cells3 (blk_keep b14.out hB8)
  have q2 := cells2 (blk_keep b12.out hB8)
  have t1 := (Array.getElem?_eq_some_iff.1 b14.out).1
  have ne1 : ¬ W6.heap.size = W5.heap.size + 1 := by omega
  have ne2 : ¬ W5.heap.size + 1 = W6.heap.size := by omega
  go_wp2_with fail
  obtain ⟨V8, hV8⟩ : ∃ V, V = ((W8.setCell ⟨W6.heap.size, 0, none⟩ (.int .i64 wk7.inc)).setCell ⟨W6.heap.size, 1, none⟩ (.slice a8 wk7.out.length ca8)).setCell ⟨W6.heap.size, 2, none⟩ (.slice d8 wk7.inn.length cb8) := ⟨_, rfl⟩
  rw [← hV8]
  have e8 : Below V5.heap.size V5 V8 := by rw [hV8]; exact ((((e7).trans (hB8.mono (e7).size)).setCell y5 _).setCell y5 _).setCell y5 _
  have z8 : W8.heap.size ≤ V8.heap.size := by rw [hV8]; simp
  have L8 := Lib.hid (LkOwn.reads (lk_set (lk_set (lk_set hO8k (a := ⟨W6.heap.size, 0, none⟩) t1 (.int .i64 wk7.inc)) (a := ⟨W6.heap.size, 1, none⟩) t1 (.slice a8 wk7.out.length ca8)) (a := ⟨W6.heap.size, 2, none⟩) t1 (.slice d8 wk7.inn.length cb8)))
  rw [← hV8] at L8
  have b1 := Lib.hid (blk_set_other (a := ⟨W6.heap.size, 2, none⟩) (.slice d8 wk7.inn.length cb8) (blk_set_other (a := ⟨W6.heap.size, 1, none⟩) (.slice a8 wk7.out.length ca8) (blk_set_other (a := ⟨W6.heap.size, 0, none⟩) (.int .i64 wk7.inc) (blk_keep b1.out hB8) (show W1.heap.size ≠ W6.heap.size by omega)) (show W1.heap.size ≠ W6.heap.size by omega)) (show W1.heap.size ≠ W6.heap.size by omega))
  rw [← hV8] at b1
  have b4 := Lib.hid (blk_set_other (a := ⟨W6.heap.size, 2, none⟩) (.slice d8 wk7.inn.length cb8) (blk_set_other (a := ⟨W6.heap.size, 1, none⟩) (.slice a8 wk7.out.length ca8) (blk_set_other (a := ⟨W6.heap.size, 0, none⟩) (.int .i64 wk7.inc) (blk_keep b4.out hB8) (show W2.heap.size + 1 ≠ W6.heap.size by omega)) (show W2.heap.size + 1 ≠ W6.heap.size by omega)) (show W2.heap.size + 1 ≠ W6.heap.size by omega))
  rw [← hV8] at b4
  have b7 := Lib.hid (blk_set_other (a := ⟨W6.heap.size, 2, none⟩) (.slice d8 wk7.inn.length cb8) (blk_set_other (a := ⟨W6.heap.size, 1, none⟩) (.slice a8 wk7.out.length ca8) (blk_set_other (a := ⟨W6.heap.size, 0, none⟩) (.int .i64 wk7.inc) (blk_keep b7.out hB8) (show W3.heap.size + 1 ≠ W6.heap.size by omega)) (show W3.heap.size + 1 ≠ W6.heap.size by omega)) (show W3.heap.size + 1 ≠ W6.heap.size by omega))
  rw [← hV8] at b7
  have b12 := Lib.hid (blk_set_other (a := ⟨W6.heap.size, 2, none⟩) (.slice d8 wk7.inn.length cb8) (blk_set_other (a := ⟨W6.heap.size, 1, none⟩) (.slice a8 wk7.out.length ca8) (blk_set_other (a := ⟨W6.heap.size, 0, none⟩) (.int .i64 wk7.inc) (blk_keep b12.out hB8) (show W5.heap.size + 1 ≠ W6.heap.size by omega)) (show W5.heap.size + 1 ≠ W6.heap.size by omega)) (show W5.heap.size + 1 ≠ W6.heap.size by omega))
  rw [← hV8] at b12
  have b14 := Lib.hid (blk_set (i := 2) (.slice d8 wk7.inn.length cb8) (blk_set (i := 1) (.slice a8 wk7.out.length ca8) (blk_set (i := 0) (.int .i64 wk7.inc) (blk_keep b14.out hB8))))
  rw [← hV8] at b14
  have b14 : Hid (V8.heap[W6.heap.size]? = some (.cells #[.int .i64 wk7.inc, .slice a8 wk7.out.length ca8, .slice d8 wk7.inn.length cb8] 25 (0, 0))) := b14
  clear hV8 oa8 ob8 q1 q2 ne1 ne2 hO8k
  have kk := take_any V8 (.agg #[.int .i64 wk7.inc, .slice a8 wk7.out.length ca8, .slice d8 wk7.inn.length cb8]) wk7 1 2 1 (by have := wk_len; omega) (by have := wk_len; omega) L8.out
  rw [wk8_eq] at kk
  refine kk.mono ?_
  clear kk
  rintro e W9 ⟨r9, rfl, hO9, hB9⟩
  obtain ⟨sa9, sb9, rfl, oa9, ob9⟩ := hO9
  obtain ⟨a9, ca9, rfl⟩ := owns_shape oa9
  obtain ⟨d9, cb9, rfl⟩ := owns_shape ob9
  have L9 := Lib.hid (LkOwn.reads (l := wk8) ⟨_, _, rfl, oa9, ob9⟩)
  have q1 := cells3 (blk_keep b1.out hB9)
  have t2 := (Array.getElem?_eq_some_iff.1 (blk_keep b1.out hB9)).1
  have hs9 := hB9.size
  go_wp2_with fail
  clear q1 t2
  obtain ⟨V9, hV9⟩ : ∃ V, V = W9.alloc (.cells #[.int .i64 wk8.inc, .slice a9 wk8.out.length ca9, .slice d9 wk8.inn.length cb9] 25) := ⟨_, rfl⟩
  rw [← hV9]
  have f9 : Below W9.heap.size W9 V9 := by rw [hV9]; (repeat (first | (with_reducible exact Below.refl _ _) | (with_reducible assumption) | (with_reducible refine below_drewN ?_ _) | (with_reducible refine Below.drew ?_) | ((with_reducible refine Below.alloc ?_ ?_ _); rotate_left; focus (first | (with_reducible exact Nat.le_refl _) | omega | (simp; done) | (simp; omega))) | ((with_reducible refine Below.setCell (p := ⟨_, _, _⟩) ?_ ?_ _); rotate_left; focus (first | (with_reducible exact Nat.le_refl _) | omega | (simp; done) | (simp; omega)))))
  have g9 : Below V8.heap.size V8 V9 := hB9.trans (f9.mono hs9)
  have b1 := Lib.hid (blk_keep b1.out g9)
  have e9 : Below V5.heap.size V5 V9 := e8.trans (g9.mono e8.size)
  have L1 := Lib.hid (LkR.below L1.out e9)
  clear hV9
  have kk := send_any V9 (.agg #[.int .i64 wk0.inc, .slice a1 wk0.out.length ca1, .slice d1 wk0.inn.length cb1]) wk0 2 (by have := wk_len; omega) (by have := wk_len; omega) L1.out
  rw [wk9_eq] at kk
  refine kk.mono ?_
  clear kk
  rintro e W10 ⟨r10, rfl, hO10, hB10⟩
  obtain ⟨sa10, sb10, rfl, oa10, ob10⟩ := hO10
  obtain ⟨a10, ca10, rfl⟩ := owns_shape oa10
  obtain ⟨d10, cb10, rfl⟩ := owns_shape ob10
  have q1 := cells3 (blk_keep b1.out hB10)
  have t2 := (Array.getElem?_eq_some_iff.1 (blk_keep b1.out hB10)).1
  have t3 := Nat.lt_succ_of_lt t2
  go_wp2_with fail
  clear q1 t2 t3
  obtain ⟨V10, hV10⟩ : ∃ V, V = (W10.alloc (.cells #[.int .i64 noL.inc, .slice a10 noL.out.length ca10, .slice d10 noL.inn.length cb10] 25)).alloc (.cells #[.int .i64 0, .int .i64 0] 27) := ⟨_, rfl⟩
  rw [← hV10]
  have hs10 := hB10.size
  have f10 : Below W10.heap.size W10 V10 := by rw [hV10]; (repeat (first | (with_reducible exact Below.refl _ _) | (with_reducible assumption) | (with_reducible refine below_drewN ?_ _) | (with_reducible refine Below.drew ?_) | ((with_reducible refine Below.alloc ?_ ?_ _); rotate_left; focus (first | (with_reducible exact Nat.le_refl _) | omega | (simp; done) | (simp; omega))) | ((with_reducible refine Below.setCell (p := ⟨_, _, _⟩) ?_ ?_ _); rotate_left; focus (first | (with_reducible exact Nat.le_refl _) | omega | (simp; done) | (simp; omega)))))
  have g10 : Below V9.heap.size V9 V10 := hB10.trans (f10.mono hs10)
  have L1 := Lib.hid (LkR.below L1.out g10)
  have e10 : Below V5.heap.size V5 V10 := e9.trans (g10.mono e9.size)
  clear hV10 oa10 ob10
  have kk := take_any V10 (.agg #[.int .i64 wk0.inc, .slice a1 wk0.out.length ca1, .slice d1 wk0.inn.length cb1]) wk0 0 0 1 (by have := wk_len; omega) (by have := wk_len; omega) L1.out
  rw [wk10_eq] at kk
  refine kk.mono ?_
  clear kk
  rintro e W11 ⟨r11, rfl, hO11, hB11⟩
  obtain ⟨sa11, sb11, rfl, oa11, ob11⟩ := hO11
  obtain ⟨a11, ca11, rfl⟩ := owns_shape oa11
  obtain ⟨d11, cb11, rfl⟩ := owns_shape ob11
  clear oa11 ob11
  have e11 := e10.trans (hB11.mono e10.size)
  have e12 := e5.trans (e11.mono e5.size)
  go_wp2_with (go_at_call 11; refine (num_any _ _).mono ?_; rintro e w' ⟨rfl, rfl⟩)
  go_light
  go_ret
  exact ⟨rfl, e12.alloc e12.size _⟩

end Go.Proofs.Ytijifbkikgooiaa
