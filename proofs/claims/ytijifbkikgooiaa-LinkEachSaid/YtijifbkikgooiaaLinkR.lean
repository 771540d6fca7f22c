/- Link: LinkSends, walked. -/
import Derived.Test.YtijifbkikgooiaaLinkP
import Derived.Test.YtijifbkikgooiaaLinkQ
namespace Go.Proofs.Ytijifbkikgooiaa
open Go.RowKit Go.Shelf

theorem sameB_refl (l : Lk) : sameB l l = true := by simp [sameB]
theorem sendR_len (l : Lk) (to : Int) : (sendR l to).1.out.length ≤ l.out.length ∧ (sendR l to).1.inn.length ≤ l.inn.length := by
  unfold sendR
  split
  · simp [noL]
  · split
    · simp [noL]
    · split <;> simp [noL]
theorem restartR_len (l : Lk) : (restartR l).1.out.length ≤ l.out.length ∧ (restartR l).1.inn.length ≤ l.inn.length := by
  unfold restartR
  split
  · simp [noL]
  · split <;> simp [noL]

set_option maxHeartbeats 1000000 in
theorem sends_big (w : World) (i to : Int) (a b : Option Addr) (n m c d : Nat) (h : (decide (n ≤ 100) && decide (m ≤ 100)) = false) :
    Calls Try.prog 4 #[.agg #[.int .i64 i, .slice a n c, .slice b m d], .int .i64 to] w fun e w' => e = .returned (.bool true) ∧ Below w.heap.size w w' := by
  have H := Lib.hid h
  clear h
  go_enter Try.func4, Try.ntmps4
  go_wp2_with fail
  have kk := few_any (w.alloc (.cells #[.int .i64 i, .slice a n c, .slice b m d] 25)) (.int .i64 i) a b n m c d
  rw [H.out] at kk
  refine kk.mono ?_
  clear kk
  rintro e W1 ⟨rfl, hB1⟩
  have g0 : Below w.heap.size w (w.alloc (.cells #[.int .i64 i, .slice a n c, .slice b m d] 25)) := by (repeat (first | (with_reducible exact Below.refl _ _) | (with_reducible assumption) | (with_reducible refine below_drewN ?_ _) | (with_reducible refine Below.drew ?_) | ((with_reducible refine Below.alloc ?_ ?_ _); rotate_left; focus (first | (with_reducible exact Nat.le_refl _) | omega | (simp; done) | (simp; omega))) | ((with_reducible refine Below.setCell (p := ⟨_, _, _⟩) ?_ ?_ _); rotate_left; focus (first | (with_reducible exact Nat.le_refl _) | omega | (simp; done) | (simp; omega)))))
  have g1 := g0.trans (hB1.mono g0.size)
  go_wp2_with fail
  refine (works_any W1).mono ?_
  rintro e W2 ⟨rfl, hB2⟩
  have g2 := g1.trans (hB2.mono g1.size)
  go_wp2
  go_ret
  exact ⟨rfl, g2⟩

set_option maxRecDepth 100000 in
set_option maxHeartbeats 8000000 in
theorem sends_small (w : World) (v : Value) (l : Lk) (to : Int) (ho : l.out.length ≤ 100) (hi : l.inn.length ≤ 100) (hl : LkR w v l) :
    Calls Try.prog 4 #[v, .int .i64 to] w fun e w' => e = .returned (.bool true) ∧ Below w.heap.size w w' := by
  have L0 := Lib.hid hl
  have HO := Lib.hid (show l.out.length ≤ 1099511627776 by omega)
  have HI := Lib.hid (show l.inn.length ≤ 1099511627776 by omega)
  have HF := Lib.hid (show (decide (l.out.length ≤ 100) && decide (l.inn.length ≤ 100)) = true by simp; omega)
  obtain ⟨s1, s2, rfl, h1, h2⟩ := hl
  obtain ⟨a0, ca0, rfl⟩ := h1.shape
  obtain ⟨d0, cb0, rfl⟩ := h2.shape
  obtain ⟨q, hq⟩ : ∃ q, q = sendR l to := ⟨_, rfl⟩
  obtain ⟨k1, ⟨x1, x2⟩, n1⟩ := q
  obtain ⟨r, hr⟩ : ∃ q, q = restartR l := ⟨_, rfl⟩
  obtain ⟨k2, n2⟩ := r
  have HQ := Lib.hid hq.symm
  have HR := Lib.hid hr.symm
  have HQ1 := Lib.hid (show k1.out.length ≤ 1099511627776 by have := sendR_len l to; rw [← hq] at this; dsimp only at this; omega)
  have HQ2 := Lib.hid (show k1.inn.length ≤ 1099511627776 by have := sendR_len l to; rw [← hq] at this; dsimp only at this; omega)
  have HR1 := Lib.hid (show k2.out.length ≤ 1099511627776 by have := restartR_len l; rw [← hr] at this; dsimp only at this; omega)
  have HR2 := Lib.hid (show k2.inn.length ≤ 1099511627776 by have := restartR_len l; rw [← hr] at this; dsimp only at this; omega)
  clear hq hr h1 h2 ho hi
  go_enter Try.func4, Try.ntmps4
  go_wp2_with fail
  obtain ⟨V0, hV0⟩ : ∃ V, V = w.alloc (.cells #[.int .i64 l.inc, .slice a0 l.out.length ca0, .slice d0 l.inn.length cb0] 25) := ⟨_, rfl⟩
  rw [← hV0]
  have e0 : Below w.heap.size w V0 := by rw [hV0]; (repeat (first | (with_reducible exact Below.refl _ _) | (with_reducible assumption) | (with_reducible refine below_drewN ?_ _) | (with_reducible refine Below.drew ?_) | ((with_reducible refine Below.alloc ?_ ?_ _); rotate_left; focus (first | (with_reducible exact Nat.le_refl _) | omega | (simp; done) | (simp; omega))) | ((with_reducible refine Below.setCell (p := ⟨_, _, _⟩) ?_ ?_ _); rotate_left; focus (first | (with_reducible exact Nat.le_refl _) | omega | (simp; done) | (simp; omega)))))
  have b2 := Lib.hid (by have := blk_new w (.cells #[.int .i64 l.inc, .slice a0 l.out.length ca0, .slice d0 l.inn.length cb0] 25); rw [← hV0] at this; exact this)
  have L0 := Lib.hid (LkR.below L0.out e0)
  clear hV0
  have kk := few_any V0 (.int .i64 l.inc) a0 d0 l.out.length l.inn.length ca0 cb0
  rw [HF.out] at kk
  refine kk.mono ?_
  clear kk
  rintro e W1 ⟨rfl, hB1⟩
  have hs1 := hB1.size
  have q0 := cells3 (blk_keep b2.out hB1)
  go_wp2_with fail
  clear q0
  have g1 := hB1
  have b2 := Lib.hid (blk_keep b2.out g1)
  have L0 := Lib.hid (LkR.below L0.out g1)
  have e1 := e0.trans (g1.mono e0.size)
  have kk := copy_any W1 (.agg #[.int .i64 l.inc, .slice a0 l.out.length ca0, .slice d0 l.inn.length cb0]) l HO.out HI.out L0.out
  refine kk.mono ?_
  clear kk
  rintro e W2 ⟨r2, rfl, hO2, hB2⟩
  obtain ⟨sa2, sb2, rfl, oa2, ob2⟩ := hO2
  obtain ⟨a2, ca2, rfl⟩ := owns_shape oa2
  obtain ⟨d2, cb2, rfl⟩ := owns_shape ob2
  have L2n := Lib.hid (LkOwn.reads (l := l) ⟨_, _, rfl, oa2, ob2⟩)
  have hs2 := hB2.size
  have q0 := cells3 (blk_keep b2.out hB2)
  have t0 := (Array.getElem?_eq_some_iff.1 (blk_keep b2.out hB2)).1
  go_wp2_with fail
  clear q0 t0
  obtain ⟨V2, hV2⟩ : ∃ V, V = W2.alloc (.cells #[.int .i64 l.inc, .slice a2 l.out.length ca2, .slice d2 l.inn.length cb2] 25) := ⟨_, rfl⟩
  rw [← hV2]
  have f2 : Below W2.heap.size W2 V2 := by rw [hV2]; (repeat (first | (with_reducible exact Below.refl _ _) | (with_reducible assumption) | (with_reducible refine below_drewN ?_ _) | (with_reducible refine Below.drew ?_) | ((with_reducible refine Below.alloc ?_ ?_ _); rotate_left; focus (first | (with_reducible exact Nat.le_refl _) | omega | (simp; done) | (simp; omega))) | ((with_reducible refine Below.setCell (p := ⟨_, _, _⟩) ?_ ?_ _); rotate_left; focus (first | (with_reducible exact Nat.le_refl _) | omega | (simp; done) | (simp; omega)))))
  have g2 : Below W1.heap.size W1 V2 := hB2.trans (f2.mono hs2)
  have b2 := Lib.hid (blk_keep b2.out g2)
  have L0 := Lib.hid (LkR.below L0.out g2)
  have b5 := Lib.hid (by have := blk_new W2 (.cells #[.int .i64 l.inc, .slice a2 l.out.length ca2, .slice d2 l.inn.length cb2] 25); rw [← hV2] at this; exact this)
  have L2 := Lib.hid (LkR.below L2n.out f2)
  clear L2n hV2 oa2 ob2
  have e2 := e1.trans (g2.mono e1.size)
  have kk := send_any V2 (.agg #[.int .i64 l.inc, .slice a0 l.out.length ca0, .slice d0 l.inn.length cb0]) l to HO.out HI.out L0.out
  rw [HQ.out] at kk
  refine kk.mono ?_
  clear kk
  rintro e W3 ⟨r3, rfl, hO3, hB3⟩
  obtain ⟨sa3, sb3, rfl, oa3, ob3⟩ := hO3
  obtain ⟨a3, ca3, rfl⟩ := owns_shape oa3
  obtain ⟨d3, cb3, rfl⟩ := owns_shape ob3
  have L3n := Lib.hid (LkOwn.reads (l := k1) ⟨_, _, rfl, oa3, ob3⟩)
  have hs3 := hB3.size
  have q0 := cells3 (blk_keep b5.out hB3)
  have t0 := (Array.getElem?_eq_some_iff.1 (blk_keep b5.out hB3)).1
  have u0 := Nat.lt_succ_of_lt t0
  go_wp2_with fail
  clear q0 t0 u0
  obtain ⟨V3, hV3⟩ : ∃ V, V = (W3.alloc (.cells #[.int .i64 k1.inc, .slice a3 k1.out.length ca3, .slice d3 k1.inn.length cb3] 25)).alloc (.cells #[.int .i64 x1, .int .i64 x2] 27) := ⟨_, rfl⟩
  rw [← hV3]
  have f3 : Below W3.heap.size W3 V3 := by rw [hV3]; (repeat (first | (with_reducible exact Below.refl _ _) | (with_reducible assumption) | (with_reducible refine below_drewN ?_ _) | (with_reducible refine Below.drew ?_) | ((with_reducible refine Below.alloc ?_ ?_ _); rotate_left; focus (first | (with_reducible exact Nat.le_refl _) | omega | (simp; done) | (simp; omega))) | ((with_reducible refine Below.setCell (p := ⟨_, _, _⟩) ?_ ?_ _); rotate_left; focus (first | (with_reducible exact Nat.le_refl _) | omega | (simp; done) | (simp; omega)))))
  have g3 : Below V2.heap.size V2 V3 := hB3.trans (f3.mono hs3)
  have b2 := Lib.hid (blk_keep b2.out g3)
  have b5 := Lib.hid (blk_keep b5.out g3)
  have L0 := Lib.hid (LkR.below L0.out g3)
  have L2 := Lib.hid (LkR.below L2.out g3)
  have b6 := Lib.hid (by have := blk_old (.cells #[.int .i64 x1, .int .i64 x2] 27) (blk_new W3 (.cells #[.int .i64 k1.inc, .slice a3 k1.out.length ca3, .slice d3 k1.inn.length cb3] 25)); rw [← hV3] at this; exact this)
  have b7 := Lib.hid (by have := (show ((W3.alloc (.cells #[.int .i64 k1.inc, .slice a3 k1.out.length ca3, .slice d3 k1.inn.length cb3] 25)).alloc (.cells #[.int .i64 x1, .int .i64 x2] 27)).heap[W3.heap.size + 1]? = some (.cells #[.int .i64 x1, .int .i64 x2] 27) from by have := blk_new (W3.alloc (.cells #[.int .i64 k1.inc, .slice a3 k1.out.length ca3, .slice d3 k1.inn.length cb3] 25)) (.cells #[.int .i64 x1, .int .i64 x2] 27); rw [World.size_alloc] at this; exact this); rw [← hV3] at this; exact this)
  have L3 := Lib.hid (LkR.below L3n.out f3)
  clear L3n hV3 oa3 ob3
  have e3 := e2.trans (g3.mono e2.size)
  have kk := refSend_any V3 (.agg #[.int .i64 l.inc, .slice a2 l.out.length ca2, .slice d2 l.inn.length cb2]) l to HO.out HI.out L2.out
  rw [HQ.out] at kk
  refine kk.mono ?_
  clear kk
  rintro e W4 ⟨r4, rfl, hO4, hB4⟩
  obtain ⟨sa4, sb4, rfl, oa4, ob4⟩ := hO4
  obtain ⟨a4, ca4, rfl⟩ := owns_shape oa4
  obtain ⟨d4, cb4, rfl⟩ := owns_shape ob4
  have L4n := Lib.hid (LkOwn.reads (l := k1) ⟨_, _, rfl, oa4, ob4⟩)
  have hs4 := hB4.size
  have q0 := cells3 (blk_keep b2.out hB4)
  have t0 := (Array.getElem?_eq_some_iff.1 (blk_keep b2.out hB4)).1
  have u0 := Nat.lt_succ_of_lt t0
  go_wp2_with fail
  clear q0 t0 u0
  obtain ⟨V4, hV4⟩ : ∃ V, V = (W4.alloc (.cells #[.int .i64 k1.inc, .slice a4 k1.out.length ca4, .slice d4 k1.inn.length cb4] 25)).alloc (.cells #[.int .i64 x1, .int .i64 x2] 27) := ⟨_, rfl⟩
  rw [← hV4]
  have f4 : Below W4.heap.size W4 V4 := by rw [hV4]; (repeat (first | (with_reducible exact Below.refl _ _) | (with_reducible assumption) | (with_reducible refine below_drewN ?_ _) | (with_reducible refine Below.drew ?_) | ((with_reducible refine Below.alloc ?_ ?_ _); rotate_left; focus (first | (with_reducible exact Nat.le_refl _) | omega | (simp; done) | (simp; omega))) | ((with_reducible refine Below.setCell (p := ⟨_, _, _⟩) ?_ ?_ _); rotate_left; focus (first | (with_reducible exact Nat.le_refl _) | omega | (simp; done) | (simp; omega)))))
  have g4 : Below V3.heap.size V3 V4 := hB4.trans (f4.mono hs4)
  have b2 := Lib.hid (blk_keep b2.out g4)
  have b5 := Lib.hid (blk_keep b5.out g4)
  have b6 := Lib.hid (blk_keep b6.out g4)
  have b7 := Lib.hid (blk_keep b7.out g4)
  have L0 := Lib.hid (LkR.below L0.out g4)
  have L2 := Lib.hid (LkR.below L2.out g4)
  have L3 := Lib.hid (LkR.below L3.out g4)
  have b9 := Lib.hid (by have := blk_old (.cells #[.int .i64 x1, .int .i64 x2] 27) (blk_new W4 (.cells #[.int .i64 k1.inc, .slice a4 k1.out.length ca4, .slice d4 k1.inn.length cb4] 25)); rw [← hV4] at this; exact this)
  have b10 := Lib.hid (by have := (show ((W4.alloc (.cells #[.int .i64 k1.inc, .slice a4 k1.out.length ca4, .slice d4 k1.inn.length cb4] 25)).alloc (.cells #[.int .i64 x1, .int .i64 x2] 27)).heap[W4.heap.size + 1]? = some (.cells #[.int .i64 x1, .int .i64 x2] 27) from by have := blk_new (W4.alloc (.cells #[.int .i64 k1.inc, .slice a4 k1.out.length ca4, .slice d4 k1.inn.length cb4] 25)) (.cells #[.int .i64 x1, .int .i64 x2] 27); rw [World.size_alloc] at this; exact this); rw [← hV4] at this; exact this)
  have L4 := Lib.hid (LkR.below L4n.out f4)
  clear L4n hV4 oa4 ob4
  have e4 := e3.trans (g4.mono e3.size)
  have kk := restart_any V4 (.agg #[.int .i64 l.inc, .slice a0 l.out.length ca0, .slice d0 l.inn.length cb0]) l HO.out HI.out L0.out
  rw [HR.out] at kk
  refine kk.mono ?_
  clear kk
  rintro e W5 ⟨r5, rfl, hO5, hB5⟩
  obtain ⟨sa5, sb5, rfl, oa5, ob5⟩ := hO5
  obtain ⟨a5, ca5, rfl⟩ := owns_shape oa5
  obtain ⟨d5, cb5, rfl⟩ := owns_shape ob5
  have L5n := Lib.hid (LkOwn.reads (l := k2) ⟨_, _, rfl, oa5, ob5⟩)
  have hs5 := hB5.size
  have q0 := cells3 (blk_keep b5.out hB5)
  have t0 := (Array.getElem?_eq_some_iff.1 (blk_keep b5.out hB5)).1
  go_wp2_with fail
  clear q0 t0
  obtain ⟨V5, hV5⟩ : ∃ V, V = W5.alloc (.cells #[.int .i64 k2.inc, .slice a5 k2.out.length ca5, .slice d5 k2.inn.length cb5] 25) := ⟨_, rfl⟩
  rw [← hV5]
  have f5 : Below W5.heap.size W5 V5 := by rw [hV5]; (repeat (first | (with_reducible exact Below.refl _ _) | (with_reducible assumption) | (with_reducible refine below_drewN ?_ _) | (with_reducible refine Below.drew ?_) | ((with_reducible refine Below.alloc ?_ ?_ _); rotate_left; focus (first | (with_reducible exact Nat.le_refl _) | omega | (simp; done) | (simp; omega))) | ((with_reducible refine Below.setCell (p := ⟨_, _, _⟩) ?_ ?_ _); rotate_left; focus (first | (with_reducible exact Nat.le_refl _) | omega | (simp; done) | (simp; omega)))))
  have g5 : Below V4.heap.size V4 V5 := hB5.trans (f5.mono hs5)
  have b2 := Lib.hid (blk_keep b2.out g5)
  have b5 := Lib.hid (blk_keep b5.out g5)
  have b6 := Lib.hid (blk_keep b6.out g5)
  have b7 := Lib.hid (blk_keep b7.out g5)
  have b9 := Lib.hid (blk_keep b9.out g5)
  have b10 := Lib.hid (blk_keep b10.out g5)
  have L0 := Lib.hid (LkR.below L0.out g5)
  have L2 := Lib.hid (LkR.below L2.out g5)
  have L3 := Lib.hid (LkR.below L3.out g5)
  have L4 := Lib.hid (LkR.below L4.out g5)
  have b12 := Lib.hid (by have := blk_new W5 (.cells #[.int .i64 k2.inc, .slice a5 k2.out.length ca5, .slice d5 k2.inn.length cb5] 25); rw [← hV5] at this; exact this)
  have L5 := Lib.hid (LkR.below L5n.out f5)
  clear L5n hV5 oa5 ob5
  have e5 := e4.trans (g5.mono e4.size)
  have kk := refRestart_any V5 (.agg #[.int .i64 l.inc, .slice a2 l.out.length ca2, .slice d2 l.inn.length cb2]) l HO.out HI.out L2.out
  rw [HR.out] at kk
  refine kk.mono ?_
  clear kk
  rintro e W6 ⟨r6, rfl, hO6, hB6⟩
  obtain ⟨sa6, sb6, rfl, oa6, ob6⟩ := hO6
  obtain ⟨a6, ca6, rfl⟩ := owns_shape oa6
  obtain ⟨d6, cb6, rfl⟩ := owns_shape ob6
  have L6n := Lib.hid (LkOwn.reads (l := k2) ⟨_, _, rfl, oa6, ob6⟩)
  have hs6 := hB6.size
  have q0 := cells3 (blk_keep b6.out hB6)
  have t0 := (Array.getElem?_eq_some_iff.1 (blk_keep b6.out hB6)).1
  have q1 := cells3 (blk_keep b9.out hB6)
  have t1 := (Array.getElem?_eq_some_iff.1 (blk_keep b9.out hB6)).1
  go_wp2_with fail
  clear q0 t0 q1 t1
  obtain ⟨V6, hV6⟩ : ∃ V, V = W6.alloc (.cells #[.int .i64 k2.inc, .slice a6 k2.out.length ca6, .slice d6 k2.inn.length cb6] 25) := ⟨_, rfl⟩
  rw [← hV6]
  have f6 : Below W6.heap.size W6 V6 := by rw [hV6]; (repeat (first | (with_reducible exact Below.refl _ _) | (with_reducible assumption) | (with_reducible refine below_drewN ?_ _) | (with_reducible refine Below.drew ?_) | ((with_reducible refine Below.alloc ?_ ?_ _); rotate_left; focus (first | (with_reducible exact Nat.le_refl _) | omega | (simp; done) | (simp; omega))) | ((with_reducible refine Below.setCell (p := ⟨_, _, _⟩) ?_ ?_ _); rotate_left; focus (first | (with_reducible exact Nat.le_refl _) | omega | (simp; done) | (simp; omega)))))
  have g6 : Below V5.heap.size V5 V6 := hB6.trans (f6.mono hs6)
  have b2 := Lib.hid (blk_keep b2.out g6)
  have b5 := Lib.hid (blk_keep b5.out g6)
  have b6 := Lib.hid (blk_keep b6.out g6)
  have b7 := Lib.hid (blk_keep b7.out g6)
  have b9 := Lib.hid (blk_keep b9.out g6)
  have b10 := Lib.hid (blk_keep b10.out g6)
  have b12 := Lib.hid (blk_keep b12.out g6)
  have L0 := Lib.hid (LkR.below L0.out g6)
  have L2 := Lib.hid (LkR.below L2.out g6)
  have L3 := Lib.hid (LkR.below L3.out g6)
  have L4 := Lib.hid (LkR.below L4.out g6)
  have L5 := Lib.hid (LkR.below L5.out g6)
  have b14 := Lib.hid (by have := blk_new W6 (.cells #[.int .i64 k2.inc, .slice a6 k2.out.length ca6, .slice d6 k2.inn.length cb6] 25); rw [← hV6] at this; exact this)
  have L6 := Lib.hid (LkR.below L6n.out f6)
  clear L6n hV6 oa6 ob6
  have e6 := e5.trans (g6.mono e5.size)
  have kk := same_any V6 (.agg #[.int .i64 k1.inc, .slice a3 k1.out.length ca3, .slice d3 k1.inn.length cb3]) (.agg #[.int .i64 k1.inc, .slice a4 k1.out.length ca4, .slice d4 k1.inn.length cb4]) k1 k1 HQ1.out HQ2.out L3.out L4.out
  rw [sameB_refl] at kk
  refine kk.mono ?_
  clear kk
  rintro e W7 ⟨rfl, hB7⟩
  have hs7 := hB7.size
  have q0 := cells2 (blk_keep b7.out hB7)
  have q1 := cells2 (blk_keep b10.out hB7)
  have q2 := cells3 (blk_keep b12.out hB7)
  have q3 := cells3 (blk_keep b14.out hB7)
  go_wp2_with (go_at_call 11; refine (num_any _ _).mono ?_; rintro e w' ⟨rfl, rfl⟩)
  clear q0 q1 q2 q3
  have g7 := hB7
  have b2 := Lib.hid (blk_keep b2.out g7)
  have b5 := Lib.hid (blk_keep b5.out g7)
  have b6 := Lib.hid (blk_keep b6.out g7)
  have b7 := Lib.hid (blk_keep b7.out g7)
  have b9 := Lib.hid (blk_keep b9.out g7)
  have b10 := Lib.hid (blk_keep b10.out g7)
  have b12 := Lib.hid (blk_keep b12.out g7)
  have b14 := Lib.hid (blk_keep b14.out g7)
  have L0 := Lib.hid (LkR.below L0.out g7)
  have L2 := Lib.hid (LkR.below L2.out g7)
  have L3 := Lib.hid (LkR.below L3.out g7)
  have L4 := Lib.hid (LkR.below L4.out g7)
  have L5 := Lib.hid (LkR.below L5.out g7)
  have L6 := Lib.hid (LkR.below L6.out g7)
  have e7 := e6.trans (g7.mono e6.size)
  have kk := same_any W7 (.agg #[.int .i64 k2.inc, .slice a5 k2.out.length ca5, .slice d5 k2.inn.length cb5]) (.agg #[.int .i64 k2.inc, .slice a6 k2.out.length ca6, .slice d6 k2.inn.length cb6]) k2 k2 HR1.out HR2.out L5.out L6.out
  rw [sameB_refl] at kk
  refine kk.mono ?_
  clear kk
  rintro e W8 ⟨rfl, hB8⟩
  have hs8 := hB8.size
  have q0 := cells3 (blk_keep b2.out hB8)
  have q1 := cells3 (blk_keep b5.out hB8)
  go_wp2_with (go_at_call 11; refine (num_any _ _).mono ?_; rintro e w' ⟨rfl, rfl⟩)
  clear q0 q1
  have g8 := hB8
  have b2 := Lib.hid (blk_keep b2.out g8)
  have b5 := Lib.hid (blk_keep b5.out g8)
  have b6 := Lib.hid (blk_keep b6.out g8)
  have b7 := Lib.hid (blk_keep b7.out g8)
  have b9 := Lib.hid (blk_keep b9.out g8)
  have b10 := Lib.hid (blk_keep b10.out g8)
  have b12 := Lib.hid (blk_keep b12.out g8)
  have b14 := Lib.hid (blk_keep b14.out g8)
  have L0 := Lib.hid (LkR.below L0.out g8)
  have L2 := Lib.hid (LkR.below L2.out g8)
  have L3 := Lib.hid (LkR.below L3.out g8)
  have L4 := Lib.hid (LkR.below L4.out g8)
  have L5 := Lib.hid (LkR.below L5.out g8)
  have L6 := Lib.hid (LkR.below L6.out g8)
  have e8 := e7.trans (g8.mono e7.size)
  have kk := same_any W8 (.agg #[.int .i64 l.inc, .slice a0 l.out.length ca0, .slice d0 l.inn.length cb0]) (.agg #[.int .i64 l.inc, .slice a2 l.out.length ca2, .slice d2 l.inn.length cb2]) l l HO.out HI.out L0.out L2.out
  rw [sameB_refl] at kk
  refine kk.mono ?_
  clear kk
  rintro e W9 ⟨rfl, hB9⟩
  have g9 := hB9
  have e9 := e8.trans (g9.mono e8.size)
  clear b2 b5 b6 b7 b9 b10 b12 b14 L0 L2 L3 L4 L5 L6
  go_wp2_with fail
  have kk := works_any W9
  refine kk.mono ?_
  clear kk
  rintro e W10 ⟨rfl, hB10⟩
  have g10 := hB10
  have e10 := e9.trans (g10.mono e9.size)
  go_wp2
  go_light
  go_ret
  exact ⟨rfl, e10⟩

end Go.Proofs.Ytijifbkikgooiaa
