/- Link: LinkTakes, walked. -/
import Derived.Test.YtijifbkikgooiaaLinkR
import Derived.Test.YtijifbkikgooiaaLinkT
namespace Go.Proofs.Ytijifbkikgooiaa
open Go.RowKit Go.Shelf

theorem takeR_len (l : Lk) (fr : Int) (s : Int × Int) : (takeR l fr s).1.out.length ≤ l.out.length ∧ (takeR l fr s).1.inn.length ≤ l.inn.length := by
  unfold takeR
  split
  · simp [noL]
  · split
    · simp [noL]
    · split <;> simp

set_option maxHeartbeats 1000000 in
theorem takes_big (w : World) (i fr x1 x2 : Int) (a b : Option Addr) (n m c d : Nat) (h : (decide (n ≤ 100) && decide (m ≤ 100)) = false) :
    Calls Try.prog 5 #[.agg #[.int .i64 i, .slice a n c, .slice b m d], .int .i64 fr, .agg #[.int .i64 x1, .int .i64 x2]] w fun e w' => e = .returned (.bool true) ∧ Below w.heap.size w w' := by
  have H := Lib.hid h
  clear h
  go_enter Try.func5, Try.ntmps5
  go_wp2_with fail
  have kk := few_any ((w.alloc (.cells #[.int .i64 i, .slice a n c, .slice b m d] 25)).alloc (.cells #[.int .i64 x1, .int .i64 x2] 27)) (.int .i64 i) a b n m c d
  rw [H.out] at kk
  refine kk.mono ?_
  clear kk
  rintro e W1 ⟨rfl, hB1⟩
  have g0 : Below w.heap.size w ((w.alloc (.cells #[.int .i64 i, .slice a n c, .slice b m d] 25)).alloc (.cells #[.int .i64 x1, .int .i64 x2] 27)) := by (repeat (first | (with_reducible exact Below.refl _ _) | (with_reducible assumption) | (with_reducible refine below_drewN ?_ _) | (with_reducible refine Below.drew ?_) | ((with_reducible refine Below.alloc ?_ ?_ _); rotate_left; focus (first | (with_reducible exact Nat.le_refl _) | omega | (simp; done) | (simp; omega))) | ((with_reducible refine Below.setCell (p := ⟨_, _, _⟩) ?_ ?_ _); rotate_left; focus (first | (with_reducible exact Nat.le_refl _) | omega | (simp; done) | (simp; omega)))))
  have g1 := g0.trans (hB1.mono g0.size)
  go_wp2_with fail
  refine (works_any W1).mono ?_
  rintro e W2 ⟨rfl, hB2⟩
  have g2 := g1.trans (hB2.mono g1.size)
  go_wp2
  go_ret
  exact ⟨rfl, g2⟩

set_option maxRecDepth 100000 in
set_option maxHeartbeats 8000000 in
theorem takes_small (w : World) (v : Value) (l : Lk) (fr x1 x2 : Int) (ho : l.out.length ≤ 100) (hi : l.inn.length ≤ 100) (hl : LkR w v l) :
    Calls Try.prog 5 #[v, .int .i64 fr, .agg #[.int .i64 x1, .int .i64 x2]] w fun e w' => e = .returned (.bool true) ∧ Below w.heap.size w w' := by
  have L0 := Lib.hid hl
  have HO := Lib.hid (show l.out.length ≤ 1099511627776 by omega)
  have HI := Lib.hid (show l.inn.length ≤ 1099511627776 by omega)
  have HF := Lib.hid (show (decide (l.out.length ≤ 100) && decide (l.inn.length ≤ 100)) = true by simp; omega)
  obtain ⟨s1, s2, rfl, h1, h2⟩ := hl
  obtain ⟨a0, ca0, rfl⟩ := h1.shape
  obtain ⟨d0, cb0, rfl⟩ := h2.shape
  obtain ⟨q, hq⟩ : ∃ q, q = takeR l fr (x1, x2) := ⟨_, rfl⟩
  obtain ⟨k1, bt, n1⟩ := q
  have HQ := Lib.hid hq.symm
  have HQ1 := Lib.hid (show k1.out.length ≤ 1099511627776 by have := takeR_len l fr (x1, x2); rw [← hq] at this; dsimp only at this; omega)
  have HQ2 := Lib.hid (show k1.inn.length ≤ 1099511627776 by have := takeR_len l fr (x1, x2); rw [← hq] at this; dsimp only at this; omega)
  clear hq h1 h2 ho hi
  go_enter Try.func5, Try.ntmps5
  go_wp2_with fail
  obtain ⟨V0, hV0⟩ : ∃ V, V = (w.alloc (.cells #[.int .i64 l.inc, .slice a0 l.out.length ca0, .slice d0 l.inn.length cb0] 25)).alloc (.cells #[.int .i64 x1, .int .i64 x2] 27) := ⟨_, rfl⟩
  rw [← hV0]
  have e0 : Below w.heap.size w V0 := by rw [hV0]; (repeat (first | (with_reducible exact Below.refl _ _) | (with_reducible assumption) | (with_reducible refine below_drewN ?_ _) | (with_reducible refine Below.drew ?_) | ((with_reducible refine Below.alloc ?_ ?_ _); rotate_left; focus (first | (with_reducible exact Nat.le_refl _) | omega | (simp; done) | (simp; omega))) | ((with_reducible refine Below.setCell (p := ⟨_, _, _⟩) ?_ ?_ _); rotate_left; focus (first | (with_reducible exact Nat.le_refl _) | omega | (simp; done) | (simp; omega)))))
  have b3 := Lib.hid (by have := blk_old (.cells #[.int .i64 x1, .int .i64 x2] 27) (blk_new w (.cells #[.int .i64 l.inc, .slice a0 l.out.length ca0, .slice d0 l.inn.length cb0] 25)); rw [← hV0] at this; exact this)
  have b5 := Lib.hid (by have := (show ((w.alloc (.cells #[.int .i64 l.inc, .slice a0 l.out.length ca0, .slice d0 l.inn.length cb0] 25)).alloc (.cells #[.int .i64 x1, .int .i64 x2] 27)).heap[w.heap.size + 1]? = some (.cells #[.int .i64 x1, .int .i64 x2] 27) from by have := blk_new (w.alloc (.cells #[.int .i64 l.inc, .slice a0 l.out.length ca0, .slice d0 l.inn.length cb0] 25)) (.cells #[.int .i64 x1, .int .i64 x2] 27); rw [World.size_alloc] at this; exact this); rw [← hV0] at this; exact this)
  have L0 := Lib.hid (LkR.below L0.out e0)
  clear hV0
  have kk := few_any V0 (.int .i64 l.inc) a0 d0 l.out.length l.inn.length ca0 cb0
  rw [HF.out] at kk
  refine kk.mono ?_
  clear kk
  rintro e W1 ⟨rfl, hB1⟩
  have hs1 := hB1.size
  have q0 := cells3 (blk_keep b3.out hB1)
  go_wp2_with fail
  clear q0
  have g1 := hB1
  have b3 := Lib.hid (blk_keep b3.out g1)
  have b5 := Lib.hid (blk_keep b5.out g1)
  have L0 := Lib.hid (LkR.below L0.out g1)
  have e1 := e0.trans (g1.mono e0.size)
  have kk := copy_any W1 (.agg #[.int .i64 l.inc, .slice a0 l.out.length ca0, .slice d0 l.inn.length cb0]) l HO.out HI.out L0.out
  refine kk.mono ?_
  clear kk
  rintro e W2 ⟨r2, rfl, hO2, hB2⟩
  obtain ⟨sa2, sb2, rfl, oa2, ob2⟩ := hO2
  obtain ⟨a2, ca2, rfl⟩ := owns_shape oa2
  obtain ⟨d2, cb2, rfl⟩ := owns_shape ob2
  have L2n := Lib.hid (LkOwn.reads (l := l) ⟨_, _, rfl, oa2, ob2⟩)
  have hs2 := hB2.size
  have q0 := cells3 (blk_keep b3.out hB2)
  have t0 := (Array.getElem?_eq_some_iff.1 (blk_keep b3.out hB2)).1
  have q1 := cells2 (blk_keep b5.out hB2)
  have t1 := (Array.getElem?_eq_some_iff.1 (blk_keep b5.out hB2)).1
  go_wp2_with fail
  clear q0 t0 q1 t1
  obtain ⟨V2, hV2⟩ : ∃ V, V = W2.alloc (.cells #[.int .i64 l.inc, .slice a2 l.out.length ca2, .slice d2 l.inn.length cb2] 25) := ⟨_, rfl⟩
  rw [← hV2]
  have f2 : Below W2.heap.size W2 V2 := by rw [hV2]; (repeat (first | (with_reducible exact Below.refl _ _) | (with_reducible assumption) | (with_reducible refine below_drewN ?_ _) | (with_reducible refine Below.drew ?_) | ((with_reducible refine Below.alloc ?_ ?_ _); rotate_left; focus (first | (with_reducible exact Nat.le_refl _) | omega | (simp; done) | (simp; omega))) | ((with_reducible refine Below.setCell (p := ⟨_, _, _⟩) ?_ ?_ _); rotate_left; focus (first | (with_reducible exact Nat.le_refl _) | omega | (simp; done) | (simp; omega)))))
  have g2 : Below W1.heap.size W1 V2 := hB2.trans (f2.mono hs2)
  have b3 := Lib.hid (blk_keep b3.out g2)
  have b5 := Lib.hid (blk_keep b5.out g2)
  have L0 := Lib.hid (LkR.below L0.out g2)
  have b7 := Lib.hid (by have := blk_new W2 (.cells #[.int .i64 l.inc, .slice a2 l.out.length ca2, .slice d2 l.inn.length cb2] 25); rw [← hV2] at this; exact this)
  have L2 := Lib.hid (LkR.below L2n.out f2)
  clear L2n hV2 oa2 ob2
  have e2 := e1.trans (g2.mono e1.size)
  have kk := take_any V2 (.agg #[.int .i64 l.inc, .slice a0 l.out.length ca0, .slice d0 l.inn.length cb0]) l fr x1 x2 HO.out HI.out L0.out
  rw [HQ.out] at kk
  refine kk.mono ?_
  clear kk
  rintro e W3 ⟨r3, rfl, hO3, hB3⟩
  obtain ⟨sa3, sb3, rfl, oa3, ob3⟩ := hO3
  obtain ⟨a3, ca3, rfl⟩ := owns_shape oa3
  obtain ⟨d3, cb3, rfl⟩ := owns_shape ob3
  have L3n := Lib.hid (LkOwn.reads (l := k1) ⟨_, _, rfl, oa3, ob3⟩)
  have hs3 := hB3.size
  have q0 := cells3 (blk_keep b7.out hB3)
  have t0 := (Array.getElem?_eq_some_iff.1 (blk_keep b7.out hB3)).1
  have q1 := cells2 (blk_keep b5.out hB3)
  have t1 := (Array.getElem?_eq_some_iff.1 (blk_keep b5.out hB3)).1
  go_wp2_with fail
  clear q0 t0 q1 t1
  obtain ⟨V3, hV3⟩ : ∃ V, V = W3.alloc (.cells #[.int .i64 k1.inc, .slice a3 k1.out.length ca3, .slice d3 k1.inn.length cb3] 25) := ⟨_, rfl⟩
  rw [← hV3]
  have f3 : Below W3.heap.size W3 V3 := by rw [hV3]; (repeat (first | (with_reducible exact Below.refl _ _) | (with_reducible assumption) | (with_reducible refine below_drewN ?_ _) | (with_reducible refine Below.drew ?_) | ((with_reducible refine Below.alloc ?_ ?_ _); rotate_left; focus (first | (with_reducible exact Nat.le_refl _) | omega | (simp; done) | (simp; omega))) | ((with_reducible refine Below.setCell (p := ⟨_, _, _⟩) ?_ ?_ _); rotate_left; focus (first | (with_reducible exact Nat.le_refl _) | omega | (simp; done) | (simp; omega)))))
  have g3 : Below V2.heap.size V2 V3 := hB3.trans (f3.mono hs3)
  have b3 := Lib.hid (blk_keep b3.out g3)
  have b5 := Lib.hid (blk_keep b5.out g3)
  have b7 := Lib.hid (blk_keep b7.out g3)
  have L0 := Lib.hid (LkR.below L0.out g3)
  have L2 := Lib.hid (LkR.below L2.out g3)
  have b8 := Lib.hid (by have := blk_new W3 (.cells #[.int .i64 k1.inc, .slice a3 k1.out.length ca3, .slice d3 k1.inn.length cb3] 25); rw [← hV3] at this; exact this)
  have L3 := Lib.hid (LkR.below L3n.out f3)
  clear L3n hV3 oa3 ob3
  have e3 := e2.trans (g3.mono e2.size)
  have kk := refTake_any V3 (.agg #[.int .i64 l.inc, .slice a2 l.out.length ca2, .slice d2 l.inn.length cb2]) l fr x1 x2 HO.out HI.out L2.out
  rw [HQ.out] at kk
  refine kk.mono ?_
  clear kk
  rintro e W4 ⟨r4, rfl, hO4, hB4⟩
  obtain ⟨sa4, sb4, rfl, oa4, ob4⟩ := hO4
  obtain ⟨a4, ca4, rfl⟩ := owns_shape oa4
  obtain ⟨d4, cb4, rfl⟩ := owns_shape ob4
  have L4n := Lib.hid (LkOwn.reads (l := k1) ⟨_, _, rfl, oa4, ob4⟩)
  have hs4 := hB4.size
  have q0 := cells3 (blk_keep b8.out hB4)
  have t0 := (Array.getElem?_eq_some_iff.1 (blk_keep b8.out hB4)).1
  go_wp2_with fail
  clear q0 t0
  obtain ⟨V4, hV4⟩ : ∃ V, V = W4.alloc (.cells #[.int .i64 k1.inc, .slice a4 k1.out.length ca4, .slice d4 k1.inn.length cb4] 25) := ⟨_, rfl⟩
  rw [← hV4]
  have f4 : Below W4.heap.size W4 V4 := by rw [hV4]; (repeat (first | (with_reducible exact Below.refl _ _) | (with_reducible assumption) | (with_reducible refine below_drewN ?_ _) | (with_reducible refine Below.drew ?_) | ((with_reducible refine Below.alloc ?_ ?_ _); rotate_left; focus (first | (with_reducible exact Nat.le_refl _) | omega | (simp; done) | (simp; omega))) | ((with_reducible refine Below.setCell (p := ⟨_, _, _⟩) ?_ ?_ _); rotate_left; focus (first | (with_reducible exact Nat.le_refl _) | omega | (simp; done) | (simp; omega)))))
  have g4 : Below V3.heap.size V3 V4 := hB4.trans (f4.mono hs4)
  have b3 := Lib.hid (blk_keep b3.out g4)
  have b5 := Lib.hid (blk_keep b5.out g4)
  have b7 := Lib.hid (blk_keep b7.out g4)
  have b8 := Lib.hid (blk_keep b8.out g4)
  have L0 := Lib.hid (LkR.below L0.out g4)
  have L2 := Lib.hid (LkR.below L2.out g4)
  have L3 := Lib.hid (LkR.below L3.out g4)
  have b11 := Lib.hid (by have := blk_new W4 (.cells #[.int .i64 k1.inc, .slice a4 k1.out.length ca4, .slice d4 k1.inn.length cb4] 25); rw [← hV4] at this; exact this)
  have L4 := Lib.hid (LkR.below L4n.out f4)
  clear L4n hV4 oa4 ob4
  have e4 := e3.trans (g4.mono e3.size)
  have kk := same_any V4 (.agg #[.int .i64 k1.inc, .slice a3 k1.out.length ca3, .slice d3 k1.inn.length cb3]) (.agg #[.int .i64 k1.inc, .slice a4 k1.out.length ca4, .slice d4 k1.inn.length cb4]) k1 k1 HQ1.out HQ2.out L3.out L4.out
  rw [sameB_refl] at kk
  refine kk.mono ?_
  clear kk
  rintro e W5 ⟨rfl, hB5⟩
  have hs5 := hB5.size
  have q0 := cells3 (blk_keep b3.out hB5)
  have q1 := cells3 (blk_keep b7.out hB5)
  go_wp2_with (go_at_call 11; refine (num_any _ _).mono ?_; rintro e w' ⟨rfl, rfl⟩)
  clear q0 q1
  have g5 := hB5
  have b3 := Lib.hid (blk_keep b3.out g5)
  have b5 := Lib.hid (blk_keep b5.out g5)
  have b7 := Lib.hid (blk_keep b7.out g5)
  have b8 := Lib.hid (blk_keep b8.out g5)
  have b11 := Lib.hid (blk_keep b11.out g5)
  have L0 := Lib.hid (LkR.below L0.out g5)
  have L2 := Lib.hid (LkR.below L2.out g5)
  have L3 := Lib.hid (LkR.below L3.out g5)
  have L4 := Lib.hid (LkR.below L4.out g5)
  have e5 := e4.trans (g5.mono e4.size)
  have kk := same_any W5 (.agg #[.int .i64 l.inc, .slice a0 l.out.length ca0, .slice d0 l.inn.length cb0]) (.agg #[.int .i64 l.inc, .slice a2 l.out.length ca2, .slice d2 l.inn.length cb2]) l l HO.out HI.out L0.out L2.out
  rw [sameB_refl] at kk
  refine kk.mono ?_
  clear kk
  rintro e W6 ⟨rfl, hB6⟩
  have g6 := hB6
  have e6 := e5.trans (g6.mono e5.size)
  clear b3 b5 b7 b8 b11 L0 L2 L3 L4
  go_wp2_with fail
  have kk := works_any W6
  refine kk.mono ?_
  clear kk
  rintro e W7 ⟨rfl, hB7⟩
  have g7 := hB7
  have e7 := e6.trans (g7.mono e6.size)
  go_wp2
  go_light
  go_ret
  exact ⟨rfl, e7⟩

end Go.Proofs.Ytijifbkikgooiaa
