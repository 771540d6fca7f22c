/- Reports: shape; the reference's Same. -/
import Derived.Test.YtnkpmeplapkobaaRepL
import Derived.BigQuiet
namespace Go.Proofs.Ytnkpmeplapkobaa
open Go.RowKit Go.Shelf

set_option maxHeartbeats 400000 in
theorem shape_any (w : World) : Calls Try.prog 26 #[] w fun e w' => e = .returned (.agg #[.int .i64 3, .int .i64 1, .int .i64 1]) ∧ Below w.heap.size w w' := by
  go_enter Try.func26, Try.ntmps26
  go_wp2
  refine bodyPost_ret (v := .agg #[.int .i64 3, .int .i64 1, .int .i64 1]) ?_ rfl ⟨rfl, by (repeat (first | (with_reducible exact Below.refl _ _) | (with_reducible assumption) | (with_reducible refine below_drewN ?_ _) | (with_reducible refine Below.drew ?_) | ((with_reducible refine Below.alloc ?_ ?_ _); rotate_left; focus (first | (with_reducible exact Nat.le_refl _) | omega | (simp; done) | (simp; omega))) | ((with_reducible refine Below.setCell (p := ⟨_, _, _⟩) ?_ ?_ _); rotate_left; focus (first | (with_reducible exact Nat.le_refl _) | omega | (simp; done) | (simp; omega)))))⟩
  simp [results, Try.results26, go_sem]

theorem run_neq_back (x y : Bk) : ∀ W, (binOp .neq 44 (.agg #[.int .i64 x.1, .int .i64 x.2.1, .int .i64 x.2.2]) (.agg #[.int .i64 y.1, .int .i64 y.2.1, .int .i64 y.2.2])).run Try.prog W = .ok (.bool (decide (x ≠ y))) W := by
  intro W
  obtain ⟨x1, x2, x3⟩ := x
  obtain ⟨y1, y2, y3⟩ := y
  by_cases h1 : x1 = y1
  · by_cases h2 : x2 = y2
    · by_cases h3 : x3 = y3
      · subst h1; subst h2; subst h3
        go_simp
      · subst h1; subst h2
        go_simp
    · subst h1
      go_simp
  · go_simp

set_option maxRecDepth 100000 in
set_option maxHeartbeats 2000000 in
theorem same_any (w : World) (v u : Value) (xs ys : List Bk) (hl : xs.length ≤ 1099511627776) (hl2 : ys.length ≤ 1099511627776) (hv : Sl encB 3 w v xs) (hu : Sl encB 3 w u ys) :
    Calls Try.prog 16 #[v, u] w fun e w' => e = .returned (.bool (decide (xs = ys))) ∧ Below w.heap.size w w' := by
  have HV := Lib.hid hv
  have HU := Lib.hid hu
  obtain ⟨a, cap, rfl⟩ := hv.shape
  obtain ⟨b, cap2, rfl⟩ := hu.shape
  clear hv hu
  by_cases hlen : xs.length = ys.length
  · have HL := Lib.hid hlen
    go_enter Try.func16, Try.ntmps16
    rw [← hlen]
    clear hlen
    go_wp2
    go_loopg [5] (xs.length) (fun g v5 wr => ∃ k : Nat, g + k = xs.length ∧ v5 = .int .i64 k ∧ Below w.heap.size w wr ∧ xs.take k = ys.take k)
    case atStart => exact ⟨0, rfl, rfl, by (repeat (first | (with_reducible exact Below.refl _ _) | (with_reducible assumption) | (with_reducible refine below_drewN ?_ _) | (with_reducible refine Below.drew ?_) | ((with_reducible refine Below.alloc ?_ ?_ _); rotate_left; focus (first | (with_reducible exact Nat.le_refl _) | omega | (simp; done) | (simp; omega))) | ((with_reducible refine Below.setCell (p := ⟨_, _, _⟩) ?_ ?_ _); rotate_left; focus (first | (with_reducible exact Nat.le_refl _) | omega | (simp; done) | (simp; omega))))), rfl⟩
    case round =>
      obtain ⟨k, hk, rfl, hB, hT⟩ := hrel
      have HK := Lib.hid hk
      have HT := Lib.hid hT
      have EB := Lib.hid hB
      clear hk hT
      by_cases hlt : k < xs.length
      · obtain ⟨x, hx⟩ := at_some hlt
        obtain ⟨y, hy⟩ := at_some (xs := ys) (k := k) (by rw [← HL.out]; exact hlt)
        obtain ⟨b1, o1, c1, e1, hb1, hc1⟩ := HV.out.atB hlt
        obtain ⟨b2, o2, c2, e2, hb2, hc2⟩ := HU.out.atB (k := k) (by rw [← HL.out]; exact hlt)
        cases e1
        rw [← HL.out] at e2
        cases e2
        have x0 := (hB.cell (p := ⟨b1, o1 + k * 3, none⟩) hb1).trans (hc1 k x hx).1
        have x1 := (hB.cell (p := ⟨b1, o1 + k * 3 + 1, none⟩) hb1).trans (hc1 k x hx).2.1
        have x2 := (hB.cell (p := ⟨b1, o1 + k * 3 + 2, none⟩) hb1).trans (hc1 k x hx).2.2
        have y0 := (hB.cell (p := ⟨b2, o2 + k * 3, none⟩) hb2).trans (hc2 k y hy).1
        have y1 := (hB.cell (p := ⟨b2, o2 + k * 3 + 1, none⟩) hb2).trans (hc2 k y hy).2.1
        have y2 := (hB.cell (p := ⟨b2, o2 + k * 3 + 2, none⟩) hb2).trans (hc2 k y hy).2.2
        have i0 : (0 : Int) ≤ (k : Int) := by omega
        have HX := Lib.hid hx
        have HY := Lib.hid hy
        clear hc1 hc2 hx hy hB
        by_cases hxy : x = y
        · have rn : ∀ W, (binOp .neq 44 (.agg #[.int .i64 x.1, .int .i64 x.2.1, .int .i64 x.2.2]) (.agg #[.int .i64 y.1, .int .i64 y.2.1, .int .i64 y.2.2])).run Try.prog W = .ok (.bool false) W := by
            intro W; rw [run_neq_back]; simp [hxy]
          have HXY := Lib.hid hxy
          clear hxy
          go_wp2
          go_quiet (fail)
          go_wp2
          go_roundg (gk - 1)
          case measure => have := HK.out; omega
          case rel => exact ⟨k + 1, by have := HK.out; omega, by go_num, by have := EB.out; (repeat (first | (with_reducible exact Below.refl _ _) | (with_reducible assumption) | (with_reducible refine below_drewN ?_ _) | (with_reducible refine Below.drew ?_) | ((with_reducible refine Below.alloc ?_ ?_ _); rotate_left; focus (first | (with_reducible exact Nat.le_refl _) | omega | (simp; done) | (simp; omega))) | ((with_reducible refine Below.setCell (p := ⟨_, _, _⟩) ?_ ?_ _); rotate_left; focus (first | (with_reducible exact Nat.le_refl _) | omega | (simp; done) | (simp; omega))))), by rw [take_snoc HX.out, take_snoc HY.out, HT.out, HXY.out]⟩
        · have rn : ∀ W, (binOp .neq 44 (.agg #[.int .i64 x.1, .int .i64 x.2.1, .int .i64 x.2.2]) (.agg #[.int .i64 y.1, .int .i64 y.2.1, .int .i64 y.2.2])).run Try.prog W = .ok (.bool true) W := by
            intro W; rw [run_neq_back]; simp [hxy]
          have hD := Lib.hid (show ¬ xs = ys from fun h => hxy (by subst h; rw [HX.out] at HY; have := HY.out; cases this; rfl))
          clear hxy
          go_wp2
          go_quiet (fail)
          go_wp2
          go_ret
          exact ⟨ret_bool (by simp [hD.out]), by have := EB.out; (repeat (first | (with_reducible exact Below.refl _ _) | (with_reducible assumption) | (with_reducible refine below_drewN ?_ _) | (with_reducible refine Below.drew ?_) | ((with_reducible refine Below.alloc ?_ ?_ _); rotate_left; focus (first | (with_reducible exact Nat.le_refl _) | omega | (simp; done) | (simp; omega))) | ((with_reducible refine Below.setCell (p := ⟨_, _, _⟩) ?_ ?_ _); rotate_left; focus (first | (with_reducible exact Nat.le_refl _) | omega | (simp; done) | (simp; omega)))))⟩
      · have hD := Lib.hid (show xs = ys by have := HT.out; rwa [List.take_of_length_le (by omega), List.take_of_length_le (by have := HL.out; omega)] at this)
        go_wp2
        go_ret
        exact ⟨ret_bool (by simp [hD.out]), by have := EB.out; (repeat (first | (with_reducible exact Below.refl _ _) | (with_reducible assumption) | (with_reducible refine below_drewN ?_ _) | (with_reducible refine Below.drew ?_) | ((with_reducible refine Below.alloc ?_ ?_ _); rotate_left; focus (first | (with_reducible exact Nat.le_refl _) | omega | (simp; done) | (simp; omega))) | ((with_reducible refine Below.setCell (p := ⟨_, _, _⟩) ?_ ?_ _); rotate_left; focus (first | (with_reducible exact Nat.le_refl _) | omega | (simp; done) | (simp; omega)))))⟩
  · have hne : ((xs.length : Int) == (ys.length : Int)) = false := by simp; omega
    have hD := Lib.hid (show ¬ xs = ys from fun h => hlen (by rw [h]))
    go_enter Try.func16, Try.ntmps16
    go_wp2
    go_ret
    exact ⟨ret_bool (by simp [hD.out]), by (repeat (first | (with_reducible exact Below.refl _ _) | (with_reducible assumption) | (with_reducible refine below_drewN ?_ _) | (with_reducible refine Below.drew ?_) | ((with_reducible refine Below.alloc ?_ ?_ _); rotate_left; focus (first | (with_reducible exact Nat.le_refl _) | omega | (simp; done) | (simp; omega))) | ((with_reducible refine Below.setCell (p := ⟨_, _, _⟩) ?_ ?_ _); rotate_left; focus (first | (with_reducible exact Nat.le_refl _) | omega | (simp; done) | (simp; omega)))))⟩

end Go.Proofs.Ytnkpmeplapkobaa
