/- Reports: works, its tallies. -/
import Derived.Test.YtnkpmeplapkobaaRepM
import Derived.Test.YtnkpmeplapkobaaLib3
import Derived.Deep.RegionHeld3
namespace Go.Proofs.Ytnkpmeplapkobaa
open Go.RowKit Go.Shelf

theorem Sl.lit1R {W : World} {b : Nat} {x : Bool × Int} (h : W.heap[b]? = some (.cells #[.bool x.1, .int .i64 x.2] 42 (0, 0))) : Sl encR 2 W (.slice (some ⟨b, 0, none⟩) 1 1) [x] := by
  obtain ⟨h0, h1, _⟩ := cells2 h
  refine ⟨_, _, rfl, ⟨Nat.le_refl _, fun h => by cases h⟩, .inr ⟨b, 0, rfl, lt_of_block h, ?_⟩⟩
  intro i y hi j u hj
  match i, hi with
  | 0, hi =>
    cases hi
    match j, hj with
    | 0, hj => cases hj; exact h0
    | 1, hj => cases hj; exact h1
    | j + 2, hj => simp [encR] at hj
  | i + 1, hi => simp at hi
theorem Sl.lit1Rc {W : World} {b : Nat} {x : Bool × Int} (h0 : W.cell? ⟨b, 0, none⟩ = some (.bool x.1)) (h1 : W.cell? ⟨b, 1, none⟩ = some (.int .i64 x.2)) : Sl encR 2 W (.slice (some ⟨b, 0, none⟩) 1 1) [x] := by
  refine ⟨_, _, rfl, ⟨Nat.le_refl _, fun h => by cases h⟩, .inr ⟨b, 0, rfl, World.block_lt_of_cell? _ _ h0, ?_⟩⟩
  intro i y hi j u hj
  match i, hi with
  | 0, hi =>
    cases hi
    match j, hj with
    | 0, hj => cases hj; exact h0
    | 1, hj => cases hj; exact h1
    | j + 2, hj => simp [encR] at hj
  | i + 1, hi => simp at hi
theorem Sl.lit1B {W : World} {b : Nat} {x : Bk} (h : W.heap[b]? = some (.cells #[.int .i64 x.1, .int .i64 x.2.1, .int .i64 x.2.2] 44 (0, 0))) : Sl encB 3 W (.slice (some ⟨b, 0, none⟩) 1 1) [x] := by
  obtain ⟨h0, h1, h2, _⟩ := cells3 h
  refine ⟨_, _, rfl, ⟨Nat.le_refl _, fun h => by cases h⟩, .inr ⟨b, 0, rfl, lt_of_block h, ?_⟩⟩
  intro i y hi j u hj
  match i, hi with
  | 0, hi =>
    cases hi
    match j, hj with
    | 0, hj => cases hj; exact h0
    | 1, hj => cases hj; exact h1
    | 2, hj => cases hj; exact h2
    | j + 3, hj => simp [encB] at hj
  | i + 1, hi => simp at hi
/-- Three rows of one report each. -/
theorem rows3_lit {W : World} {b0 b1 b2 b : Nat} {x y z : Bool × Int} (h0 : W.heap[b0]? = some (.cells #[.bool x.1, .int .i64 x.2] 42 (0, 0))) (h1 : W.heap[b1]? = some (.cells #[.bool y.1, .int .i64 y.2] 42 (0, 0)))
    (h2 : W.heap[b2]? = some (.cells #[.bool z.1, .int .i64 z.2] 42 (0, 0))) (h : W.heap[b]? = some (.cells #[.slice (some ⟨b0, 0, none⟩) 1 1, .slice (some ⟨b1, 0, none⟩) 1 1, .slice (some ⟨b2, 0, none⟩) 1 1] 37 (0, 0))) :
    Rows2 W (.slice (some ⟨b, 0, none⟩) 3 3) [[x], [y], [z]] := by
  obtain ⟨c0, c1, c2, _⟩ := cells3 h
  refine ⟨[.slice (some ⟨b0, 0, none⟩) 1 1, .slice (some ⟨b1, 0, none⟩) 1 1, .slice (some ⟨b2, 0, none⟩) 1 1], ⟨_, _, rfl, ⟨Nat.le_refl _, fun h => by cases h⟩, .inr ⟨b, 0, rfl, lt_of_block h, ?_⟩⟩, rfl, ?_⟩
  · intro i y hi j u hj
    match j, hj with
    | 0, hj =>
      cases hj
      match i, hi with
      | 0, hi => cases hi; exact c0
      | 1, hi => cases hi; exact c1
      | 2, hi => cases hi; exact c2
      | i + 3, hi => simp at hi
    | j + 1, hj => simp [encV] at hj
  · intro i u xs hu hx
    match i, hu, hx with
    | 0, hu, hx => cases hu; cases hx; exact Sl.lit1R h0
    | 1, hu, hx => cases hu; cases hx; exact Sl.lit1R h1
    | 2, hu, hx => cases hu; cases hx; exact Sl.lit1R h2
    | i + 3, hu, hx => simp at hu
theorem decX_1 : decX 3 1 1 [[(false, 4)], [(false, 5)], [(false, 3)]] = ([(0, 1, 5)], 0) := by decide
theorem decX_2 : decX 3 1 1 [[(false, 4)], [(false, 5)], [(true, 6)]] = ([], 0) := by decide

theorem dec1_any (W : World) (v : Value) (hv : Rows2 W v [[(false, 4)], [(false, 5)], [(false, 3)]]) : Calls Try.prog 15 #[.agg #[.int .i64 3, .int .i64 1, .int .i64 1], .agg #[v]] W fun e W' => ∃ sv, e = .returned (.tuple #[sv, .int .i64 0]) ∧ Sl encB 3 W' sv [(0, 1, 5)] ∧ Below W.heap.size W W' := by
  have := decide_any 3 1 1 W v _ hv (by simp)
  rw [decX_1] at this
  exact this
theorem dec2_any (W : World) (v : Value) (hv : Rows2 W v [[(false, 4)], [(false, 5)], [(true, 6)]]) : Calls Try.prog 15 #[.agg #[.int .i64 3, .int .i64 1, .int .i64 1], .agg #[v]] W fun e W' => ∃ sv, e = .returned (.tuple #[sv, .int .i64 0]) ∧ Sl encB 3 W' sv [] ∧ Below W.heap.size W W' := by
  have := decide_any 3 1 1 W v _ hv (by simp)
  rw [decX_2] at this
  exact this

set_option maxRecDepth 100000 in
set_option maxHeartbeats 4000000 in
theorem works_any (w : World) : Calls Try.prog 8 #[] w fun e w' => e = .returned (.bool true) ∧ Below w.heap.size w w' := by
  go_enter Try.func8, Try.ntmps8
  go_wp2
  obtain ⟨Z, hZ⟩ : ∃ Z, Z = w.heap.size + 1 + 1 + 1 + 1 := ⟨_, rfl⟩
  obtain ⟨V3, hV3⟩ : ∃ V, V = (((w.alloc (.cells #[.bool false, .int .i64 4] 42)).alloc (.cells #[.bool false, .int .i64 5] 42)).alloc (.cells #[.bool false, .int .i64 3] 42)).alloc (.cells #[.slice (some ⟨w.heap.size, 0, none⟩) 1 1, .slice (some ⟨w.heap.size + 1, 0, none⟩) 1 1, .slice (some ⟨w.heap.size + 1 + 1, 0, none⟩) 1 1] 37) := ⟨_, rfl⟩
  obtain ⟨q0, q1, q2, q3⟩ := alloc4s w (.cells #[.bool false, .int .i64 4] 42) (.cells #[.bool false, .int .i64 5] 42) (.cells #[.bool false, .int .i64 3] 42) (.cells #[.slice (some ⟨w.heap.size, 0, none⟩) 1 1, .slice (some ⟨w.heap.size + 1, 0, none⟩) 1 1, .slice (some ⟨w.heap.size + 1 + 1, 0, none⟩) 1 1] 37)
  have E0 := below_alloc4s w (.cells #[.bool false, .int .i64 4] 42) (.cells #[.bool false, .int .i64 5] 42) (.cells #[.bool false, .int .i64 3] 42) (.cells #[.slice (some ⟨w.heap.size, 0, none⟩) 1 1, .slice (some ⟨w.heap.size + 1, 0, none⟩) 1 1, .slice (some ⟨w.heap.size + 1 + 1, 0, none⟩) 1 1] 37)
  rw [← hV3] at q0 q1 q2 q3 E0 ⊢
  have hs3 : V3.heap.size = w.heap.size + 1 + 1 + 1 + 1 := by rw [hV3]; simp
  rw [← hZ]
  obtain ⟨V, hV⟩ : ∃ V, V = V3.alloc (.cells #[.slice (some ⟨w.heap.size + 1 + 1 + 1, 0, none⟩) 3 3] 26) := ⟨_, rfl⟩
  rw [← hV]
  have E := Lib.hid (show Below w.heap.size w V by rw [hV]; have := E0; have := E0.size; (repeat (first | (with_reducible exact Below.refl _ _) | (with_reducible assumption) | (with_reducible refine below_drewN ?_ _) | (with_reducible refine Below.drew ?_) | ((with_reducible refine Below.alloc ?_ ?_ _); rotate_left; focus (first | (with_reducible exact Nat.le_refl _) | omega | (simp; done) | (simp; omega))) | ((with_reducible refine Below.setCell (p := ⟨_, _, _⟩) ?_ ?_ _); rotate_left; focus (first | (with_reducible exact Nat.le_refl _) | omega | (simp; done) | (simp; omega))))))
  have RT := Lib.hid (show Rows2 V (.slice (some ⟨w.heap.size + 1 + 1 + 1, 0, none⟩) 3 3) [[(false, 4)], [(false, 5)], [(false, 3)]] by rw [hV]; exact (rows3_lit q0 q1 q2 q3).below (by (repeat (first | (with_reducible exact Below.refl _ _) | (with_reducible assumption) | (with_reducible refine below_drewN ?_ _) | (with_reducible refine Below.drew ?_) | ((with_reducible refine Below.alloc ?_ ?_ _); rotate_left; focus (first | (with_reducible exact Nat.le_refl _) | omega | (simp; done) | (simp; omega))) | ((with_reducible refine Below.setCell (p := ⟨_, _, _⟩) ?_ ?_ _); rotate_left; focus (first | (with_reducible exact Nat.le_refl _) | omega | (simp; done) | (simp; omega)))))))
  have QT := Lib.hid (show V.heap[Z]? = some (.cells #[.slice (some ⟨w.heap.size + 1 + 1 + 1, 0, none⟩) 3 3] 26 (0, 0)) by rw [hV, hZ, ← hs3]; exact blk_new _ _)
  have pz := (cells1 QT.out).1
  have lz := lt_of_block QT.out
  clear hV q0 q1 q2 q3 E0 hV3 hs3 hZ
  have PB := Lib.hid (Below.refl V.heap.size V)
  obtain ⟨vt, hvt⟩ : ∃ vt : Value, vt = .slice (some ⟨w.heap.size + 1 + 1 + 1, 0, none⟩) 3 3 := ⟨_, rfl⟩
  go_region_held3 (fun w' => w'.cell? ⟨Z, 0, none⟩ = some (.slice (some ⟨w.heap.size + 1 + 1 + 1, 0, none⟩) 3 3)) (go_keep)
    (first
      | (go_at_call 26
         refine (shape_any _).mono ?_
         rintro e U ⟨rfl, hU⟩
         have PB := Lib.hid (Below.trans (by have := PB.out; repeat (first | (with_reducible exact Below.refl _ _) | (with_reducible assumption) | (with_reducible refine below_drewN ?_ _) | (with_reducible refine Below.drew ?_) | ((with_reducible refine Below.alloc ?_ ?_ _); rotate_left; focus (first | (with_reducible exact Nat.le_refl _) | omega | (simp; done) | (simp; omega))) | ((with_reducible refine Below.setCell (p := ⟨_, _, _⟩) ?_ ?_ _); rotate_left; focus (first | (with_reducible exact Nat.le_refl _) | omega | (simp; done) | (simp; omega))))) (hU.mono (by (try simp); try omega)) : Below V.heap.size V U)
         have zU := PB.out.size
         have cU := (bcell PB.out).1
         have lU : Z < U.heap.size := by omega)
      | (go_at_call 15
         refine (dec1_any _ _ (RT.out.below PB.out)).mono ?_
         rintro e Y ⟨sv, rfl, hSv, hY⟩
         have PY := Lib.hid (PB.out.trans (hY.mono PB.out.size) : Below V.heap.size V Y)
         have zY := PY.out.size
         have cY := (bcell PY.out).1
         have HSV := Lib.hid hSv))
  have E1 := Lib.hid (E.out.trans (PY.out.mono E.out.size))
  have RT := Lib.hid (RT.out.below PY.out)
  have QT := Lib.hid (blk_keep QT.out PY.out)
  obtain ⟨sa, sc, rfl⟩ := HSV.out.shape
  clear E PB zY cY pz lz PY hSv hY
  go_wp2_with fail
  refine (shape_any _).mono ?_
  rintro e Y2 ⟨rfl, hB2⟩
  have E2 := Lib.hid (E1.out.trans (hB2.mono E1.out.size))
  have RT := Lib.hid (RT.out.below hB2)
  have QT := Lib.hid (blk_keep QT.out hB2)
  have HSV := Lib.hid (HSV.out.below hB2)
  clear hB2
  go_wp2_with fail
  obtain ⟨q0, q1, q2, q3⟩ := alloc4s Y2 (.cells #[.bool false, .int .i64 4] 42) (.cells #[.bool false, .int .i64 5] 42) (.cells #[.bool true, .int .i64 6] 42) (.cells #[.slice (some ⟨Y2.heap.size, 0, none⟩) 1 1, .slice (some ⟨Y2.heap.size + 1, 0, none⟩) 1 1, .slice (some ⟨Y2.heap.size + 1 + 1, 0, none⟩) 1 1] 37)
  have E3 := below_alloc4s Y2 (.cells #[.bool false, .int .i64 4] 42) (.cells #[.bool false, .int .i64 5] 42) (.cells #[.bool true, .int .i64 6] 42) (.cells #[.slice (some ⟨Y2.heap.size, 0, none⟩) 1 1, .slice (some ⟨Y2.heap.size + 1, 0, none⟩) 1 1, .slice (some ⟨Y2.heap.size + 1 + 1, 0, none⟩) 1 1] 37)
  refine (dec2_any _ _ (rows3_lit q0 q1 q2 q3)).mono ?_
  rintro e Y4 ⟨sv4, rfl, hS4, hB4⟩
  have B4 := E3.trans (hB4.mono E3.size)
  have E4 := Lib.hid (E2.out.trans (B4.mono E2.out.size))
  have RT := Lib.hid (RT.out.below B4)
  have QT := Lib.hid (blk_keep QT.out B4)
  have HSV := Lib.hid (HSV.out.below B4)
  have HS4 := Lib.hid hS4
  obtain ⟨a4, c4, rfl⟩ := hS4.shape
  have pz := (cells1 QT.out).1
  have lz := lt_of_block QT.out
  clear q0 q1 q2 q3 E3 hB4 B4 hS4
  go_wp2
  go_cut [8] (fun s8 wx => s8 = .int .i64 270 ∧ Below Y4.heap.size Y4 wx)
  case first =>
    have PB := Lib.hid (Below.refl Y4.heap.size Y4)
    have n0 : ¬ Y4.heap.size = Z := by omega
    have n0' : ¬ Z = Y4.heap.size := by omega
    have n1 : ¬ Y4.heap.size + 1 = Z := by omega
    have n1' : ¬ Z = Y4.heap.size + 1 := by omega
    go_region_held3 (fun w' => w'.cell? ⟨Z, 0, none⟩ = some (.slice (some ⟨w.heap.size + 1 + 1 + 1, 0, none⟩) 3 3)) (go_keep)
      (first
        | (go_at_call 26
           refine (shape_any _).mono ?_
           rintro e U ⟨rfl, hU⟩
           have PB := Lib.hid (Below.trans (by have := PB.out; repeat (first | (with_reducible exact Below.refl _ _) | (with_reducible assumption) | (with_reducible refine below_drewN ?_ _) | (with_reducible refine Below.drew ?_) | ((with_reducible refine Below.alloc ?_ ?_ _); rotate_left; focus (first | (with_reducible exact Nat.le_refl _) | omega | (simp; done) | (simp; omega))) | ((with_reducible refine Below.setCell (p := ⟨_, _, _⟩) ?_ ?_ _); rotate_left; focus (first | (with_reducible exact Nat.le_refl _) | omega | (simp; done) | (simp; omega))))) (hU.mono (by (try simp); try omega)) : Below Y4.heap.size Y4 U)
           have zU := PB.out.size
           have cU := (bcell PB.out).1
           have n2 : ¬ U.heap.size = Z := by omega
           have n2' : ¬ Z = U.heap.size := by omega
           have n3 : ¬ U.heap.size + 1 = Z := by omega
           have n3' : ¬ Z = U.heap.size + 1 := by omega
           have zU2 := hU.size
           (try simp at zU2)
           (try (have zU3 := Nat.lt_of_succ_le zU2))
           (try (have zU4 : Y4.heap.size < U.heap.size := by omega))
           (try (have zU5 : Y4.heap.size + 1 < U.heap.size := by omega))
           obtain ⟨dU, fU⟩ := bcell hU)
        | (go_at_call 14
           refine (add_told 3 1 1 1 _ _ _ [[(false, 4)], [(false, 5)], [(false, 3)]] [(false, 5)] [(false, 5)] (RT.out.below (by have := PB.out; have := PB.out.size; repeat (first | (with_reducible exact Below.refl _ _) | (with_reducible assumption) | (with_reducible refine below_drewN ?_ _) | (with_reducible refine Below.drew ?_) | ((with_reducible refine Below.alloc ?_ ?_ _); rotate_left; focus (first | (with_reducible exact Nat.le_refl _) | omega | (simp; done) | (simp; omega))) | ((with_reducible refine Below.setCell (p := ⟨_, _, _⟩) ?_ ?_ _); rotate_left; focus (first | (with_reducible exact Nat.le_refl _) | omega | (simp; done) | (simp; omega)))))) (by simp) (Sl.lit1Rc (x := (false, 5)) (by go_simp) (by go_simp)) (by simp) (by decide) (by decide) (by decide) rfl rfl).mono ?_
           rintro e Y ⟨rfl, hY⟩
           have PB := Lib.hid (Below.trans (by have := PB.out; have := PB.out.size; repeat (first | (with_reducible exact Below.refl _ _) | (with_reducible assumption) | (with_reducible refine below_drewN ?_ _) | (with_reducible refine Below.drew ?_) | ((with_reducible refine Below.alloc ?_ ?_ _); rotate_left; focus (first | (with_reducible exact Nat.le_refl _) | omega | (simp; done) | (simp; omega))) | ((with_reducible refine Below.setCell (p := ⟨_, _, _⟩) ?_ ?_ _); rotate_left; focus (first | (with_reducible exact Nat.le_refl _) | omega | (simp; done) | (simp; omega))))) (hY.mono (by (try simp); try omega)) : Below Y4.heap.size Y4 Y)
           have zY := PB.out.size
           have cY := (bcell PB.out).1
           have n2 : ¬ Y.heap.size = Z := by omega
           have n2' : ¬ Z = Y.heap.size := by omega
           have zY2 := hY.size
           (try simp at zY2)
           (try (have zY3 := Nat.lt_of_succ_le zY2))
           (try (have zY4 : Y4.heap.size < Y.heap.size := by omega))
           (try (have zY5 : Y4.heap.size + 1 < Y.heap.size := by omega))
           obtain ⟨dY, fY⟩ := bcell hY))
    all_goals
      go_wp2_with fail
      go_meet
      refine ⟨rfl, ?_⟩
      go_light
      have := PB.out
      have := PB.out.size
      repeat (first | (with_reducible exact Below.refl _ _) | (with_reducible assumption) | (with_reducible refine below_drewN ?_ _) | (with_reducible refine Below.drew ?_) | ((with_reducible refine Below.alloc ?_ ?_ _); rotate_left; focus (first | (with_reducible exact Nat.le_refl _) | omega | (simp; done) | (simp; omega))) | ((with_reducible refine Below.setCell (p := ⟨_, _, _⟩) ?_ ?_ _); rotate_left; focus (first | (with_reducible exact Nat.le_refl _) | omega | (simp; done) | (simp; omega))))

  case rest =>
  obtain ⟨rfl, hB5⟩ := hcut
  obtain ⟨Y5, rfl⟩ : ∃ V' : World, V' = wc := ⟨_, rfl⟩
  have E5 := Lib.hid (E4.out.trans (hB5.mono E4.out.size))
  have HSV := Lib.hid (HSV.out.below hB5)
  clear hB5 pz lz
  go_wp2_with (go_at_call 13; (with_reducible refine (num_any _ _).mono ?_); rintro e w' ⟨rfl, rfl⟩)
  have hg : Below Y5.heap.size Y5 (Y5.alloc (.cells #[.int .i64 0, .int .i64 1, .int .i64 5] 44)) := by (repeat (first | (with_reducible exact Below.refl _ _) | (with_reducible assumption) | (with_reducible refine below_drewN ?_ _) | (with_reducible refine Below.drew ?_) | ((with_reducible refine Below.alloc ?_ ?_ _); rotate_left; focus (first | (with_reducible exact Nat.le_refl _) | omega | (simp; done) | (simp; omega))) | ((with_reducible refine Below.setCell (p := ⟨_, _, _⟩) ?_ ?_ _); rotate_left; focus (first | (with_reducible exact Nat.le_refl _) | omega | (simp; done) | (simp; omega)))))
  have E6 := Lib.hid (E5.out.trans (hg.mono E5.out.size))
  refine (same_any _ _ _ [(0, 1, 5)] [(0, 1, 5)] (by simp) (by simp) (HSV.out.below hg) (Sl.lit1B (x := (0, 1, 5)) (blk_new _ _))).mono ?_
  rintro e Y7 ⟨rfl, hB7⟩
  have E7 := Lib.hid (E6.out.trans (hB7.mono E6.out.size))
  clear hg hB7
  rw [show (decide (([(0, 1, 5)] : List Bk) = [(0, 1, 5)])) = true by decide]
  go_wp2_with (go_at_call 13; (with_reducible refine (num_any _ _).mono ?_); rintro e w' ⟨rfl, rfl⟩)
  go_ret
  exact ⟨rfl, E7.out⟩

end Go.Proofs.Ytnkpmeplapkobaa
