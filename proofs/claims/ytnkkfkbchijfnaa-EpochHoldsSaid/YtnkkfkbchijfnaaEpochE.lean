/- Epochs: the chapter's rows. -/
import Derived.Test.YtnkkfkbchijfnaaEpochD
import Derived.Deep.DeepCutAuto
import Derived.Deep.RegionHeld3
namespace Go.Proofs.Ytnkkfkbchijfnaa
open Go.RowKit Go.Shelf

set_option maxRecDepth 100000 in
set_option maxHeartbeats 4000000 in
theorem works_any (w : World) :
    Calls Try.prog 11 #[] w fun e w' => e = .returned (.bool true) ∧ Below w.heap.size w w' := by
  go_enter Try.func11, Try.ntmps11
  go_wp2_with fail
  refine (shape_any _).mono ?_
  rintro e W1 ⟨rfl, hB1⟩
  go_wp2_with fail
  have kk := next_any 3 1 1 4 2 0 W1
  rw [show nextR 3 1 1 (4, 2) 0 = ((5, 0), 0) from by decide] at kk
  refine kk.mono ?_
  clear kk
  rintro e W2 ⟨rfl, hB2⟩
  have E2 := hB1.trans (hB2.mono hB1.size)
  go_upto_region 3 with fail
  obtain ⟨V, hV⟩ : ∃ V, V = (W2.alloc (.cells #[.int .i64 5, .int .i64 0] 25)).alloc (.cells #[.int .i64 4, .int .i64 1, .bool false] 27) := ⟨_, rfl⟩
  rw [← hV]
  obtain ⟨T1, hT1⟩ : ∃ T, T = W2.heap.size := ⟨_, rfl⟩
  rw [← hT1]
  have E : Below w.heap.size w V := by rw [hV]; have := E2.size; (repeat (first | (with_reducible exact Below.refl _ _) | (with_reducible assumption) | (with_reducible refine below_drewN ?_ _) | (with_reducible refine Below.drew ?_) | ((with_reducible refine Below.alloc ?_ ?_ _); rotate_left; focus (first | (with_reducible exact Nat.le_refl _) | omega | (simp; done) | (simp; omega))) | ((with_reducible refine Below.setCell (p := ⟨_, _, _⟩) ?_ ?_ _); rotate_left; focus (first | (with_reducible exact Nat.le_refl _) | omega | (simp; done) | (simp; omega)))))
  have a0 : V.cell? ⟨T1, 0, none⟩ = some (.int .i64 5) := by rw [hV, hT1]; go_simp
  have a1 : V.cell? ⟨T1, 1, none⟩ = some (.int .i64 0) := by rw [hV, hT1]; go_simp
  have b0 : V.cell? ⟨T1 + 1, 0, none⟩ = some (.int .i64 4) := by rw [hV, hT1]; go_simp
  have b1 : V.cell? ⟨T1 + 1, 1, none⟩ = some (.int .i64 1) := by rw [hV, hT1]; go_simp
  have b2 : V.cell? ⟨T1 + 1, 2, none⟩ = some (.bool false) := by rw [hV, hT1]; go_simp
  have l1 : T1 + 1 < V.heap.size := by rw [hV, hT1]; simp
  have l0 : T1 < V.heap.size := by omega
  clear hV hT1 E2 hB1 hB2
  have kk := fun W : World => ask_any 3 1 1 4 1 4 2 false W
  rw [show askR 3 1 1 ((4, 1), false) (4, 2) = (((4, 2), true), true, 0) from by decide] at kk
  have KK := Lib.hid kk
  have ES := Lib.hid E
  clear kk
  go_cut [4, 5, 6] (fun s4 s5 s6 wx => ∃ Z, s4 = .pointer (some ⟨Z, 0, none⟩) ∧ s5 = .bool true ∧ s6 = .int .i64 0 ∧ (wx.cell? ⟨Z, 0, none⟩ = some (.int .i64 4) ∧ wx.cell? ⟨Z, 1, none⟩ = some (.int .i64 2) ∧ wx.cell? ⟨Z, 2, none⟩ = some (.bool true)) ∧ (V.heap.size ≤ Z ∧ Z < wx.heap.size) ∧ Below V.heap.size V wx)
  case first =>
    have PB := Lib.hid (Below.refl V.heap.size V)
    clear E
    have n0 : ¬ V.heap.size = T1 + 1 := by omega
    have n0' : ¬ T1 + 1 = V.heap.size := by omega
    go_region_held3 (fun w' => w'.cell? ⟨T1 + 1, 0, none⟩ = some (.int .i64 4) ∧ w'.cell? ⟨T1 + 1, 1, none⟩ = some (.int .i64 1) ∧ w'.cell? ⟨T1 + 1, 2, none⟩ = some (.bool false)) (go_keep)
      (first
        | (go_at_call 20
           refine (shape_any _).mono ?_
           rintro e U ⟨rfl, hU⟩
           have PB := Lib.hid (Below.trans (by have := PB.out; repeat (first | (with_reducible exact Below.refl _ _) | (with_reducible assumption) | (with_reducible refine below_drewN ?_ _) | (with_reducible refine Below.drew ?_) | ((with_reducible refine Below.alloc ?_ ?_ _); rotate_left; focus (first | (with_reducible exact Nat.le_refl _) | omega | (simp; done) | (simp; omega))) | ((with_reducible refine Below.setCell (p := ⟨_, _, _⟩) ?_ ?_ _); rotate_left; focus (first | (with_reducible exact Nat.le_refl _) | omega | (simp; done) | (simp; omega))))) (hU.mono (by (try simp); try omega)) : Below V.heap.size V U)
           have zU := PB.out.size
           have cU := (bcell PB.out).1
           have n1 : ¬ U.heap.size = T1 + 1 := by omega
           have n1' : ¬ T1 + 1 = U.heap.size := by omega
           have zU2 := hU.size
           (try simp at zU2)
           (try (have zU3 := Nat.lt_of_succ_le zU2))
           obtain ⟨dU, fU⟩ := bcell hU)
        | (go_at_call 6
           refine (KK.out _).mono ?_
           rintro e Y ⟨rfl, hY⟩
           have PB := Lib.hid (Below.trans (by have := PB.out; repeat (first | (with_reducible exact Below.refl _ _) | (with_reducible assumption) | (with_reducible refine below_drewN ?_ _) | (with_reducible refine Below.drew ?_) | ((with_reducible refine Below.alloc ?_ ?_ _); rotate_left; focus (first | (with_reducible exact Nat.le_refl _) | omega | (simp; done) | (simp; omega))) | ((with_reducible refine Below.setCell (p := ⟨_, _, _⟩) ?_ ?_ _); rotate_left; focus (first | (with_reducible exact Nat.le_refl _) | omega | (simp; done) | (simp; omega))))) (hY.mono (by (try simp); try omega)) : Below V.heap.size V Y)
           have zY := PB.out.size
           have cY := (bcell PB.out).1
           have zY2 := hY.size
           (try simp at zY2)
           (try (have zY3 := Nat.lt_of_succ_le zY2))
           obtain ⟨dY, fY⟩ := bcell hY))
    all_goals
      go_wp2_with fail
      go_meet
      refine ⟨_, rfl, rfl, rfl, ?_, ?_, ?_⟩
      · go_light
        refine ⟨?_, ?_, ?_⟩ <;> go_simp
      · go_light
        simp
        try omega
      · go_light
        have := PB.out
        repeat (first | (with_reducible exact Below.refl _ _) | (with_reducible assumption) | (with_reducible refine below_drewN ?_ _) | (with_reducible refine Below.drew ?_) | ((with_reducible refine Below.alloc ?_ ?_ _); rotate_left; focus (first | (with_reducible exact Nat.le_refl _) | omega | (simp; done) | (simp; omega))) | ((with_reducible refine Below.setCell (p := ⟨_, _, _⟩) ?_ ?_ _); rotate_left; focus (first | (with_reducible exact Nat.le_refl _) | omega | (simp; done) | (simp; omega))))

  case rest =>
  obtain ⟨Z4, rfl, rfl, rfl, ⟨z0, z1, z2⟩, ⟨zl, zh⟩, PB⟩ := hcut
  obtain ⟨V3, rfl⟩ : ∃ V' : World, V' = wc := ⟨_, rfl⟩
  have zS := PB.size
  have E := E.trans (PB.mono E.size)
  have a0 := (PB.cell (p := ⟨T1, 0, none⟩) (by dsimp only; omega)).trans a0
  have a1 := (PB.cell (p := ⟨T1, 1, none⟩) (by dsimp only; omega)).trans a1
  have b0 := (PB.cell (p := ⟨T1 + 1, 0, none⟩) (by dsimp only; omega)).trans b0
  have b1 := (PB.cell (p := ⟨T1 + 1, 1, none⟩) (by dsimp only; omega)).trans b1
  have b2 := (PB.cell (p := ⟨T1 + 1, 2, none⟩) (by dsimp only; omega)).trans b2
  have zZ40 := z0
  clear z0
  have zZ41 := z1
  clear z1
  have zZ42 := z2
  clear z2
  have lZ4 : Z4 < V3.heap.size := by omega
  have l1 : T1 + 1 < V3.heap.size := by omega
  have l0 : T1 < V3.heap.size := by omega
  clear PB KK ES
  go_upto_region 4 with fail
  have kk := fun W : World => ask_any 3 1 1 4 1 4 0 false W
  rw [show askR 3 1 1 ((4, 1), false) (4, 0) = (((4, 1), false), false, 0) from by decide] at kk
  have KK := Lib.hid kk
  have ES := Lib.hid E
  clear kk
  go_cut [7, 8, 9] (fun s4 s5 s6 wx => ∃ Z, s4 = .pointer (some ⟨Z, 0, none⟩) ∧ s5 = .bool false ∧ s6 = .int .i64 0 ∧ (wx.cell? ⟨Z, 0, none⟩ = some (.int .i64 4) ∧ wx.cell? ⟨Z, 1, none⟩ = some (.int .i64 1) ∧ wx.cell? ⟨Z, 2, none⟩ = some (.bool false)) ∧ (V3.heap.size ≤ Z ∧ Z < wx.heap.size) ∧ Below V3.heap.size V3 wx)
  case first =>
    have PB := Lib.hid (Below.refl V3.heap.size V3)
    clear E
    have n0 : ¬ V3.heap.size = T1 + 1 := by omega
    have n0' : ¬ T1 + 1 = V3.heap.size := by omega
    go_region_held3 (fun w' => w'.cell? ⟨T1 + 1, 0, none⟩ = some (.int .i64 4) ∧ w'.cell? ⟨T1 + 1, 1, none⟩ = some (.int .i64 1) ∧ w'.cell? ⟨T1 + 1, 2, none⟩ = some (.bool false)) (go_keep)
      (first
        | (go_at_call 20
           refine (shape_any _).mono ?_
           rintro e U ⟨rfl, hU⟩
           have PB := Lib.hid (Below.trans (by have := PB.out; repeat (first | (with_reducible exact Below.refl _ _) | (with_reducible assumption) | (with_reducible refine below_drewN ?_ _) | (with_reducible refine Below.drew ?_) | ((with_reducible refine Below.alloc ?_ ?_ _); rotate_left; focus (first | (with_reducible exact Nat.le_refl _) | omega | (simp; done) | (simp; omega))) | ((with_reducible refine Below.setCell (p := ⟨_, _, _⟩) ?_ ?_ _); rotate_left; focus (first | (with_reducible exact Nat.le_refl _) | omega | (simp; done) | (simp; omega))))) (hU.mono (by (try simp); try omega)) : Below V3.heap.size V3 U)
           have zU := PB.out.size
           have cU := (bcell PB.out).1
           have n1 : ¬ U.heap.size = T1 + 1 := by omega
           have n1' : ¬ T1 + 1 = U.heap.size := by omega
           have zU2 := hU.size
           (try simp at zU2)
           (try (have zU3 := Nat.lt_of_succ_le zU2))
           obtain ⟨dU, fU⟩ := bcell hU)
        | (go_at_call 6
           refine (KK.out _).mono ?_
           rintro e Y ⟨rfl, hY⟩
           have PB := Lib.hid (Below.trans (by have := PB.out; repeat (first | (with_reducible exact Below.refl _ _) | (with_reducible assumption) | (with_reducible refine below_drewN ?_ _) | (with_reducible refine Below.drew ?_) | ((with_reducible refine Below.alloc ?_ ?_ _); rotate_left; focus (first | (with_reducible exact Nat.le_refl _) | omega | (simp; done) | (simp; omega))) | ((with_reducible refine Below.setCell (p := ⟨_, _, _⟩) ?_ ?_ _); rotate_left; focus (first | (with_reducible exact Nat.le_refl _) | omega | (simp; done) | (simp; omega))))) (hY.mono (by (try simp); try omega)) : Below V3.heap.size V3 Y)
           have zY := PB.out.size
           have cY := (bcell PB.out).1
           have zY2 := hY.size
           (try simp at zY2)
           (try (have zY3 := Nat.lt_of_succ_le zY2))
           obtain ⟨dY, fY⟩ := bcell hY))
    all_goals
      go_wp2_with fail
      go_meet
      refine ⟨_, rfl, rfl, rfl, ?_, ?_, ?_⟩
      · go_light
        refine ⟨?_, ?_, ?_⟩ <;> go_simp
      · go_light
        simp
        try omega
      · go_light
        have := PB.out
        repeat (first | (with_reducible exact Below.refl _ _) | (with_reducible assumption) | (with_reducible refine below_drewN ?_ _) | (with_reducible refine Below.drew ?_) | ((with_reducible refine Below.alloc ?_ ?_ _); rotate_left; focus (first | (with_reducible exact Nat.le_refl _) | omega | (simp; done) | (simp; omega))) | ((with_reducible refine Below.setCell (p := ⟨_, _, _⟩) ?_ ?_ _); rotate_left; focus (first | (with_reducible exact Nat.le_refl _) | omega | (simp; done) | (simp; omega))))

  case rest =>
  obtain ⟨Z7, rfl, rfl, rfl, ⟨z0, z1, z2⟩, ⟨zl, zh⟩, PB⟩ := hcut
  obtain ⟨V4, rfl⟩ : ∃ V' : World, V' = wc := ⟨_, rfl⟩
  have zS := PB.size
  have E := E.trans (PB.mono E.size)
  have a0 := (PB.cell (p := ⟨T1, 0, none⟩) (by dsimp only; omega)).trans a0
  have a1 := (PB.cell (p := ⟨T1, 1, none⟩) (by dsimp only; omega)).trans a1
  have b0 := (PB.cell (p := ⟨T1 + 1, 0, none⟩) (by dsimp only; omega)).trans b0
  have b1 := (PB.cell (p := ⟨T1 + 1, 1, none⟩) (by dsimp only; omega)).trans b1
  have b2 := (PB.cell (p := ⟨T1 + 1, 2, none⟩) (by dsimp only; omega)).trans b2
  have zZ40 := (PB.cell (p := ⟨Z4, 0, none⟩) (by dsimp only; omega)).trans zZ40
  have zZ41 := (PB.cell (p := ⟨Z4, 1, none⟩) (by dsimp only; omega)).trans zZ41
  have zZ42 := (PB.cell (p := ⟨Z4, 2, none⟩) (by dsimp only; omega)).trans zZ42
  have zZ70 := z0
  clear z0
  have zZ71 := z1
  clear z1
  have zZ72 := z2
  clear z2
  have lZ4 : Z4 < V4.heap.size := by omega
  have lZ7 : Z7 < V4.heap.size := by omega
  have l1 : T1 + 1 < V4.heap.size := by omega
  have l0 : T1 < V4.heap.size := by omega
  clear PB KK ES
  go_upto_region 5 with fail
  have kk := fun W : World => hear_any 3 1 1 4 2 4 2 true W
  rw [show hearR 3 1 1 ((4, 2), true) (4, 2) = (((4, 2), false), true, 0) from by decide] at kk
  have KK := Lib.hid kk
  have ES := Lib.hid E
  clear kk
  go_cut [10, 11, 12] (fun s4 s5 s6 wx => ∃ Z, s4 = .pointer (some ⟨Z, 0, none⟩) ∧ s5 = .bool true ∧ s6 = .int .i64 0 ∧ (wx.cell? ⟨Z, 0, none⟩ = some (.int .i64 4) ∧ wx.cell? ⟨Z, 1, none⟩ = some (.int .i64 2) ∧ wx.cell? ⟨Z, 2, none⟩ = some (.bool false)) ∧ (V4.heap.size ≤ Z ∧ Z < wx.heap.size) ∧ Below V4.heap.size V4 wx)
  case first =>
    have PB := Lib.hid (Below.refl V4.heap.size V4)
    clear E
    have n0 : ¬ V4.heap.size = Z4 := by omega
    have n0' : ¬ Z4 = V4.heap.size := by omega
    go_region_held3 (fun w' => w'.cell? ⟨Z4, 0, none⟩ = some (.int .i64 4) ∧ w'.cell? ⟨Z4, 1, none⟩ = some (.int .i64 2) ∧ w'.cell? ⟨Z4, 2, none⟩ = some (.bool true)) (go_keep)
      (first
        | (go_at_call 20
           refine (shape_any _).mono ?_
           rintro e U ⟨rfl, hU⟩
           have PB := Lib.hid (Below.trans (by have := PB.out; repeat (first | (with_reducible exact Below.refl _ _) | (with_reducible assumption) | (with_reducible refine below_drewN ?_ _) | (with_reducible refine Below.drew ?_) | ((with_reducible refine Below.alloc ?_ ?_ _); rotate_left; focus (first | (with_reducible exact Nat.le_refl _) | omega | (simp; done) | (simp; omega))) | ((with_reducible refine Below.setCell (p := ⟨_, _, _⟩) ?_ ?_ _); rotate_left; focus (first | (with_reducible exact Nat.le_refl _) | omega | (simp; done) | (simp; omega))))) (hU.mono (by (try simp); try omega)) : Below V4.heap.size V4 U)
           have zU := PB.out.size
           have cU := (bcell PB.out).1
           have n1 : ¬ U.heap.size = Z4 := by omega
           have n1' : ¬ Z4 = U.heap.size := by omega
           have zU2 := hU.size
           (try simp at zU2)
           (try (have zU3 := Nat.lt_of_succ_le zU2))
           obtain ⟨dU, fU⟩ := bcell hU)
        | (go_at_call 8
           refine (KK.out _).mono ?_
           rintro e Y ⟨rfl, hY⟩
           have PB := Lib.hid (Below.trans (by have := PB.out; repeat (first | (with_reducible exact Below.refl _ _) | (with_reducible assumption) | (with_reducible refine below_drewN ?_ _) | (with_reducible refine Below.drew ?_) | ((with_reducible refine Below.alloc ?_ ?_ _); rotate_left; focus (first | (with_reducible exact Nat.le_refl _) | omega | (simp; done) | (simp; omega))) | ((with_reducible refine Below.setCell (p := ⟨_, _, _⟩) ?_ ?_ _); rotate_left; focus (first | (with_reducible exact Nat.le_refl _) | omega | (simp; done) | (simp; omega))))) (hY.mono (by (try simp); try omega)) : Below V4.heap.size V4 Y)
           have zY := PB.out.size
           have cY := (bcell PB.out).1
           have zY2 := hY.size
           (try simp at zY2)
           (try (have zY3 := Nat.lt_of_succ_le zY2))
           obtain ⟨dY, fY⟩ := bcell hY))
    all_goals
      go_wp2_with fail
      go_meet
      refine ⟨_, rfl, rfl, rfl, ?_, ?_, ?_⟩
      · go_light
        refine ⟨?_, ?_, ?_⟩ <;> go_simp
      · go_light
        simp
        try omega
      · go_light
        have := PB.out
        repeat (first | (with_reducible exact Below.refl _ _) | (with_reducible assumption) | (with_reducible refine below_drewN ?_ _) | (with_reducible refine Below.drew ?_) | ((with_reducible refine Below.alloc ?_ ?_ _); rotate_left; focus (first | (with_reducible exact Nat.le_refl _) | omega | (simp; done) | (simp; omega))) | ((with_reducible refine Below.setCell (p := ⟨_, _, _⟩) ?_ ?_ _); rotate_left; focus (first | (with_reducible exact Nat.le_refl _) | omega | (simp; done) | (simp; omega))))

  case rest =>
  obtain ⟨Z10, rfl, rfl, rfl, ⟨z0, z1, z2⟩, ⟨zl, zh⟩, PB⟩ := hcut
  obtain ⟨V5, rfl⟩ : ∃ V' : World, V' = wc := ⟨_, rfl⟩
  have zS := PB.size
  have E := E.trans (PB.mono E.size)
  have a0 := (PB.cell (p := ⟨T1, 0, none⟩) (by dsimp only; omega)).trans a0
  have a1 := (PB.cell (p := ⟨T1, 1, none⟩) (by dsimp only; omega)).trans a1
  have b0 := (PB.cell (p := ⟨T1 + 1, 0, none⟩) (by dsimp only; omega)).trans b0
  have b1 := (PB.cell (p := ⟨T1 + 1, 1, none⟩) (by dsimp only; omega)).trans b1
  have b2 := (PB.cell (p := ⟨T1 + 1, 2, none⟩) (by dsimp only; omega)).trans b2
  have zZ40 := (PB.cell (p := ⟨Z4, 0, none⟩) (by dsimp only; omega)).trans zZ40
  have zZ41 := (PB.cell (p := ⟨Z4, 1, none⟩) (by dsimp only; omega)).trans zZ41
  have zZ42 := (PB.cell (p := ⟨Z4, 2, none⟩) (by dsimp only; omega)).trans zZ42
  have zZ70 := (PB.cell (p := ⟨Z7, 0, none⟩) (by dsimp only; omega)).trans zZ70
  have zZ71 := (PB.cell (p := ⟨Z7, 1, none⟩) (by dsimp only; omega)).trans zZ71
  have zZ72 := (PB.cell (p := ⟨Z7, 2, none⟩) (by dsimp only; omega)).trans zZ72
  have zZ100 := z0
  clear z0
  have zZ101 := z1
  clear z1
  have zZ102 := z2
  clear z2
  have lZ4 : Z4 < V5.heap.size := by omega
  have lZ7 : Z7 < V5.heap.size := by omega
  have lZ10 : Z10 < V5.heap.size := by omega
  have l1 : T1 + 1 < V5.heap.size := by omega
  have l0 : T1 < V5.heap.size := by omega
  clear PB KK ES
  go_wp2_with (go_at_call 10; refine (num_any _ _).mono ?_; rintro e w' ⟨rfl, rfl⟩)
  have kk := order_any 5 0 4 2 V5
  rw [show ordS (5, 0) (4, 2) = 1 from by decide] at kk
  refine kk.mono ?_
  clear kk
  rintro e U ⟨rfl, hU⟩
  have zU := hU.size
  go_wp2_with fail
  refine (latest_none U).mono ?_
  rintro e Y ⟨rfl, hY⟩
  have hV : Below V5.heap.size V5 Y := hU.trans (hY.mono zU)
  have E := E.trans (hV.mono E.size)
  obtain ⟨cY, fY⟩ := bcell hV
  clear hU hY zU
  go_wp2
  go_ret
  exact ⟨rfl, E⟩

end Go.Proofs.Ytnkkfkbchijfnaa
