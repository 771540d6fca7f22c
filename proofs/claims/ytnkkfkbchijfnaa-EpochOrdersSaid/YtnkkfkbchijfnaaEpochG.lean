/- Epochs: EpochOrders, walked. -/
import Derived.Test.YtnkkfkbchijfnaaEpochE
import Derived.Test.YtnkkfkbchijfnaaLib4
namespace Go.Proofs.Ytnkkfkbchijfnaa
open Go.RowKit Go.Shelf

set_option maxRecDepth 100000 in
set_option maxHeartbeats 8000000 in
theorem orders_true (n l s a1 a2 b1 b2 me : Int) (w : World) (h : epR n l s (a1, a2) = true) :
    Calls Try.prog 5 #[.agg #[.int .i64 n, .int .i64 l, .int .i64 s], .agg #[.int .i64 a1, .int .i64 a2, .int .i64 b1, .int .i64 b2], .int .i64 me] w fun e w' => e = .returned (.bool true) ∧ Below w.heap.size w w' := by
  obtain ⟨q, hq⟩ : ∃ q, q = nextR n l s (a1, a2) me := ⟨_, rfl⟩
  obtain ⟨⟨x1, x2⟩, xe⟩ := q
  obtain ⟨o, ho⟩ : ∃ o, o = ordS (a1, a2) (b1, b2) := ⟨_, rfl⟩
  have HQ := Lib.hid hq.symm
  have HO := Lib.hid ho.symm
  have HR := Lib.hid h
  clear hq ho h
  go_enter Try.func5, Try.ntmps5
  go_wp2_with fail
  obtain ⟨V0, hV⟩ : ∃ V, V = (w.alloc (.cells #[.int .i64 n, .int .i64 l, .int .i64 s] 23)).alloc (.cells #[.int .i64 a1, .int .i64 a2, .int .i64 b1, .int .i64 b2] 45) := ⟨_, rfl⟩
  rw [← hV]
  have E : Below w.heap.size w V0 := by rw [hV]; (repeat (first | (with_reducible exact Below.refl _ _) | (with_reducible assumption) | (with_reducible refine below_drewN ?_ _) | (with_reducible refine Below.drew ?_) | ((with_reducible refine Below.alloc ?_ ?_ _); rotate_left; focus (first | (with_reducible exact Nat.le_refl _) | omega | (simp; done) | (simp; omega))) | ((with_reducible refine Below.setCell (p := ⟨_, _, _⟩) ?_ ?_ _); rotate_left; focus (first | (with_reducible exact Nat.le_refl _) | omega | (simp; done) | (simp; omega)))))
  have s0 : V0.cell? ⟨w.heap.size, 0, none⟩ = some (.int .i64 n) := by rw [hV]; go_simp
  have s1 : V0.cell? ⟨w.heap.size, 1, none⟩ = some (.int .i64 l) := by rw [hV]; go_simp
  have s2 : V0.cell? ⟨w.heap.size, 2, none⟩ = some (.int .i64 s) := by rw [hV]; go_simp
  have ls : w.heap.size < V0.heap.size := by rw [hV]; simp; try omega
  have t0 : V0.cell? ⟨w.heap.size + 1, 0, none⟩ = some (.int .i64 a1) := by rw [hV]; go_simp
  have t1 : V0.cell? ⟨w.heap.size + 1, 1, none⟩ = some (.int .i64 a2) := by rw [hV]; go_simp
  have t2 : V0.cell? ⟨w.heap.size + 1, 2, none⟩ = some (.int .i64 b1) := by rw [hV]; go_simp
  have t3 : V0.cell? ⟨w.heap.size + 1, 3, none⟩ = some (.int .i64 b2) := by rw [hV]; go_simp
  have lt : w.heap.size + 1 < V0.heap.size := by rw [hV]; simp; try omega
  clear hV
  refine (check_is HR.out V0).mono ?_
  rintro e U1 ⟨rfl, hU⟩
  have zU := hU.size
  have cU := (bcell hU).1
  have ms : w.heap.size < U1.heap.size := Nat.lt_of_lt_of_le ls zU
  have mt : w.heap.size + 1 < U1.heap.size := Nat.lt_of_lt_of_le lt zU
  go_wp2_with (go_at_call 10; refine (num_any _ _).mono ?_; rintro e w' ⟨rfl, rfl⟩)
  obtain ⟨V1, rfl⟩ : ∃ V : World, V = U1 := ⟨_, rfl⟩
  have g := hU
  have s0 := (g.cell (p := ⟨w.heap.size, 0, none⟩) ls).trans s0
  have s1 := (g.cell (p := ⟨w.heap.size, 1, none⟩) ls).trans s1
  have s2 := (g.cell (p := ⟨w.heap.size, 2, none⟩) ls).trans s2
  have ls : w.heap.size < V1.heap.size := Nat.lt_of_lt_of_le ls g.size
  have t0 := (g.cell (p := ⟨w.heap.size + 1, 0, none⟩) lt).trans t0
  have t1 := (g.cell (p := ⟨w.heap.size + 1, 1, none⟩) lt).trans t1
  have t2 := (g.cell (p := ⟨w.heap.size + 1, 2, none⟩) lt).trans t2
  have t3 := (g.cell (p := ⟨w.heap.size + 1, 3, none⟩) lt).trans t3
  have lt : w.heap.size + 1 < V1.heap.size := Nat.lt_of_lt_of_le lt g.size
  have E := E.trans (g.mono E.size)
  clear g hU cU zU ms mt
  have kk := next_any n l s a1 a2 me V1
  rw [HQ.out] at kk
  refine kk.mono ?_
  clear kk
  rintro e U2 ⟨rfl, hU⟩
  have zU := hU.size
  have cU := (bcell hU).1
  have ms : w.heap.size < U2.heap.size := Nat.lt_of_lt_of_le ls zU
  have mt : w.heap.size + 1 < U2.heap.size := Nat.lt_of_lt_of_le lt zU
  go_wp2_with fail
  obtain ⟨V2, hV⟩ : ∃ V, V = (U2.alloc (.cells #[.int .i64 x1, .int .i64 x2] 25)) := ⟨_, rfl⟩
  rw [← hV]
  obtain ⟨ZV2, hZ⟩ : ∃ Z, Z = U2.heap.size := ⟨_, rfl⟩
  rw [← hZ]
  have g : Below V1.heap.size V1 V2 := by rw [hV]; have := hU; (repeat (first | (with_reducible exact Below.refl _ _) | (with_reducible assumption) | (with_reducible refine below_drewN ?_ _) | (with_reducible refine Below.drew ?_) | ((with_reducible refine Below.alloc ?_ ?_ _); rotate_left; focus (first | (with_reducible exact Nat.le_refl _) | omega | (simp; done) | (simp; omega))) | ((with_reducible refine Below.setCell (p := ⟨_, _, _⟩) ?_ ?_ _); rotate_left; focus (first | (with_reducible exact Nat.le_refl _) | omega | (simp; done) | (simp; omega)))))
  have s0 := (g.cell (p := ⟨w.heap.size, 0, none⟩) ls).trans s0
  have s1 := (g.cell (p := ⟨w.heap.size, 1, none⟩) ls).trans s1
  have s2 := (g.cell (p := ⟨w.heap.size, 2, none⟩) ls).trans s2
  have ls : w.heap.size < V2.heap.size := Nat.lt_of_lt_of_le ls g.size
  have t0 := (g.cell (p := ⟨w.heap.size + 1, 0, none⟩) lt).trans t0
  have t1 := (g.cell (p := ⟨w.heap.size + 1, 1, none⟩) lt).trans t1
  have t2 := (g.cell (p := ⟨w.heap.size + 1, 2, none⟩) lt).trans t2
  have t3 := (g.cell (p := ⟨w.heap.size + 1, 3, none⟩) lt).trans t3
  have lt : w.heap.size + 1 < V2.heap.size := Nat.lt_of_lt_of_le lt g.size
  have q0 : V2.cell? ⟨ZV2, 0, none⟩ = some (.int .i64 x1) := by rw [hV, hZ]; go_simp
  have q1 : V2.cell? ⟨ZV2, 1, none⟩ = some (.int .i64 x2) := by rw [hV, hZ]; go_simp
  have lq : ZV2 < V2.heap.size := by rw [hV, hZ]; simp; try omega
  have E := E.trans (g.mono E.size)
  clear g hU cU zU hV hZ ms mt
  have kk := refNext_any n l s a1 a2 me V2
  rw [HQ.out] at kk
  refine kk.mono ?_
  clear kk
  rintro e U3 ⟨rfl, hU⟩
  have zU := hU.size
  have cU := (bcell hU).1
  have ms : w.heap.size < U3.heap.size := Nat.lt_of_lt_of_le ls zU
  have mt : w.heap.size + 1 < U3.heap.size := Nat.lt_of_lt_of_le lt zU
  have mq : ZV2 < U3.heap.size := Nat.lt_of_lt_of_le lq zU
  go_upto_region 4 with fail
  obtain ⟨V3, hV⟩ : ∃ V, V = (U3.alloc (.cells #[.int .i64 x1, .int .i64 x2] 25)) := ⟨_, rfl⟩
  rw [← hV]
  obtain ⟨ZV3, hZ⟩ : ∃ Z, Z = U3.heap.size := ⟨_, rfl⟩
  rw [← hZ]
  have g : Below V2.heap.size V2 V3 := by rw [hV]; have := hU; (repeat (first | (with_reducible exact Below.refl _ _) | (with_reducible assumption) | (with_reducible refine below_drewN ?_ _) | (with_reducible refine Below.drew ?_) | ((with_reducible refine Below.alloc ?_ ?_ _); rotate_left; focus (first | (with_reducible exact Nat.le_refl _) | omega | (simp; done) | (simp; omega))) | ((with_reducible refine Below.setCell (p := ⟨_, _, _⟩) ?_ ?_ _); rotate_left; focus (first | (with_reducible exact Nat.le_refl _) | omega | (simp; done) | (simp; omega)))))
  have s0 := (g.cell (p := ⟨w.heap.size, 0, none⟩) ls).trans s0
  have s1 := (g.cell (p := ⟨w.heap.size, 1, none⟩) ls).trans s1
  have s2 := (g.cell (p := ⟨w.heap.size, 2, none⟩) ls).trans s2
  have ls : w.heap.size < V3.heap.size := Nat.lt_of_lt_of_le ls g.size
  have t0 := (g.cell (p := ⟨w.heap.size + 1, 0, none⟩) lt).trans t0
  have t1 := (g.cell (p := ⟨w.heap.size + 1, 1, none⟩) lt).trans t1
  have t2 := (g.cell (p := ⟨w.heap.size + 1, 2, none⟩) lt).trans t2
  have t3 := (g.cell (p := ⟨w.heap.size + 1, 3, none⟩) lt).trans t3
  have lt : w.heap.size + 1 < V3.heap.size := Nat.lt_of_lt_of_le lt g.size
  have q0 := (g.cell (p := ⟨ZV2, 0, none⟩) lq).trans q0
  have q1 := (g.cell (p := ⟨ZV2, 1, none⟩) lq).trans q1
  have lq : ZV2 < V3.heap.size := Nat.lt_of_lt_of_le lq g.size
  have r0 : V3.cell? ⟨ZV3, 0, none⟩ = some (.int .i64 x1) := by rw [hV, hZ]; go_simp
  have r1 : V3.cell? ⟨ZV3, 1, none⟩ = some (.int .i64 x2) := by rw [hV, hZ]; go_simp
  have lr : ZV3 < V3.heap.size := by rw [hV, hZ]; simp; try omega
  have E := E.trans (g.mono E.size)
  clear g hU cU zU hV hZ ms mt mq
  have PB := Lib.hid (Below.refl V3.heap.size V3)
  refine wp_region_held_drew (S := fun w' => w'.cell? ⟨w.heap.size, 0, none⟩ = some (.int .i64 n) ∧ w'.cell? ⟨w.heap.size, 1, none⟩ = some (.int .i64 l) ∧ w'.cell? ⟨w.heap.size, 2, none⟩ = some (.int .i64 s) ∧ w'.cell? ⟨w.heap.size + 1, 0, none⟩ = some (.int .i64 a1) ∧ w'.cell? ⟨w.heap.size + 1, 1, none⟩ = some (.int .i64 a2) ∧ w'.cell? ⟨w.heap.size + 1, 2, none⟩ = some (.int .i64 b1) ∧ w'.cell? ⟨w.heap.size + 1, 3, none⟩ = some (.int .i64 b2) ∧ w'.cell? ⟨ZV2, 0, none⟩ = some (.int .i64 x1) ∧ w'.cell? ⟨ZV2, 1, none⟩ = some (.int .i64 x2) ∧ w'.cell? ⟨ZV3, 0, none⟩ = some (.int .i64 x1) ∧ w'.cell? ⟨ZV3, 1, none⟩ = some (.int .i64 x2)) (by kernel_rfl) (by go_keep) (fun hHeld => ?_)
  refine held_take (i := 0) (d := 33) (v := .int .i64 0) (by kernel_rfl) (by kernel_rfl) (by kernel_rfl) (by kernel_rfl) (fun _ _ _ h => h) ?_ (by assumption) ?_
  · intro oi ho
    simp at ho
    subst ho
    refine ⟨by rfl, fun w hSw => ?_⟩
    (try dsimp only at hSw)
    go_simp
  simp only [Act.put, List.setIfInBounds_toArray, List.set_cons_zero, List.set_cons_succ]
  refine held_take (i := 1) (d := 34) (v := .bool true) (by kernel_rfl) (by kernel_rfl) (by kernel_rfl) (by kernel_rfl) (fun _ _ _ h => h) ?_ (by assumption) ?_
  · intro oi ho
    simp at ho
    subst ho
    refine ⟨by rfl, fun w hSw => ?_⟩
    (try dsimp only at hSw)
    go_simp
  simp only [Act.put, List.setIfInBounds_toArray, List.set_cons_zero, List.set_cons_succ]
  refine held_take (i := 2) (d := 35) (v := .agg #[.int .i64 n, .int .i64 l, .int .i64 s]) (by kernel_rfl) (by kernel_rfl) (by kernel_rfl) (by kernel_rfl) (fun _ _ _ h => h) ?_ (by assumption) ?_
  · intro oi ho
    simp at ho
    subst ho
    refine ⟨by rfl, fun w hSw => ?_⟩
    (try dsimp only at hSw)
    go_simp
  simp only [Act.put, List.setIfInBounds_toArray, List.set_cons_zero, List.set_cons_succ]
  refine held_take (i := 3) (d := 36) (v := .pointer (some ⟨w.heap.size + 1, 0, none⟩)) (by kernel_rfl) (by kernel_rfl) (by kernel_rfl) (by kernel_rfl) (fun _ _ _ h => h) ?_ (by assumption) ?_
  · intro oi ho
    simp at ho
    subst ho
    refine ⟨by rfl, fun w hSw => ?_⟩
    (try dsimp only at hSw)
    go_simp
  simp only [Act.put, List.setIfInBounds_toArray, List.set_cons_zero, List.set_cons_succ]
  refine held_take (i := 4) (d := 37) (v := .agg #[.int .i64 a1, .int .i64 a2]) (by kernel_rfl) (by kernel_rfl) (by kernel_rfl) (by kernel_rfl) (fun _ _ _ h => h) ?_ (by assumption) ?_
  · intro oi ho
    simp at ho
    subst ho
    refine ⟨by rfl, fun w hSw => ?_⟩
    (try dsimp only at hSw)
    go_simp
  simp only [Act.put, List.setIfInBounds_toArray, List.set_cons_zero, List.set_cons_succ]
  refine held_call (i := 5) (by kernel_rfl) (by kernel_rfl) ?_
  intro oi ho
  simp at ho
  subst ho
  intro K' hK
  go_simp
  refine (refRight_is HR.out _).mono ?_
  rintro e U ⟨rfl, hU⟩
  have PB := Lib.hid (Below.trans (by have := PB.out; repeat (first | (with_reducible exact Below.refl _ _) | (with_reducible assumption) | (with_reducible refine below_drewN ?_ _) | (with_reducible refine Below.drew ?_) | ((with_reducible refine Below.alloc ?_ ?_ _); rotate_left; focus (first | (with_reducible exact Nat.le_refl _) | omega | (simp; done) | (simp; omega))) | ((with_reducible refine Below.setCell (p := ⟨_, _, _⟩) ?_ ?_ _); rotate_left; focus (first | (with_reducible exact Nat.le_refl _) | omega | (simp; done) | (simp; omega))))) (hU.mono (by have := PB.out.size; (try simp); try omega)) : Below V3.heap.size V3 U)
  have cU := (bcell PB.out).1
  clear hU
  try go_simp
  refine hK.out _ _ ?_ (fun hHeld => ?_)
  · go_keep
  try simp only [Act.put, List.setIfInBounds_toArray, List.set_cons_zero, List.set_cons_succ]
  clear hK K'
  refine held_take (i := 6) (d := 39) (v := .bool true) (by kernel_rfl) (by kernel_rfl) (by kernel_rfl) (by kernel_rfl) (fun _ _ _ h => h) ?_ (by assumption) ?_
  · intro oi ho
    simp at ho
    subst ho
    refine ⟨by rfl, fun w hSw => ?_⟩
    (try dsimp only at hSw)
    go_simp
  simp only [Act.put, List.setIfInBounds_toArray, List.set_cons_zero, List.set_cons_succ]
  refine held_take (i := 7) (d := 40) (v := .bool true) (by kernel_rfl) (by kernel_rfl) (by kernel_rfl) (by kernel_rfl) (fun _ _ _ h => h) ?_ (by assumption) ?_
  · intro oi ho
    simp at ho
    subst ho
    refine ⟨by rfl, fun w hSw => ?_⟩
    (try dsimp only at hSw)
    go_simp
  simp only [Act.put, List.setIfInBounds_toArray, List.set_cons_zero, List.set_cons_succ]
  refine held_take (i := 8) (d := 41) (v := .int .i64 0) (by kernel_rfl) (by kernel_rfl) (by kernel_rfl) (by kernel_rfl) (fun _ _ _ h => h) ?_ (by assumption) ?_
  · intro oi ho
    simp at ho
    subst ho
    refine ⟨by rfl, fun w hSw => ?_⟩
    (try dsimp only at hSw)
    go_simp
  simp only [Act.put, List.setIfInBounds_toArray, List.set_cons_zero, List.set_cons_succ]
  refine held_take (i := 9) (d := 42) (v := .bool true) (by kernel_rfl) (by kernel_rfl) (by kernel_rfl) (by kernel_rfl) (fun _ _ _ h => h) ?_ (by assumption) ?_
  · intro oi ho
    simp at ho
    subst ho
    refine ⟨by rfl, fun w hSw => ?_⟩
    (try dsimp only at hSw)
    go_simp
  simp only [Act.put, List.setIfInBounds_toArray, List.set_cons_zero, List.set_cons_succ]
  refine held_take (i := 10) (d := 43) (v := .bool true) (by kernel_rfl) (by kernel_rfl) (by kernel_rfl) (by kernel_rfl) (fun _ _ _ h => h) ?_ (by assumption) ?_
  · intro oi ho
    simp at ho
    subst ho
    refine ⟨by rfl, fun w hSw => ?_⟩
    (try dsimp only at hSw)
    go_simp
  simp only [Act.put, List.setIfInBounds_toArray, List.set_cons_zero, List.set_cons_succ]
  refine held_skip (i := 11) (d := 44) (by kernel_rfl) (by kernel_rfl) (by kernel_rfl) (by kernel_rfl) (fun _ _ _ h => h) ?_ (by assumption) ?_
  · intro oi ho
    simp at ho
    subst ho
    rfl
  simp only [Act.put, List.setIfInBounds_toArray, List.set_cons_zero, List.set_cons_succ]
  refine held_skip (i := 12) (d := 45) (by kernel_rfl) (by kernel_rfl) (by kernel_rfl) (by kernel_rfl) (fun _ _ _ h => h) ?_ (by assumption) ?_
  · intro oi ho
    simp at ho
    subst ho
    rfl
  simp only [Act.put, List.setIfInBounds_toArray, List.set_cons_zero, List.set_cons_succ]
  refine held_take (i := 13) (d := 46) (v := .bool true) (by kernel_rfl) (by kernel_rfl) (by kernel_rfl) (by kernel_rfl) (fun _ _ _ h => h) ?_ (by assumption) ?_
  · intro oi ho
    simp at ho
    subst ho
    refine ⟨by rfl, fun w hSw => ?_⟩
    (try dsimp only at hSw)
    go_simp
  simp only [Act.put, List.setIfInBounds_toArray, List.set_cons_zero, List.set_cons_succ]
  refine held_take (i := 14) (d := 47) (v := .bool true) (by kernel_rfl) (by kernel_rfl) (by kernel_rfl) (by kernel_rfl) (fun _ _ _ h => h) ?_ (by assumption) ?_
  · intro oi ho
    simp at ho
    subst ho
    refine ⟨by rfl, fun w hSw => ?_⟩
    (try dsimp only at hSw)
    go_simp
  simp only [Act.put, List.setIfInBounds_toArray, List.set_cons_zero, List.set_cons_succ]
  refine held_take (i := 15) (d := 48) (v := .bool true) (by kernel_rfl) (by kernel_rfl) (by kernel_rfl) (by kernel_rfl) (fun _ _ _ h => h) ?_ (by assumption) ?_
  · intro oi ho
    simp at ho
    subst ho
    refine ⟨by rfl, fun w hSw => ?_⟩
    (try dsimp only at hSw)
    go_simp
  simp only [Act.put, List.setIfInBounds_toArray, List.set_cons_zero, List.set_cons_succ]
  refine held_take (i := 16) (d := 49) (v := .pointer (some ⟨w.heap.size + 1, 0, none⟩)) (by kernel_rfl) (by kernel_rfl) (by kernel_rfl) (by kernel_rfl) (fun _ _ _ h => h) ?_ (by assumption) ?_
  · intro oi ho
    simp at ho
    subst ho
    refine ⟨by rfl, fun w hSw => ?_⟩
    (try dsimp only at hSw)
    go_simp
  simp only [Act.put, List.setIfInBounds_toArray, List.set_cons_zero, List.set_cons_succ]
  refine held_take (i := 17) (d := 50) (v := .agg #[.int .i64 a1, .int .i64 a2]) (by kernel_rfl) (by kernel_rfl) (by kernel_rfl) (by kernel_rfl) (fun _ _ _ h => h) ?_ (by assumption) ?_
  · intro oi ho
    simp at ho
    subst ho
    refine ⟨by rfl, fun w hSw => ?_⟩
    (try dsimp only at hSw)
    go_simp
  simp only [Act.put, List.setIfInBounds_toArray, List.set_cons_zero, List.set_cons_succ]
  refine held_take (i := 18) (d := 51) (v := .pointer (some ⟨w.heap.size + 1, 2, none⟩)) (by kernel_rfl) (by kernel_rfl) (by kernel_rfl) (by kernel_rfl) (fun _ _ _ h => h) ?_ (by assumption) ?_
  · intro oi ho
    simp at ho
    subst ho
    refine ⟨by rfl, fun w hSw => ?_⟩
    (try dsimp only at hSw)
    go_simp
  simp only [Act.put, List.setIfInBounds_toArray, List.set_cons_zero, List.set_cons_succ]
  refine held_take (i := 19) (d := 52) (v := .agg #[.int .i64 b1, .int .i64 b2]) (by kernel_rfl) (by kernel_rfl) (by kernel_rfl) (by kernel_rfl) (fun _ _ _ h => h) ?_ (by assumption) ?_
  · intro oi ho
    simp at ho
    subst ho
    refine ⟨by rfl, fun w hSw => ?_⟩
    (try dsimp only at hSw)
    go_simp
  simp only [Act.put, List.setIfInBounds_toArray, List.set_cons_zero, List.set_cons_succ]
  refine held_take (i := 21) (d := 54) (v := .pointer (some ⟨w.heap.size + 1, 0, none⟩)) (by kernel_rfl) (by kernel_rfl) (by kernel_rfl) (by kernel_rfl) (fun _ _ _ h => h) ?_ (by assumption) ?_
  · intro oi ho
    simp at ho
    subst ho
    refine ⟨by rfl, fun w hSw => ?_⟩
    (try dsimp only at hSw)
    go_simp
  simp only [Act.put, List.setIfInBounds_toArray, List.set_cons_zero, List.set_cons_succ]
  refine held_take (i := 22) (d := 55) (v := .agg #[.int .i64 a1, .int .i64 a2]) (by kernel_rfl) (by kernel_rfl) (by kernel_rfl) (by kernel_rfl) (fun _ _ _ h => h) ?_ (by assumption) ?_
  · intro oi ho
    simp at ho
    subst ho
    refine ⟨by rfl, fun w hSw => ?_⟩
    (try dsimp only at hSw)
    go_simp
  simp only [Act.put, List.setIfInBounds_toArray, List.set_cons_zero, List.set_cons_succ]
  refine held_take (i := 23) (d := 56) (v := .pointer (some ⟨w.heap.size + 1, 2, none⟩)) (by kernel_rfl) (by kernel_rfl) (by kernel_rfl) (by kernel_rfl) (fun _ _ _ h => h) ?_ (by assumption) ?_
  · intro oi ho
    simp at ho
    subst ho
    refine ⟨by rfl, fun w hSw => ?_⟩
    (try dsimp only at hSw)
    go_simp
  simp only [Act.put, List.setIfInBounds_toArray, List.set_cons_zero, List.set_cons_succ]
  refine held_take (i := 24) (d := 57) (v := .agg #[.int .i64 b1, .int .i64 b2]) (by kernel_rfl) (by kernel_rfl) (by kernel_rfl) (by kernel_rfl) (fun _ _ _ h => h) ?_ (by assumption) ?_
  · intro oi ho
    simp at ho
    subst ho
    refine ⟨by rfl, fun w hSw => ?_⟩
    (try dsimp only at hSw)
    go_simp
  simp only [Act.put, List.setIfInBounds_toArray, List.set_cons_zero, List.set_cons_succ]
  refine held_call (i := 20) (by kernel_rfl) (by kernel_rfl) ?_
  intro oi ho
  simp at ho
  subst ho
  intro K' hK
  go_simp
  refine (order_is HO.out _).mono ?_
  rintro e U ⟨rfl, hU⟩
  have PB := Lib.hid (Below.trans (by have := PB.out; repeat (first | (with_reducible exact Below.refl _ _) | (with_reducible assumption) | (with_reducible refine below_drewN ?_ _) | (with_reducible refine Below.drew ?_) | ((with_reducible refine Below.alloc ?_ ?_ _); rotate_left; focus (first | (with_reducible exact Nat.le_refl _) | omega | (simp; done) | (simp; omega))) | ((with_reducible refine Below.setCell (p := ⟨_, _, _⟩) ?_ ?_ _); rotate_left; focus (first | (with_reducible exact Nat.le_refl _) | omega | (simp; done) | (simp; omega))))) (hU.mono (by have := PB.out.size; (try simp); try omega)) : Below V3.heap.size V3 U)
  have cU := (bcell PB.out).1
  clear hU
  try go_simp
  refine hK.out _ _ ?_ (fun hHeld => ?_)
  · go_keep
  try simp only [Act.put, List.setIfInBounds_toArray, List.set_cons_zero, List.set_cons_succ]
  clear hK K'
  refine held_call (i := 25) (by kernel_rfl) (by kernel_rfl) ?_
  intro oi ho
  simp at ho
  subst ho
  intro K' hK
  go_simp
  refine (refOrder_is HO.out _).mono ?_
  rintro e U ⟨rfl, hU⟩
  have PB := Lib.hid (Below.trans (by have := PB.out; repeat (first | (with_reducible exact Below.refl _ _) | (with_reducible assumption) | (with_reducible refine below_drewN ?_ _) | (with_reducible refine Below.drew ?_) | ((with_reducible refine Below.alloc ?_ ?_ _); rotate_left; focus (first | (with_reducible exact Nat.le_refl _) | omega | (simp; done) | (simp; omega))) | ((with_reducible refine Below.setCell (p := ⟨_, _, _⟩) ?_ ?_ _); rotate_left; focus (first | (with_reducible exact Nat.le_refl _) | omega | (simp; done) | (simp; omega))))) (hU.mono (by have := PB.out.size; (try simp); try omega)) : Below V3.heap.size V3 U)
  have cU := (bcell PB.out).1
  clear hU
  try go_simp
  refine hK.out _ _ ?_ (fun hHeld => ?_)
  · go_keep
  try simp only [Act.put, List.setIfInBounds_toArray, List.set_cons_zero, List.set_cons_succ]
  clear hK K'
  refine held_take (i := 26) (d := 59) (v := .bool true) (by kernel_rfl) (by kernel_rfl) (by kernel_rfl) (by kernel_rfl) (fun _ _ _ h => h) ?_ (by assumption) ?_
  · intro oi ho
    simp at ho
    subst ho
    refine ⟨by rfl, fun w hSw => ?_⟩
    (try dsimp only at hSw)
    go_simp
  simp only [Act.put, List.setIfInBounds_toArray, List.set_cons_zero, List.set_cons_succ]
  refine held_take (i := 27) (d := 60) (v := .bool true) (by kernel_rfl) (by kernel_rfl) (by kernel_rfl) (by kernel_rfl) (fun _ _ _ h => h) ?_ (by assumption) ?_
  · intro oi ho
    simp at ho
    subst ho
    refine ⟨by rfl, fun w hSw => ?_⟩
    (try dsimp only at hSw)
    go_simp
  simp only [Act.put, List.setIfInBounds_toArray, List.set_cons_zero, List.set_cons_succ]
  refine held_take (i := 28) (d := 61) (v := .bool true) (by kernel_rfl) (by kernel_rfl) (by kernel_rfl) (by kernel_rfl) (fun _ _ _ h => h) ?_ (by assumption) ?_
  · intro oi ho
    simp at ho
    subst ho
    refine ⟨by rfl, fun w hSw => ?_⟩
    (try dsimp only at hSw)
    go_simp
  simp only [Act.put, List.setIfInBounds_toArray, List.set_cons_zero, List.set_cons_succ]
  refine held_take (i := 29) (d := 62) (v := .agg #[.int .i64 x1, .int .i64 x2]) (by kernel_rfl) (by kernel_rfl) (by kernel_rfl) (by kernel_rfl) (fun _ _ _ h => h) ?_ (by assumption) ?_
  · intro oi ho
    simp at ho
    subst ho
    refine ⟨by rfl, fun w hSw => ?_⟩
    (try dsimp only at hSw)
    go_simp
  simp only [Act.put, List.setIfInBounds_toArray, List.set_cons_zero, List.set_cons_succ]
  refine held_take (i := 30) (d := 63) (v := .agg #[.int .i64 x1, .int .i64 x2]) (by kernel_rfl) (by kernel_rfl) (by kernel_rfl) (by kernel_rfl) (fun _ _ _ h => h) ?_ (by assumption) ?_
  · intro oi ho
    simp at ho
    subst ho
    refine ⟨by rfl, fun w hSw => ?_⟩
    (try dsimp only at hSw)
    go_simp
  simp only [Act.put, List.setIfInBounds_toArray, List.set_cons_zero, List.set_cons_succ]
  refine held_take (i := 31) (d := 64) (v := .bool true) (by kernel_rfl) (by kernel_rfl) (by kernel_rfl) (by kernel_rfl) (fun _ _ _ h => h) ?_ (by assumption) ?_
  · intro oi ho
    simp at ho
    subst ho
    refine ⟨by rfl, fun w hSw => ?_⟩
    (try dsimp only at hSw)
    go_simp
  simp only [Act.put, List.setIfInBounds_toArray, List.set_cons_zero, List.set_cons_succ]
  refine held_take (i := 32) (d := 65) (v := .bool true) (by kernel_rfl) (by kernel_rfl) (by kernel_rfl) (by kernel_rfl) (fun _ _ _ h => h) ?_ (by assumption) ?_
  · intro oi ho
    simp at ho
    subst ho
    refine ⟨by rfl, fun w hSw => ?_⟩
    (try dsimp only at hSw)
    go_simp
  simp only [Act.put, List.setIfInBounds_toArray, List.set_cons_zero, List.set_cons_succ]
  refine held_take (i := 33) (d := 66) (v := .bool true) (by kernel_rfl) (by kernel_rfl) (by kernel_rfl) (by kernel_rfl) (fun _ _ _ h => h) ?_ (by assumption) ?_
  · intro oi ho
    simp at ho
    subst ho
    refine ⟨by rfl, fun w hSw => ?_⟩
    (try dsimp only at hSw)
    go_simp
  simp only [Act.put, List.setIfInBounds_toArray, List.set_cons_zero, List.set_cons_succ]
  refine held_take (i := 34) (d := 67) (v := .int .i64 xe) (by kernel_rfl) (by kernel_rfl) (by kernel_rfl) (by kernel_rfl) (fun _ _ _ h => h) ?_ (by assumption) ?_
  · intro oi ho
    simp at ho
    subst ho
    refine ⟨by rfl, fun w hSw => ?_⟩
    (try dsimp only at hSw)
    go_simp
  simp only [Act.put, List.setIfInBounds_toArray, List.set_cons_zero, List.set_cons_succ]
  refine held_take (i := 36) (d := 69) (v := .int .i64 xe) (by kernel_rfl) (by kernel_rfl) (by kernel_rfl) (by kernel_rfl) (fun _ _ _ h => h) ?_ (by assumption) ?_
  · intro oi ho
    simp at ho
    subst ho
    refine ⟨by rfl, fun w hSw => ?_⟩
    (try dsimp only at hSw)
    go_simp
  simp only [Act.put, List.setIfInBounds_toArray, List.set_cons_zero, List.set_cons_succ]
  refine held_call (i := 35) (by kernel_rfl) (by kernel_rfl) ?_
  intro oi ho
  simp at ho
  subst ho
  intro K' hK
  go_simp
  refine (num_any _ _).mono ?_
  rintro e w' ⟨rfl, rfl⟩
  try go_simp
  refine hK.out _ _ ?_ (fun hHeld => ?_)
  · go_keep
  try simp only [Act.put, List.setIfInBounds_toArray, List.set_cons_zero, List.set_cons_succ]
  clear hK K'
  refine held_take (i := 37) (d := 70) (v := .bool true) (by kernel_rfl) (by kernel_rfl) (by kernel_rfl) (by kernel_rfl) (fun _ _ _ h => h) ?_ (by assumption) ?_
  · intro oi ho
    simp at ho
    subst ho
    refine ⟨by rfl, fun w hSw => ?_⟩
    (try dsimp only at hSw)
    go_simp
  simp only [Act.put, List.setIfInBounds_toArray, List.set_cons_zero, List.set_cons_succ]
  refine held_take (i := 38) (d := 71) (v := .bool true) (by kernel_rfl) (by kernel_rfl) (by kernel_rfl) (by kernel_rfl) (fun _ _ _ h => h) ?_ (by assumption) ?_
  · intro oi ho
    simp at ho
    subst ho
    refine ⟨by rfl, fun w hSw => ?_⟩
    (try dsimp only at hSw)
    go_simp
  simp only [Act.put, List.setIfInBounds_toArray, List.set_cons_zero, List.set_cons_succ]
  refine held_take (i := 39) (d := 72) (v := .bool true) (by kernel_rfl) (by kernel_rfl) (by kernel_rfl) (by kernel_rfl) (fun _ _ _ h => h) ?_ (by assumption) ?_
  · intro oi ho
    simp at ho
    subst ho
    refine ⟨by rfl, fun w hSw => ?_⟩
    (try dsimp only at hSw)
    go_simp
  simp only [Act.put, List.setIfInBounds_toArray, List.set_cons_zero, List.set_cons_succ]
  refine held_call (i := 40) (by kernel_rfl) (by kernel_rfl) ?_
  intro oi ho
  simp at ho
  subst ho
  intro K' hK
  go_simp
  refine (works_any _).mono ?_
  rintro e U ⟨rfl, hU⟩
  have PB := Lib.hid (Below.trans (by have := PB.out; repeat (first | (with_reducible exact Below.refl _ _) | (with_reducible assumption) | (with_reducible refine below_drewN ?_ _) | (with_reducible refine Below.drew ?_) | ((with_reducible refine Below.alloc ?_ ?_ _); rotate_left; focus (first | (with_reducible exact Nat.le_refl _) | omega | (simp; done) | (simp; omega))) | ((with_reducible refine Below.setCell (p := ⟨_, _, _⟩) ?_ ?_ _); rotate_left; focus (first | (with_reducible exact Nat.le_refl _) | omega | (simp; done) | (simp; omega))))) (hU.mono (by have := PB.out.size; (try simp); try omega)) : Below V3.heap.size V3 U)
  have cU := (bcell PB.out).1
  clear hU
  try go_simp
  refine hK.out _ _ ?_ (fun hHeld => ?_)
  · go_keep
  try simp only [Act.put, List.setIfInBounds_toArray, List.set_cons_zero, List.set_cons_succ]
  clear hK K'
  refine held_take (i := 41) (d := 74) (v := .bool true) (by kernel_rfl) (by kernel_rfl) (by kernel_rfl) (by kernel_rfl) (fun _ _ _ h => h) ?_ (by assumption) ?_
  · intro oi ho
    simp at ho
    subst ho
    refine ⟨by rfl, fun w hSw => ?_⟩
    (try dsimp only at hSw)
    go_simp
  simp only [Act.put, List.setIfInBounds_toArray, List.set_cons_zero, List.set_cons_succ]
  refine held_take (i := 42) (d := 6) (v := .bool true) (by kernel_rfl) (by kernel_rfl) (by kernel_rfl) (by kernel_rfl) (fun _ _ _ h => h) ?_ (by assumption) ?_
  · intro oi ho
    simp at ho
    subst ho
    refine ⟨by rfl, fun w hSw => ?_⟩
    (try dsimp only at hSw)
    go_simp
  simp only [Act.put, List.setIfInBounds_toArray, List.set_cons_zero, List.set_cons_succ]
  refine wpAnyH_done (by kernel_rfl) ?_ _
  go_wp2_with fail
  have E := E.trans (PB.out.mono E.size)
  go_light
  go_ret
  exact ⟨rfl, by (repeat (first | (with_reducible exact Below.refl _ _) | (with_reducible assumption) | (with_reducible refine below_drewN ?_ _) | (with_reducible refine Below.drew ?_) | ((with_reducible refine Below.alloc ?_ ?_ _); rotate_left; focus (first | (with_reducible exact Nat.le_refl _) | omega | (simp; done) | (simp; omega))) | ((with_reducible refine Below.setCell (p := ⟨_, _, _⟩) ?_ ?_ _); rotate_left; focus (first | (with_reducible exact Nat.le_refl _) | omega | (simp; done) | (simp; omega)))))⟩

set_option maxRecDepth 100000 in
set_option maxHeartbeats 8000000 in
theorem orders_false (n l s a1 a2 b1 b2 me : Int) (w : World) (h : epR n l s (a1, a2) = false) :
    Calls Try.prog 5 #[.agg #[.int .i64 n, .int .i64 l, .int .i64 s], .agg #[.int .i64 a1, .int .i64 a2, .int .i64 b1, .int .i64 b2], .int .i64 me] w fun e w' => e = .returned (.bool true) ∧ Below w.heap.size w w' := by
  obtain ⟨q, hq⟩ : ∃ q, q = nextR n l s (a1, a2) me := ⟨_, rfl⟩
  obtain ⟨⟨x1, x2⟩, xe⟩ := q
  obtain ⟨o, ho⟩ : ∃ o, o = ordS (a1, a2) (b1, b2) := ⟨_, rfl⟩
  have HQ := Lib.hid hq.symm
  have HO := Lib.hid ho.symm
  have HR := Lib.hid h
  clear hq ho h
  go_enter Try.func5, Try.ntmps5
  go_wp2_with fail
  obtain ⟨V0, hV⟩ : ∃ V, V = (w.alloc (.cells #[.int .i64 n, .int .i64 l, .int .i64 s] 23)).alloc (.cells #[.int .i64 a1, .int .i64 a2, .int .i64 b1, .int .i64 b2] 45) := ⟨_, rfl⟩
  rw [← hV]
  have E : Below w.heap.size w V0 := by rw [hV]; (repeat (first | (with_reducible exact Below.refl _ _) | (with_reducible assumption) | (with_reducible refine below_drewN ?_ _) | (with_reducible refine Below.drew ?_) | ((with_reducible refine Below.alloc ?_ ?_ _); rotate_left; focus (first | (with_reducible exact Nat.le_refl _) | omega | (simp; done) | (simp; omega))) | ((with_reducible refine Below.setCell (p := ⟨_, _, _⟩) ?_ ?_ _); rotate_left; focus (first | (with_reducible exact Nat.le_refl _) | omega | (simp; done) | (simp; omega)))))
  have s0 : V0.cell? ⟨w.heap.size, 0, none⟩ = some (.int .i64 n) := by rw [hV]; go_simp
  have s1 : V0.cell? ⟨w.heap.size, 1, none⟩ = some (.int .i64 l) := by rw [hV]; go_simp
  have s2 : V0.cell? ⟨w.heap.size, 2, none⟩ = some (.int .i64 s) := by rw [hV]; go_simp
  have ls : w.heap.size < V0.heap.size := by rw [hV]; simp; try omega
  have t0 : V0.cell? ⟨w.heap.size + 1, 0, none⟩ = some (.int .i64 a1) := by rw [hV]; go_simp
  have t1 : V0.cell? ⟨w.heap.size + 1, 1, none⟩ = some (.int .i64 a2) := by rw [hV]; go_simp
  have t2 : V0.cell? ⟨w.heap.size + 1, 2, none⟩ = some (.int .i64 b1) := by rw [hV]; go_simp
  have t3 : V0.cell? ⟨w.heap.size + 1, 3, none⟩ = some (.int .i64 b2) := by rw [hV]; go_simp
  have lt : w.heap.size + 1 < V0.heap.size := by rw [hV]; simp; try omega
  clear hV
  refine (check_is HR.out V0).mono ?_
  rintro e U1 ⟨rfl, hU⟩
  have zU := hU.size
  have cU := (bcell hU).1
  have ms : w.heap.size < U1.heap.size := Nat.lt_of_lt_of_le ls zU
  have mt : w.heap.size + 1 < U1.heap.size := Nat.lt_of_lt_of_le lt zU
  go_wp2_with (go_at_call 10; refine (num_any _ _).mono ?_; rintro e w' ⟨rfl, rfl⟩)
  obtain ⟨V1, rfl⟩ : ∃ V : World, V = U1 := ⟨_, rfl⟩
  have g := hU
  have s0 := (g.cell (p := ⟨w.heap.size, 0, none⟩) ls).trans s0
  have s1 := (g.cell (p := ⟨w.heap.size, 1, none⟩) ls).trans s1
  have s2 := (g.cell (p := ⟨w.heap.size, 2, none⟩) ls).trans s2
  have ls : w.heap.size < V1.heap.size := Nat.lt_of_lt_of_le ls g.size
  have t0 := (g.cell (p := ⟨w.heap.size + 1, 0, none⟩) lt).trans t0
  have t1 := (g.cell (p := ⟨w.heap.size + 1, 1, none⟩) lt).trans t1
  have t2 := (g.cell (p := ⟨w.heap.size + 1, 2, none⟩) lt).trans t2
  have t3 := (g.cell (p := ⟨w.heap.size + 1, 3, none⟩) lt).trans t3
  have lt : w.heap.size + 1 < V1.heap.size := Nat.lt_of_lt_of_le lt g.size
  have E := E.trans (g.mono E.size)
  clear g hU cU zU ms mt
  have kk := next_any n l s a1 a2 me V1
  rw [HQ.out] at kk
  refine kk.mono ?_
  clear kk
  rintro e U2 ⟨rfl, hU⟩
  have zU := hU.size
  have cU := (bcell hU).1
  have ms : w.heap.size < U2.heap.size := Nat.lt_of_lt_of_le ls zU
  have mt : w.heap.size + 1 < U2.heap.size := Nat.lt_of_lt_of_le lt zU
  go_wp2_with fail
  obtain ⟨V2, hV⟩ : ∃ V, V = (U2.alloc (.cells #[.int .i64 x1, .int .i64 x2] 25)) := ⟨_, rfl⟩
  rw [← hV]
  obtain ⟨ZV2, hZ⟩ : ∃ Z, Z = U2.heap.size := ⟨_, rfl⟩
  rw [← hZ]
  have g : Below V1.heap.size V1 V2 := by rw [hV]; have := hU; (repeat (first | (with_reducible exact Below.refl _ _) | (with_reducible assumption) | (with_reducible refine below_drewN ?_ _) | (with_reducible refine Below.drew ?_) | ((with_reducible refine Below.alloc ?_ ?_ _); rotate_left; focus (first | (with_reducible exact Nat.le_refl _) | omega | (simp; done) | (simp; omega))) | ((with_reducible refine Below.setCell (p := ⟨_, _, _⟩) ?_ ?_ _); rotate_left; focus (first | (with_reducible exact Nat.le_refl _) | omega | (simp; done) | (simp; omega)))))
  have s0 := (g.cell (p := ⟨w.heap.size, 0, none⟩) ls).trans s0
  have s1 := (g.cell (p := ⟨w.heap.size, 1, none⟩) ls).trans s1
  have s2 := (g.cell (p := ⟨w.heap.size, 2, none⟩) ls).trans s2
  have ls : w.heap.size < V2.heap.size := Nat.lt_of_lt_of_le ls g.size
  have t0 := (g.cell (p := ⟨w.heap.size + 1, 0, none⟩) lt).trans t0
  have t1 := (g.cell (p := ⟨w.heap.size + 1, 1, none⟩) lt).trans t1
  have t2 := (g.cell (p := ⟨w.heap.size + 1, 2, none⟩) lt).trans t2
  have t3 := (g.cell (p := ⟨w.heap.size + 1, 3, none⟩) lt).trans t3
  have lt : w.heap.size + 1 < V2.heap.size := Nat.lt_of_lt_of_le lt g.size
  have q0 : V2.cell? ⟨ZV2, 0, none⟩ = some (.int .i64 x1) := by rw [hV, hZ]; go_simp
  have q1 : V2.cell? ⟨ZV2, 1, none⟩ = some (.int .i64 x2) := by rw [hV, hZ]; go_simp
  have lq : ZV2 < V2.heap.size := by rw [hV, hZ]; simp; try omega
  have E := E.trans (g.mono E.size)
  clear g hU cU zU hV hZ ms mt
  have kk := refNext_any n l s a1 a2 me V2
  rw [HQ.out] at kk
  refine kk.mono ?_
  clear kk
  rintro e U3 ⟨rfl, hU⟩
  have zU := hU.size
  have cU := (bcell hU).1
  have ms : w.heap.size < U3.heap.size := Nat.lt_of_lt_of_le ls zU
  have mt : w.heap.size + 1 < U3.heap.size := Nat.lt_of_lt_of_le lt zU
  have mq : ZV2 < U3.heap.size := Nat.lt_of_lt_of_le lq zU
  go_upto_region 4 with fail
  obtain ⟨V3, hV⟩ : ∃ V, V = (U3.alloc (.cells #[.int .i64 x1, .int .i64 x2] 25)) := ⟨_, rfl⟩
  rw [← hV]
  obtain ⟨ZV3, hZ⟩ : ∃ Z, Z = U3.heap.size := ⟨_, rfl⟩
  rw [← hZ]
  have g : Below V2.heap.size V2 V3 := by rw [hV]; have := hU; (repeat (first | (with_reducible exact Below.refl _ _) | (with_reducible assumption) | (with_reducible refine below_drewN ?_ _) | (with_reducible refine Below.drew ?_) | ((with_reducible refine Below.alloc ?_ ?_ _); rotate_left; focus (first | (with_reducible exact Nat.le_refl _) | omega | (simp; done) | (simp; omega))) | ((with_reducible refine Below.setCell (p := ⟨_, _, _⟩) ?_ ?_ _); rotate_left; focus (first | (with_reducible exact Nat.le_refl _) | omega | (simp; done) | (simp; omega)))))
  have s0 := (g.cell (p := ⟨w.heap.size, 0, none⟩) ls).trans s0
  have s1 := (g.cell (p := ⟨w.heap.size, 1, none⟩) ls).trans s1
  have s2 := (g.cell (p := ⟨w.heap.size, 2, none⟩) ls).trans s2
  have ls : w.heap.size < V3.heap.size := Nat.lt_of_lt_of_le ls g.size
  have t0 := (g.cell (p := ⟨w.heap.size + 1, 0, none⟩) lt).trans t0
  have t1 := (g.cell (p := ⟨w.heap.size + 1, 1, none⟩) lt).trans t1
  have t2 := (g.cell (p := ⟨w.heap.size + 1, 2, none⟩) lt).trans t2
  have t3 := (g.cell (p := ⟨w.heap.size + 1, 3, none⟩) lt).trans t3
  have lt : w.heap.size + 1 < V3.heap.size := Nat.lt_of_lt_of_le lt g.size
  have q0 := (g.cell (p := ⟨ZV2, 0, none⟩) lq).trans q0
  have q1 := (g.cell (p := ⟨ZV2, 1, none⟩) lq).trans q1
  have lq : ZV2 < V3.heap.size := Nat.lt_of_lt_of_le lq g.size
  have r0 : V3.cell? ⟨ZV3, 0, none⟩ = some (.int .i64 x1) := by rw [hV, hZ]; go_simp
  have r1 : V3.cell? ⟨ZV3, 1, none⟩ = some (.int .i64 x2) := by rw [hV, hZ]; go_simp
  have lr : ZV3 < V3.heap.size := by rw [hV, hZ]; simp; try omega
  have E := E.trans (g.mono E.size)
  clear g hU cU zU hV hZ ms mt mq
  have PB := Lib.hid (Below.refl V3.heap.size V3)
  refine wp_region_held_drew (S := fun w' => w'.cell? ⟨w.heap.size, 0, none⟩ = some (.int .i64 n) ∧ w'.cell? ⟨w.heap.size, 1, none⟩ = some (.int .i64 l) ∧ w'.cell? ⟨w.heap.size, 2, none⟩ = some (.int .i64 s) ∧ w'.cell? ⟨w.heap.size + 1, 0, none⟩ = some (.int .i64 a1) ∧ w'.cell? ⟨w.heap.size + 1, 1, none⟩ = some (.int .i64 a2) ∧ w'.cell? ⟨w.heap.size + 1, 2, none⟩ = some (.int .i64 b1) ∧ w'.cell? ⟨w.heap.size + 1, 3, none⟩ = some (.int .i64 b2) ∧ w'.cell? ⟨ZV2, 0, none⟩ = some (.int .i64 x1) ∧ w'.cell? ⟨ZV2, 1, none⟩ = some (.int .i64 x2) ∧ w'.cell? ⟨ZV3, 0, none⟩ = some (.int .i64 x1) ∧ w'.cell? ⟨ZV3, 1, none⟩ = some (.int .i64 x2)) (by kernel_rfl) (by go_keep) (fun hHeld => ?_)
  refine held_take (i := 0) (d := 33) (v := .int .i64 2) (by kernel_rfl) (by kernel_rfl) (by kernel_rfl) (by kernel_rfl) (fun _ _ _ h => h) ?_ (by assumption) ?_
  · intro oi ho
    simp at ho
    subst ho
    refine ⟨by rfl, fun w hSw => ?_⟩
    (try dsimp only at hSw)
    go_simp
  simp only [Act.put, List.setIfInBounds_toArray, List.set_cons_zero, List.set_cons_succ]
  refine held_take (i := 1) (d := 34) (v := .bool false) (by kernel_rfl) (by kernel_rfl) (by kernel_rfl) (by kernel_rfl) (fun _ _ _ h => h) ?_ (by assumption) ?_
  · intro oi ho
    simp at ho
    subst ho
    refine ⟨by rfl, fun w hSw => ?_⟩
    (try dsimp only at hSw)
    go_simp
  simp only [Act.put, List.setIfInBounds_toArray, List.set_cons_zero, List.set_cons_succ]
  refine held_take (i := 2) (d := 35) (v := .agg #[.int .i64 n, .int .i64 l, .int .i64 s]) (by kernel_rfl) (by kernel_rfl) (by kernel_rfl) (by kernel_rfl) (fun _ _ _ h => h) ?_ (by assumption) ?_
  · intro oi ho
    simp at ho
    subst ho
    refine ⟨by rfl, fun w hSw => ?_⟩
    (try dsimp only at hSw)
    go_simp
  simp only [Act.put, List.setIfInBounds_toArray, List.set_cons_zero, List.set_cons_succ]
  refine held_take (i := 3) (d := 36) (v := .pointer (some ⟨w.heap.size + 1, 0, none⟩)) (by kernel_rfl) (by kernel_rfl) (by kernel_rfl) (by kernel_rfl) (fun _ _ _ h => h) ?_ (by assumption) ?_
  · intro oi ho
    simp at ho
    subst ho
    refine ⟨by rfl, fun w hSw => ?_⟩
    (try dsimp only at hSw)
    go_simp
  simp only [Act.put, List.setIfInBounds_toArray, List.set_cons_zero, List.set_cons_succ]
  refine held_take (i := 4) (d := 37) (v := .agg #[.int .i64 a1, .int .i64 a2]) (by kernel_rfl) (by kernel_rfl) (by kernel_rfl) (by kernel_rfl) (fun _ _ _ h => h) ?_ (by assumption) ?_
  · intro oi ho
    simp at ho
    subst ho
    refine ⟨by rfl, fun w hSw => ?_⟩
    (try dsimp only at hSw)
    go_simp
  simp only [Act.put, List.setIfInBounds_toArray, List.set_cons_zero, List.set_cons_succ]
  refine held_call (i := 5) (by kernel_rfl) (by kernel_rfl) ?_
  intro oi ho
  simp at ho
  subst ho
  intro K' hK
  go_simp
  refine (refRight_is HR.out _).mono ?_
  rintro e U ⟨rfl, hU⟩
  have PB := Lib.hid (Below.trans (by have := PB.out; repeat (first | (with_reducible exact Below.refl _ _) | (with_reducible assumption) | (with_reducible refine below_drewN ?_ _) | (with_reducible refine Below.drew ?_) | ((with_reducible refine Below.alloc ?_ ?_ _); rotate_left; focus (first | (with_reducible exact Nat.le_refl _) | omega | (simp; done) | (simp; omega))) | ((with_reducible refine Below.setCell (p := ⟨_, _, _⟩) ?_ ?_ _); rotate_left; focus (first | (with_reducible exact Nat.le_refl _) | omega | (simp; done) | (simp; omega))))) (hU.mono (by have := PB.out.size; (try simp); try omega)) : Below V3.heap.size V3 U)
  have cU := (bcell PB.out).1
  clear hU
  try go_simp
  refine hK.out _ _ ?_ (fun hHeld => ?_)
  · go_keep
  try simp only [Act.put, List.setIfInBounds_toArray, List.set_cons_zero, List.set_cons_succ]
  clear hK K'
  refine held_take (i := 6) (d := 39) (v := .bool true) (by kernel_rfl) (by kernel_rfl) (by kernel_rfl) (by kernel_rfl) (fun _ _ _ h => h) ?_ (by assumption) ?_
  · intro oi ho
    simp at ho
    subst ho
    refine ⟨by rfl, fun w hSw => ?_⟩
    (try dsimp only at hSw)
    go_simp
  simp only [Act.put, List.setIfInBounds_toArray, List.set_cons_zero, List.set_cons_succ]
  refine held_take (i := 7) (d := 40) (v := .bool true) (by kernel_rfl) (by kernel_rfl) (by kernel_rfl) (by kernel_rfl) (fun _ _ _ h => h) ?_ (by assumption) ?_
  · intro oi ho
    simp at ho
    subst ho
    refine ⟨by rfl, fun w hSw => ?_⟩
    (try dsimp only at hSw)
    go_simp
  simp only [Act.put, List.setIfInBounds_toArray, List.set_cons_zero, List.set_cons_succ]
  refine held_take (i := 8) (d := 41) (v := .int .i64 2) (by kernel_rfl) (by kernel_rfl) (by kernel_rfl) (by kernel_rfl) (fun _ _ _ h => h) ?_ (by assumption) ?_
  · intro oi ho
    simp at ho
    subst ho
    refine ⟨by rfl, fun w hSw => ?_⟩
    (try dsimp only at hSw)
    go_simp
  simp only [Act.put, List.setIfInBounds_toArray, List.set_cons_zero, List.set_cons_succ]
  refine held_take (i := 9) (d := 42) (v := .bool false) (by kernel_rfl) (by kernel_rfl) (by kernel_rfl) (by kernel_rfl) (fun _ _ _ h => h) ?_ (by assumption) ?_
  · intro oi ho
    simp at ho
    subst ho
    refine ⟨by rfl, fun w hSw => ?_⟩
    (try dsimp only at hSw)
    go_simp
  simp only [Act.put, List.setIfInBounds_toArray, List.set_cons_zero, List.set_cons_succ]
  refine held_take (i := 10) (d := 43) (v := .bool false) (by kernel_rfl) (by kernel_rfl) (by kernel_rfl) (by kernel_rfl) (fun _ _ _ h => h) ?_ (by assumption) ?_
  · intro oi ho
    simp at ho
    subst ho
    refine ⟨by rfl, fun w hSw => ?_⟩
    (try dsimp only at hSw)
    go_simp
  simp only [Act.put, List.setIfInBounds_toArray, List.set_cons_zero, List.set_cons_succ]
  refine held_take (i := 11) (d := 44) (v := .int .i64 2) (by kernel_rfl) (by kernel_rfl) (by kernel_rfl) (by kernel_rfl) (fun _ _ _ h => h) ?_ (by assumption) ?_
  · intro oi ho
    simp at ho
    subst ho
    refine ⟨by rfl, fun w hSw => ?_⟩
    (try dsimp only at hSw)
    go_simp
  simp only [Act.put, List.setIfInBounds_toArray, List.set_cons_zero, List.set_cons_succ]
  refine held_take (i := 12) (d := 45) (v := .bool true) (by kernel_rfl) (by kernel_rfl) (by kernel_rfl) (by kernel_rfl) (fun _ _ _ h => h) ?_ (by assumption) ?_
  · intro oi ho
    simp at ho
    subst ho
    refine ⟨by rfl, fun w hSw => ?_⟩
    (try dsimp only at hSw)
    go_simp
  simp only [Act.put, List.setIfInBounds_toArray, List.set_cons_zero, List.set_cons_succ]
  refine held_take (i := 13) (d := 46) (v := .bool true) (by kernel_rfl) (by kernel_rfl) (by kernel_rfl) (by kernel_rfl) (fun _ _ _ h => h) ?_ (by assumption) ?_
  · intro oi ho
    simp at ho
    subst ho
    refine ⟨by rfl, fun w hSw => ?_⟩
    (try dsimp only at hSw)
    go_simp
  simp only [Act.put, List.setIfInBounds_toArray, List.set_cons_zero, List.set_cons_succ]
  refine held_take (i := 14) (d := 47) (v := .bool true) (by kernel_rfl) (by kernel_rfl) (by kernel_rfl) (by kernel_rfl) (fun _ _ _ h => h) ?_ (by assumption) ?_
  · intro oi ho
    simp at ho
    subst ho
    refine ⟨by rfl, fun w hSw => ?_⟩
    (try dsimp only at hSw)
    go_simp
  simp only [Act.put, List.setIfInBounds_toArray, List.set_cons_zero, List.set_cons_succ]
  refine held_take (i := 15) (d := 48) (v := .bool true) (by kernel_rfl) (by kernel_rfl) (by kernel_rfl) (by kernel_rfl) (fun _ _ _ h => h) ?_ (by assumption) ?_
  · intro oi ho
    simp at ho
    subst ho
    refine ⟨by rfl, fun w hSw => ?_⟩
    (try dsimp only at hSw)
    go_simp
  simp only [Act.put, List.setIfInBounds_toArray, List.set_cons_zero, List.set_cons_succ]
  refine held_take (i := 16) (d := 49) (v := .pointer (some ⟨w.heap.size + 1, 0, none⟩)) (by kernel_rfl) (by kernel_rfl) (by kernel_rfl) (by kernel_rfl) (fun _ _ _ h => h) ?_ (by assumption) ?_
  · intro oi ho
    simp at ho
    subst ho
    refine ⟨by rfl, fun w hSw => ?_⟩
    (try dsimp only at hSw)
    go_simp
  simp only [Act.put, List.setIfInBounds_toArray, List.set_cons_zero, List.set_cons_succ]
  refine held_take (i := 17) (d := 50) (v := .agg #[.int .i64 a1, .int .i64 a2]) (by kernel_rfl) (by kernel_rfl) (by kernel_rfl) (by kernel_rfl) (fun _ _ _ h => h) ?_ (by assumption) ?_
  · intro oi ho
    simp at ho
    subst ho
    refine ⟨by rfl, fun w hSw => ?_⟩
    (try dsimp only at hSw)
    go_simp
  simp only [Act.put, List.setIfInBounds_toArray, List.set_cons_zero, List.set_cons_succ]
  refine held_take (i := 18) (d := 51) (v := .pointer (some ⟨w.heap.size + 1, 2, none⟩)) (by kernel_rfl) (by kernel_rfl) (by kernel_rfl) (by kernel_rfl) (fun _ _ _ h => h) ?_ (by assumption) ?_
  · intro oi ho
    simp at ho
    subst ho
    refine ⟨by rfl, fun w hSw => ?_⟩
    (try dsimp only at hSw)
    go_simp
  simp only [Act.put, List.setIfInBounds_toArray, List.set_cons_zero, List.set_cons_succ]
  refine held_take (i := 19) (d := 52) (v := .agg #[.int .i64 b1, .int .i64 b2]) (by kernel_rfl) (by kernel_rfl) (by kernel_rfl) (by kernel_rfl) (fun _ _ _ h => h) ?_ (by assumption) ?_
  · intro oi ho
    simp at ho
    subst ho
    refine ⟨by rfl, fun w hSw => ?_⟩
    (try dsimp only at hSw)
    go_simp
  simp only [Act.put, List.setIfInBounds_toArray, List.set_cons_zero, List.set_cons_succ]
  refine held_take (i := 21) (d := 54) (v := .pointer (some ⟨w.heap.size + 1, 0, none⟩)) (by kernel_rfl) (by kernel_rfl) (by kernel_rfl) (by kernel_rfl) (fun _ _ _ h => h) ?_ (by assumption) ?_
  · intro oi ho
    simp at ho
    subst ho
    refine ⟨by rfl, fun w hSw => ?_⟩
    (try dsimp only at hSw)
    go_simp
  simp only [Act.put, List.setIfInBounds_toArray, List.set_cons_zero, List.set_cons_succ]
  refine held_take (i := 22) (d := 55) (v := .agg #[.int .i64 a1, .int .i64 a2]) (by kernel_rfl) (by kernel_rfl) (by kernel_rfl) (by kernel_rfl) (fun _ _ _ h => h) ?_ (by assumption) ?_
  · intro oi ho
    simp at ho
    subst ho
    refine ⟨by rfl, fun w hSw => ?_⟩
    (try dsimp only at hSw)
    go_simp
  simp only [Act.put, List.setIfInBounds_toArray, List.set_cons_zero, List.set_cons_succ]
  refine held_take (i := 23) (d := 56) (v := .pointer (some ⟨w.heap.size + 1, 2, none⟩)) (by kernel_rfl) (by kernel_rfl) (by kernel_rfl) (by kernel_rfl) (fun _ _ _ h => h) ?_ (by assumption) ?_
  · intro oi ho
    simp at ho
    subst ho
    refine ⟨by rfl, fun w hSw => ?_⟩
    (try dsimp only at hSw)
    go_simp
  simp only [Act.put, List.setIfInBounds_toArray, List.set_cons_zero, List.set_cons_succ]
  refine held_take (i := 24) (d := 57) (v := .agg #[.int .i64 b1, .int .i64 b2]) (by kernel_rfl) (by kernel_rfl) (by kernel_rfl) (by kernel_rfl) (fun _ _ _ h => h) ?_ (by assumption) ?_
  · intro oi ho
    simp at ho
    subst ho
    refine ⟨by rfl, fun w hSw => ?_⟩
    (try dsimp only at hSw)
    go_simp
  simp only [Act.put, List.setIfInBounds_toArray, List.set_cons_zero, List.set_cons_succ]
  refine held_call (i := 20) (by kernel_rfl) (by kernel_rfl) ?_
  intro oi ho
  simp at ho
  subst ho
  intro K' hK
  go_simp
  refine (order_is HO.out _).mono ?_
  rintro e U ⟨rfl, hU⟩
  have PB := Lib.hid (Below.trans (by have := PB.out; repeat (first | (with_reducible exact Below.refl _ _) | (with_reducible assumption) | (with_reducible refine below_drewN ?_ _) | (with_reducible refine Below.drew ?_) | ((with_reducible refine Below.alloc ?_ ?_ _); rotate_left; focus (first | (with_reducible exact Nat.le_refl _) | omega | (simp; done) | (simp; omega))) | ((with_reducible refine Below.setCell (p := ⟨_, _, _⟩) ?_ ?_ _); rotate_left; focus (first | (with_reducible exact Nat.le_refl _) | omega | (simp; done) | (simp; omega))))) (hU.mono (by have := PB.out.size; (try simp); try omega)) : Below V3.heap.size V3 U)
  have cU := (bcell PB.out).1
  clear hU
  try go_simp
  refine hK.out _ _ ?_ (fun hHeld => ?_)
  · go_keep
  try simp only [Act.put, List.setIfInBounds_toArray, List.set_cons_zero, List.set_cons_succ]
  clear hK K'
  refine held_call (i := 25) (by kernel_rfl) (by kernel_rfl) ?_
  intro oi ho
  simp at ho
  subst ho
  intro K' hK
  go_simp
  refine (refOrder_is HO.out _).mono ?_
  rintro e U ⟨rfl, hU⟩
  have PB := Lib.hid (Below.trans (by have := PB.out; repeat (first | (with_reducible exact Below.refl _ _) | (with_reducible assumption) | (with_reducible refine below_drewN ?_ _) | (with_reducible refine Below.drew ?_) | ((with_reducible refine Below.alloc ?_ ?_ _); rotate_left; focus (first | (with_reducible exact Nat.le_refl _) | omega | (simp; done) | (simp; omega))) | ((with_reducible refine Below.setCell (p := ⟨_, _, _⟩) ?_ ?_ _); rotate_left; focus (first | (with_reducible exact Nat.le_refl _) | omega | (simp; done) | (simp; omega))))) (hU.mono (by have := PB.out.size; (try simp); try omega)) : Below V3.heap.size V3 U)
  have cU := (bcell PB.out).1
  clear hU
  try go_simp
  refine hK.out _ _ ?_ (fun hHeld => ?_)
  · go_keep
  try simp only [Act.put, List.setIfInBounds_toArray, List.set_cons_zero, List.set_cons_succ]
  clear hK K'
  refine held_take (i := 26) (d := 59) (v := .bool true) (by kernel_rfl) (by kernel_rfl) (by kernel_rfl) (by kernel_rfl) (fun _ _ _ h => h) ?_ (by assumption) ?_
  · intro oi ho
    simp at ho
    subst ho
    refine ⟨by rfl, fun w hSw => ?_⟩
    (try dsimp only at hSw)
    go_simp
  simp only [Act.put, List.setIfInBounds_toArray, List.set_cons_zero, List.set_cons_succ]
  refine held_take (i := 27) (d := 60) (v := .bool true) (by kernel_rfl) (by kernel_rfl) (by kernel_rfl) (by kernel_rfl) (fun _ _ _ h => h) ?_ (by assumption) ?_
  · intro oi ho
    simp at ho
    subst ho
    refine ⟨by rfl, fun w hSw => ?_⟩
    (try dsimp only at hSw)
    go_simp
  simp only [Act.put, List.setIfInBounds_toArray, List.set_cons_zero, List.set_cons_succ]
  refine held_take (i := 28) (d := 61) (v := .bool true) (by kernel_rfl) (by kernel_rfl) (by kernel_rfl) (by kernel_rfl) (fun _ _ _ h => h) ?_ (by assumption) ?_
  · intro oi ho
    simp at ho
    subst ho
    refine ⟨by rfl, fun w hSw => ?_⟩
    (try dsimp only at hSw)
    go_simp
  simp only [Act.put, List.setIfInBounds_toArray, List.set_cons_zero, List.set_cons_succ]
  refine held_take (i := 29) (d := 62) (v := .agg #[.int .i64 x1, .int .i64 x2]) (by kernel_rfl) (by kernel_rfl) (by kernel_rfl) (by kernel_rfl) (fun _ _ _ h => h) ?_ (by assumption) ?_
  · intro oi ho
    simp at ho
    subst ho
    refine ⟨by rfl, fun w hSw => ?_⟩
    (try dsimp only at hSw)
    go_simp
  simp only [Act.put, List.setIfInBounds_toArray, List.set_cons_zero, List.set_cons_succ]
  refine held_take (i := 30) (d := 63) (v := .agg #[.int .i64 x1, .int .i64 x2]) (by kernel_rfl) (by kernel_rfl) (by kernel_rfl) (by kernel_rfl) (fun _ _ _ h => h) ?_ (by assumption) ?_
  · intro oi ho
    simp at ho
    subst ho
    refine ⟨by rfl, fun w hSw => ?_⟩
    (try dsimp only at hSw)
    go_simp
  simp only [Act.put, List.setIfInBounds_toArray, List.set_cons_zero, List.set_cons_succ]
  refine held_take (i := 31) (d := 64) (v := .bool true) (by kernel_rfl) (by kernel_rfl) (by kernel_rfl) (by kernel_rfl) (fun _ _ _ h => h) ?_ (by assumption) ?_
  · intro oi ho
    simp at ho
    subst ho
    refine ⟨by rfl, fun w hSw => ?_⟩
    (try dsimp only at hSw)
    go_simp
  simp only [Act.put, List.setIfInBounds_toArray, List.set_cons_zero, List.set_cons_succ]
  refine held_take (i := 32) (d := 65) (v := .bool true) (by kernel_rfl) (by kernel_rfl) (by kernel_rfl) (by kernel_rfl) (fun _ _ _ h => h) ?_ (by assumption) ?_
  · intro oi ho
    simp at ho
    subst ho
    refine ⟨by rfl, fun w hSw => ?_⟩
    (try dsimp only at hSw)
    go_simp
  simp only [Act.put, List.setIfInBounds_toArray, List.set_cons_zero, List.set_cons_succ]
  refine held_take (i := 33) (d := 66) (v := .bool true) (by kernel_rfl) (by kernel_rfl) (by kernel_rfl) (by kernel_rfl) (fun _ _ _ h => h) ?_ (by assumption) ?_
  · intro oi ho
    simp at ho
    subst ho
    refine ⟨by rfl, fun w hSw => ?_⟩
    (try dsimp only at hSw)
    go_simp
  simp only [Act.put, List.setIfInBounds_toArray, List.set_cons_zero, List.set_cons_succ]
  refine held_take (i := 34) (d := 67) (v := .int .i64 xe) (by kernel_rfl) (by kernel_rfl) (by kernel_rfl) (by kernel_rfl) (fun _ _ _ h => h) ?_ (by assumption) ?_
  · intro oi ho
    simp at ho
    subst ho
    refine ⟨by rfl, fun w hSw => ?_⟩
    (try dsimp only at hSw)
    go_simp
  simp only [Act.put, List.setIfInBounds_toArray, List.set_cons_zero, List.set_cons_succ]
  refine held_take (i := 36) (d := 69) (v := .int .i64 xe) (by kernel_rfl) (by kernel_rfl) (by kernel_rfl) (by kernel_rfl) (fun _ _ _ h => h) ?_ (by assumption) ?_
  · intro oi ho
    simp at ho
    subst ho
    refine ⟨by rfl, fun w hSw => ?_⟩
    (try dsimp only at hSw)
    go_simp
  simp only [Act.put, List.setIfInBounds_toArray, List.set_cons_zero, List.set_cons_succ]
  refine held_call (i := 35) (by kernel_rfl) (by kernel_rfl) ?_
  intro oi ho
  simp at ho
  subst ho
  intro K' hK
  go_simp
  refine (num_any _ _).mono ?_
  rintro e w' ⟨rfl, rfl⟩
  try go_simp
  refine hK.out _ _ ?_ (fun hHeld => ?_)
  · go_keep
  try simp only [Act.put, List.setIfInBounds_toArray, List.set_cons_zero, List.set_cons_succ]
  clear hK K'
  refine held_take (i := 37) (d := 70) (v := .bool true) (by kernel_rfl) (by kernel_rfl) (by kernel_rfl) (by kernel_rfl) (fun _ _ _ h => h) ?_ (by assumption) ?_
  · intro oi ho
    simp at ho
    subst ho
    refine ⟨by rfl, fun w hSw => ?_⟩
    (try dsimp only at hSw)
    go_simp
  simp only [Act.put, List.setIfInBounds_toArray, List.set_cons_zero, List.set_cons_succ]
  refine held_take (i := 38) (d := 71) (v := .bool true) (by kernel_rfl) (by kernel_rfl) (by kernel_rfl) (by kernel_rfl) (fun _ _ _ h => h) ?_ (by assumption) ?_
  · intro oi ho
    simp at ho
    subst ho
    refine ⟨by rfl, fun w hSw => ?_⟩
    (try dsimp only at hSw)
    go_simp
  simp only [Act.put, List.setIfInBounds_toArray, List.set_cons_zero, List.set_cons_succ]
  refine held_take (i := 39) (d := 72) (v := .bool true) (by kernel_rfl) (by kernel_rfl) (by kernel_rfl) (by kernel_rfl) (fun _ _ _ h => h) ?_ (by assumption) ?_
  · intro oi ho
    simp at ho
    subst ho
    refine ⟨by rfl, fun w hSw => ?_⟩
    (try dsimp only at hSw)
    go_simp
  simp only [Act.put, List.setIfInBounds_toArray, List.set_cons_zero, List.set_cons_succ]
  refine held_call (i := 40) (by kernel_rfl) (by kernel_rfl) ?_
  intro oi ho
  simp at ho
  subst ho
  intro K' hK
  go_simp
  refine (works_any _).mono ?_
  rintro e U ⟨rfl, hU⟩
  have PB := Lib.hid (Below.trans (by have := PB.out; repeat (first | (with_reducible exact Below.refl _ _) | (with_reducible assumption) | (with_reducible refine below_drewN ?_ _) | (with_reducible refine Below.drew ?_) | ((with_reducible refine Below.alloc ?_ ?_ _); rotate_left; focus (first | (with_reducible exact Nat.le_refl _) | omega | (simp; done) | (simp; omega))) | ((with_reducible refine Below.setCell (p := ⟨_, _, _⟩) ?_ ?_ _); rotate_left; focus (first | (with_reducible exact Nat.le_refl _) | omega | (simp; done) | (simp; omega))))) (hU.mono (by have := PB.out.size; (try simp); try omega)) : Below V3.heap.size V3 U)
  have cU := (bcell PB.out).1
  clear hU
  try go_simp
  refine hK.out _ _ ?_ (fun hHeld => ?_)
  · go_keep
  try simp only [Act.put, List.setIfInBounds_toArray, List.set_cons_zero, List.set_cons_succ]
  clear hK K'
  refine held_take (i := 41) (d := 74) (v := .bool true) (by kernel_rfl) (by kernel_rfl) (by kernel_rfl) (by kernel_rfl) (fun _ _ _ h => h) ?_ (by assumption) ?_
  · intro oi ho
    simp at ho
    subst ho
    refine ⟨by rfl, fun w hSw => ?_⟩
    (try dsimp only at hSw)
    go_simp
  simp only [Act.put, List.setIfInBounds_toArray, List.set_cons_zero, List.set_cons_succ]
  refine held_take (i := 42) (d := 6) (v := .bool true) (by kernel_rfl) (by kernel_rfl) (by kernel_rfl) (by kernel_rfl) (fun _ _ _ h => h) ?_ (by assumption) ?_
  · intro oi ho
    simp at ho
    subst ho
    refine ⟨by rfl, fun w hSw => ?_⟩
    (try dsimp only at hSw)
    go_simp
  simp only [Act.put, List.setIfInBounds_toArray, List.set_cons_zero, List.set_cons_succ]
  refine wpAnyH_done (by kernel_rfl) ?_ _
  go_wp2_with fail
  have E := E.trans (PB.out.mono E.size)
  go_light
  go_ret
  exact ⟨rfl, by (repeat (first | (with_reducible exact Below.refl _ _) | (with_reducible assumption) | (with_reducible refine below_drewN ?_ _) | (with_reducible refine Below.drew ?_) | ((with_reducible refine Below.alloc ?_ ?_ _); rotate_left; focus (first | (with_reducible exact Nat.le_refl _) | omega | (simp; done) | (simp; omega))) | ((with_reducible refine Below.setCell (p := ⟨_, _, _⟩) ?_ ?_ _); rotate_left; focus (first | (with_reducible exact Nat.le_refl _) | omega | (simp; done) | (simp; omega)))))⟩

theorem orders_any (n l s a1 a2 b1 b2 me : Int) (w : World) :
    Calls Try.prog 5 #[.agg #[.int .i64 n, .int .i64 l, .int .i64 s], .agg #[.int .i64 a1, .int .i64 a2, .int .i64 b1, .int .i64 b2], .int .i64 me] w fun e w' => e = .returned (.bool true) ∧ Below w.heap.size w w' := by
  cases h : epR n l s (a1, a2)
  · exact orders_false n l s a1 a2 b1 b2 me w h
  · exact orders_true n l s a1 a2 b1 b2 me w h

end Go.Proofs.Ytnkkfkbchijfnaa
