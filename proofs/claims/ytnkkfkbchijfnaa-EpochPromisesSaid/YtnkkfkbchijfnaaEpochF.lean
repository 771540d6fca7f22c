/- Epochs: EpochPromises, walked. -/
import Derived.Test.YtnkkfkbchijfnaaEpochE
namespace Go.Proofs.Ytnkkfkbchijfnaa
open Go.RowKit Go.Shelf

set_option maxRecDepth 100000 in
set_option maxHeartbeats 4000000 in
theorem promises_any (n l s a b c d : Int) (f : Bool) (w : World) :
    Calls Try.prog 3 #[.agg #[.int .i64 n, .int .i64 l, .int .i64 s], .agg #[.int .i64 a, .int .i64 b, .bool f], .agg #[.int .i64 c, .int .i64 d]] w fun e w' => e = .returned (.bool true) ∧ Below w.heap.size w w' := by
  obtain ⟨q, hq⟩ : ∃ q, q = askR n l s ((a, b), f) (c, d) := ⟨_, rfl⟩
  obtain ⟨⟨⟨x1, x2⟩, xf⟩, xb, xe⟩ := q
  obtain ⟨r, hr⟩ : ∃ q, q = hearR n l s ((a, b), f) (c, d) := ⟨_, rfl⟩
  obtain ⟨⟨⟨y1, y2⟩, yf⟩, yb, ye⟩ := r
  have HQ := Lib.hid hq.symm
  have HR := Lib.hid hr.symm
  clear hq hr
  go_enter Try.func3, Try.ntmps3
  go_wp2_with fail
  obtain ⟨V0, hV⟩ : ∃ V, V = ((w.alloc (.cells #[.int .i64 n, .int .i64 l, .int .i64 s] 23)).alloc (.cells #[.int .i64 a, .int .i64 b, .bool f] 27)).alloc (.cells #[.int .i64 c, .int .i64 d] 25) := ⟨_, rfl⟩
  rw [← hV]
  have E : Below w.heap.size w V0 := by rw [hV]; (repeat (first | (with_reducible exact Below.refl _ _) | (with_reducible assumption) | (with_reducible refine below_drewN ?_ _) | (with_reducible refine Below.drew ?_) | ((with_reducible refine Below.alloc ?_ ?_ _); rotate_left; focus (first | (with_reducible exact Nat.le_refl _) | omega | (simp; done) | (simp; omega))) | ((with_reducible refine Below.setCell (p := ⟨_, _, _⟩) ?_ ?_ _); rotate_left; focus (first | (with_reducible exact Nat.le_refl _) | omega | (simp; done) | (simp; omega)))))
  have s0 : V0.cell? ⟨w.heap.size, 0, none⟩ = some (.int .i64 n) := by rw [hV]; go_simp
  have s1 : V0.cell? ⟨w.heap.size, 1, none⟩ = some (.int .i64 l) := by rw [hV]; go_simp
  have s2 : V0.cell? ⟨w.heap.size, 2, none⟩ = some (.int .i64 s) := by rw [hV]; go_simp
  have ls : w.heap.size < V0.heap.size := by rw [hV]; simp; try omega
  have p0 : V0.cell? ⟨w.heap.size + 1, 0, none⟩ = some (.int .i64 a) := by rw [hV]; go_simp
  have p1 : V0.cell? ⟨w.heap.size + 1, 1, none⟩ = some (.int .i64 b) := by rw [hV]; go_simp
  have p2 : V0.cell? ⟨w.heap.size + 1, 2, none⟩ = some (.bool f) := by rw [hV]; go_simp
  have lp : w.heap.size + 1 < V0.heap.size := by rw [hV]; simp; try omega
  have ep0 : V0.cell? ⟨w.heap.size + 1 + 1, 0, none⟩ = some (.int .i64 c) := by rw [hV]; go_simp
  have ep1 : V0.cell? ⟨w.heap.size + 1 + 1, 1, none⟩ = some (.int .i64 d) := by rw [hV]; go_simp
  have lep : w.heap.size + 1 + 1 < V0.heap.size := by rw [hV]; simp; try omega
  clear hV
  have kk := ask_any n l s a b c d f V0
  rw [HQ.out] at kk
  refine kk.mono ?_
  clear kk
  rintro e U1 ⟨rfl, hU⟩
  have zU := hU.size
  have cU := (bcell hU).1
  have ms : w.heap.size < U1.heap.size := Nat.lt_of_lt_of_le ls zU
  have mp : w.heap.size + 1 < U1.heap.size := Nat.lt_of_lt_of_le lp zU
  have mep : w.heap.size + 1 + 1 < U1.heap.size := Nat.lt_of_lt_of_le lep zU
  go_wp2_with fail
  obtain ⟨V1, hV⟩ : ∃ V, V = (U1.alloc (.cells #[.int .i64 x1, .int .i64 x2, .bool xf] 27)) := ⟨_, rfl⟩
  rw [← hV]
  obtain ⟨ZV1, hZ⟩ : ∃ Z, Z = U1.heap.size := ⟨_, rfl⟩
  rw [← hZ]
  have g : Below V0.heap.size V0 V1 := by rw [hV]; have := hU; (repeat (first | (with_reducible exact Below.refl _ _) | (with_reducible assumption) | (with_reducible refine below_drewN ?_ _) | (with_reducible refine Below.drew ?_) | ((with_reducible refine Below.alloc ?_ ?_ _); rotate_left; focus (first | (with_reducible exact Nat.le_refl _) | omega | (simp; done) | (simp; omega))) | ((with_reducible refine Below.setCell (p := ⟨_, _, _⟩) ?_ ?_ _); rotate_left; focus (first | (with_reducible exact Nat.le_refl _) | omega | (simp; done) | (simp; omega)))))
  have s0 := (g.cell (p := ⟨w.heap.size, 0, none⟩) ls).trans s0
  have s1 := (g.cell (p := ⟨w.heap.size, 1, none⟩) ls).trans s1
  have s2 := (g.cell (p := ⟨w.heap.size, 2, none⟩) ls).trans s2
  have ls : w.heap.size < V1.heap.size := Nat.lt_of_lt_of_le ls g.size
  have p0 := (g.cell (p := ⟨w.heap.size + 1, 0, none⟩) lp).trans p0
  have p1 := (g.cell (p := ⟨w.heap.size + 1, 1, none⟩) lp).trans p1
  have p2 := (g.cell (p := ⟨w.heap.size + 1, 2, none⟩) lp).trans p2
  have lp : w.heap.size + 1 < V1.heap.size := Nat.lt_of_lt_of_le lp g.size
  have ep0 := (g.cell (p := ⟨w.heap.size + 1 + 1, 0, none⟩) lep).trans ep0
  have ep1 := (g.cell (p := ⟨w.heap.size + 1 + 1, 1, none⟩) lep).trans ep1
  have lep : w.heap.size + 1 + 1 < V1.heap.size := Nat.lt_of_lt_of_le lep g.size
  have q0 : V1.cell? ⟨ZV1, 0, none⟩ = some (.int .i64 x1) := by rw [hV, hZ]; go_simp
  have q1 : V1.cell? ⟨ZV1, 1, none⟩ = some (.int .i64 x2) := by rw [hV, hZ]; go_simp
  have q2 : V1.cell? ⟨ZV1, 2, none⟩ = some (.bool xf) := by rw [hV, hZ]; go_simp
  have lq : ZV1 < V1.heap.size := by rw [hV, hZ]; simp; try omega
  have E := E.trans (g.mono E.size)
  clear g hU cU zU hV hZ ms mp mep
  have kk := refAsk_any n l s a b c d f V1
  rw [HQ.out] at kk
  refine kk.mono ?_
  clear kk
  rintro e U2 ⟨rfl, hU⟩
  have zU := hU.size
  have cU := (bcell hU).1
  have ms : w.heap.size < U2.heap.size := Nat.lt_of_lt_of_le ls zU
  have mp : w.heap.size + 1 < U2.heap.size := Nat.lt_of_lt_of_le lp zU
  have mep : w.heap.size + 1 + 1 < U2.heap.size := Nat.lt_of_lt_of_le lep zU
  have mq : ZV1 < U2.heap.size := Nat.lt_of_lt_of_le lq zU
  go_wp2_with fail
  obtain ⟨V2, hV⟩ : ∃ V, V = (U2.alloc (.cells #[.int .i64 x1, .int .i64 x2, .bool xf] 27)) := ⟨_, rfl⟩
  rw [← hV]
  obtain ⟨ZV2, hZ⟩ : ∃ Z, Z = U2.heap.size := ⟨_, rfl⟩
  rw [← hZ]
  have g : Below V1.heap.size V1 V2 := by rw [hV]; have := hU; (repeat (first | (with_reducible exact Below.refl _ _) | (with_reducible assumption) | (with_reducible refine below_drewN ?_ _) | (with_reducible refine Below.drew ?_) | ((with_reducible refine Below.alloc ?_ ?_ _); rotate_left; focus (first | (with_reducible exact Nat.le_refl _) | omega | (simp; done) | (simp; omega))) | ((with_reducible refine Below.setCell (p := ⟨_, _, _⟩) ?_ ?_ _); rotate_left; focus (first | (with_reducible exact Nat.le_refl _) | omega | (simp; done) | (simp; omega)))))
  have s0 := (g.cell (p := ⟨w.heap.size, 0, none⟩) ls).trans s0
  have s1 := (g.cell (p := ⟨w.heap.size, 1, none⟩) ls).trans s1
  have s2 := (g.cell (p := ⟨w.heap.size, 2, none⟩) ls).trans s2
  have ls : w.heap.size < V2.heap.size := Nat.lt_of_lt_of_le ls g.size
  have p0 := (g.cell (p := ⟨w.heap.size + 1, 0, none⟩) lp).trans p0
  have p1 := (g.cell (p := ⟨w.heap.size + 1, 1, none⟩) lp).trans p1
  have p2 := (g.cell (p := ⟨w.heap.size + 1, 2, none⟩) lp).trans p2
  have lp : w.heap.size + 1 < V2.heap.size := Nat.lt_of_lt_of_le lp g.size
  have ep0 := (g.cell (p := ⟨w.heap.size + 1 + 1, 0, none⟩) lep).trans ep0
  have ep1 := (g.cell (p := ⟨w.heap.size + 1 + 1, 1, none⟩) lep).trans ep1
  have lep : w.heap.size + 1 + 1 < V2.heap.size := Nat.lt_of_lt_of_le lep g.size
  have q0 := (g.cell (p := ⟨ZV1, 0, none⟩) lq).trans q0
  have q1 := (g.cell (p := ⟨ZV1, 1, none⟩) lq).trans q1
  have q2 := (g.cell (p := ⟨ZV1, 2, none⟩) lq).trans q2
  have lq : ZV1 < V2.heap.size := Nat.lt_of_lt_of_le lq g.size
  have r0 : V2.cell? ⟨ZV2, 0, none⟩ = some (.int .i64 x1) := by rw [hV, hZ]; go_simp
  have r1 : V2.cell? ⟨ZV2, 1, none⟩ = some (.int .i64 x2) := by rw [hV, hZ]; go_simp
  have r2 : V2.cell? ⟨ZV2, 2, none⟩ = some (.bool xf) := by rw [hV, hZ]; go_simp
  have lr : ZV2 < V2.heap.size := by rw [hV, hZ]; simp; try omega
  have E := E.trans (g.mono E.size)
  clear g hU cU zU hV hZ ms mp mep mq
  have kk := hear_any n l s a b c d f V2
  rw [HR.out] at kk
  refine kk.mono ?_
  clear kk
  rintro e U3 ⟨rfl, hU⟩
  have zU := hU.size
  have cU := (bcell hU).1
  have ms : w.heap.size < U3.heap.size := Nat.lt_of_lt_of_le ls zU
  have mp : w.heap.size + 1 < U3.heap.size := Nat.lt_of_lt_of_le lp zU
  have mep : w.heap.size + 1 + 1 < U3.heap.size := Nat.lt_of_lt_of_le lep zU
  have mq : ZV1 < U3.heap.size := Nat.lt_of_lt_of_le lq zU
  have mr : ZV2 < U3.heap.size := Nat.lt_of_lt_of_le lr zU
  go_wp2_with fail
  obtain ⟨V3, hV⟩ : ∃ V, V = (U3.alloc (.cells #[.int .i64 y1, .int .i64 y2, .bool yf] 27)) := ⟨_, rfl⟩
  rw [← hV]
  obtain ⟨ZV3, hZ⟩ : ∃ Z, Z = U3.heap.size := ⟨_, rfl⟩
  rw [← hZ]
  have g : Below V2.heap.size V2 V3 := by rw [hV]; have := hU; (repeat (first | (with_reducible exact Below.refl _ _) | (with_reducible assumption) | (with_reducible refine below_drewN ?_ _) | (with_reducible refine Below.drew ?_) | ((with_reducible refine Below.alloc ?_ ?_ _); rotate_left; focus (first | (with_reducible exact Nat.le_refl _) | omega | (simp; done) | (simp; omega))) | ((with_reducible refine Below.setCell (p := ⟨_, _, _⟩) ?_ ?_ _); rotate_left; focus (first | (with_reducible exact Nat.le_refl _) | omega | (simp; done) | (simp; omega)))))
  have s0 := (g.cell (p := ⟨w.heap.size, 0, none⟩) ls).trans s0
  have s1 := (g.cell (p := ⟨w.heap.size, 1, none⟩) ls).trans s1
  have s2 := (g.cell (p := ⟨w.heap.size, 2, none⟩) ls).trans s2
  have ls : w.heap.size < V3.heap.size := Nat.lt_of_lt_of_le ls g.size
  have p0 := (g.cell (p := ⟨w.heap.size + 1, 0, none⟩) lp).trans p0
  have p1 := (g.cell (p := ⟨w.heap.size + 1, 1, none⟩) lp).trans p1
  have p2 := (g.cell (p := ⟨w.heap.size + 1, 2, none⟩) lp).trans p2
  have lp : w.heap.size + 1 < V3.heap.size := Nat.lt_of_lt_of_le lp g.size
  have ep0 := (g.cell (p := ⟨w.heap.size + 1 + 1, 0, none⟩) lep).trans ep0
  have ep1 := (g.cell (p := ⟨w.heap.size + 1 + 1, 1, none⟩) lep).trans ep1
  have lep : w.heap.size + 1 + 1 < V3.heap.size := Nat.lt_of_lt_of_le lep g.size
  have q0 := (g.cell (p := ⟨ZV1, 0, none⟩) lq).trans q0
  have q1 := (g.cell (p := ⟨ZV1, 1, none⟩) lq).trans q1
  have q2 := (g.cell (p := ⟨ZV1, 2, none⟩) lq).trans q2
  have lq : ZV1 < V3.heap.size := Nat.lt_of_lt_of_le lq g.size
  have r0 := (g.cell (p := ⟨ZV2, 0, none⟩) lr).trans r0
  have r1 := (g.cell (p := ⟨ZV2, 1, none⟩) lr).trans r1
  have r2 := (g.cell (p := ⟨ZV2, 2, none⟩) lr).trans r2
  have lr : ZV2 < V3.heap.size := Nat.lt_of_lt_of_le lr g.size
  have u0 : V3.cell? ⟨ZV3, 0, none⟩ = some (.int .i64 y1) := by rw [hV, hZ]; go_simp
  have u1 : V3.cell? ⟨ZV3, 1, none⟩ = some (.int .i64 y2) := by rw [hV, hZ]; go_simp
  have u2 : V3.cell? ⟨ZV3, 2, none⟩ = some (.bool yf) := by rw [hV, hZ]; go_simp
  have lu : ZV3 < V3.heap.size := by rw [hV, hZ]; simp; try omega
  have E := E.trans (g.mono E.size)
  clear g hU cU zU hV hZ ms mp mep mq mr
  have kk := refHear_any n l s a b c d f V3
  rw [HR.out] at kk
  refine kk.mono ?_
  clear kk
  rintro e U4 ⟨rfl, hU⟩
  have zU := hU.size
  have cU := (bcell hU).1
  have ms : w.heap.size < U4.heap.size := Nat.lt_of_lt_of_le ls zU
  have mp : w.heap.size + 1 < U4.heap.size := Nat.lt_of_lt_of_le lp zU
  have mep : w.heap.size + 1 + 1 < U4.heap.size := Nat.lt_of_lt_of_le lep zU
  have mq : ZV1 < U4.heap.size := Nat.lt_of_lt_of_le lq zU
  have mr : ZV2 < U4.heap.size := Nat.lt_of_lt_of_le lr zU
  have mu : ZV3 < U4.heap.size := Nat.lt_of_lt_of_le lu zU
  go_wp2_with (go_at_call 10; refine (num_any _ _).mono ?_; rintro e w' ⟨rfl, rfl⟩)
  obtain ⟨V4, hV⟩ : ∃ V, V = (U4.alloc (.cells #[.int .i64 y1, .int .i64 y2, .bool yf] 27)) := ⟨_, rfl⟩
  rw [← hV]
  obtain ⟨ZV4, hZ⟩ : ∃ Z, Z = U4.heap.size := ⟨_, rfl⟩
  rw [← hZ]
  have g : Below V3.heap.size V3 V4 := by rw [hV]; have := hU; (repeat (first | (with_reducible exact Below.refl _ _) | (with_reducible assumption) | (with_reducible refine below_drewN ?_ _) | (with_reducible refine Below.drew ?_) | ((with_reducible refine Below.alloc ?_ ?_ _); rotate_left; focus (first | (with_reducible exact Nat.le_refl _) | omega | (simp; done) | (simp; omega))) | ((with_reducible refine Below.setCell (p := ⟨_, _, _⟩) ?_ ?_ _); rotate_left; focus (first | (with_reducible exact Nat.le_refl _) | omega | (simp; done) | (simp; omega)))))
  have s0 := (g.cell (p := ⟨w.heap.size, 0, none⟩) ls).trans s0
  have s1 := (g.cell (p := ⟨w.heap.size, 1, none⟩) ls).trans s1
  have s2 := (g.cell (p := ⟨w.heap.size, 2, none⟩) ls).trans s2
  have ls : w.heap.size < V4.heap.size := Nat.lt_of_lt_of_le ls g.size
  have p0 := (g.cell (p := ⟨w.heap.size + 1, 0, none⟩) lp).trans p0
  have p1 := (g.cell (p := ⟨w.heap.size + 1, 1, none⟩) lp).trans p1
  have p2 := (g.cell (p := ⟨w.heap.size + 1, 2, none⟩) lp).trans p2
  have lp : w.heap.size + 1 < V4.heap.size := Nat.lt_of_lt_of_le lp g.size
  have ep0 := (g.cell (p := ⟨w.heap.size + 1 + 1, 0, none⟩) lep).trans ep0
  have ep1 := (g.cell (p := ⟨w.heap.size + 1 + 1, 1, none⟩) lep).trans ep1
  have lep : w.heap.size + 1 + 1 < V4.heap.size := Nat.lt_of_lt_of_le lep g.size
  have q0 := (g.cell (p := ⟨ZV1, 0, none⟩) lq).trans q0
  have q1 := (g.cell (p := ⟨ZV1, 1, none⟩) lq).trans q1
  have q2 := (g.cell (p := ⟨ZV1, 2, none⟩) lq).trans q2
  have lq : ZV1 < V4.heap.size := Nat.lt_of_lt_of_le lq g.size
  have r0 := (g.cell (p := ⟨ZV2, 0, none⟩) lr).trans r0
  have r1 := (g.cell (p := ⟨ZV2, 1, none⟩) lr).trans r1
  have r2 := (g.cell (p := ⟨ZV2, 2, none⟩) lr).trans r2
  have lr : ZV2 < V4.heap.size := Nat.lt_of_lt_of_le lr g.size
  have u0 := (g.cell (p := ⟨ZV3, 0, none⟩) lu).trans u0
  have u1 := (g.cell (p := ⟨ZV3, 1, none⟩) lu).trans u1
  have u2 := (g.cell (p := ⟨ZV3, 2, none⟩) lu).trans u2
  have lu : ZV3 < V4.heap.size := Nat.lt_of_lt_of_le lu g.size
  have v0 : V4.cell? ⟨ZV4, 0, none⟩ = some (.int .i64 y1) := by rw [hV, hZ]; go_simp
  have v1 : V4.cell? ⟨ZV4, 1, none⟩ = some (.int .i64 y2) := by rw [hV, hZ]; go_simp
  have v2 : V4.cell? ⟨ZV4, 2, none⟩ = some (.bool yf) := by rw [hV, hZ]; go_simp
  have lv : ZV4 < V4.heap.size := by rw [hV, hZ]; simp; try omega
  have E := E.trans (g.mono E.size)
  clear g hU cU zU hV hZ ms mp mep mq mr mu
  refine (works_any V4).mono ?_
  rintro e U ⟨rfl, hU⟩
  have E := E.trans (hU.mono E.size)
  go_wp2
  go_ret
  exact ⟨rfl, E⟩

end Go.Proofs.Ytnkkfkbchijfnaa
