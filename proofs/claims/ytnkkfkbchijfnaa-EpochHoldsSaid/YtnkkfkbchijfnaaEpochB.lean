/- Epochs: Check, Next, Ask, Hear, and the references'. -/
import Derived.Test.YtnkkfkbchijfnaaEpochA
namespace Go.Proofs.Ytnkkfkbchijfnaa
open Go.RowKit Go.Shelf

theorem order_is {a1 a2 b1 b2 o : Int} (h : ordS (a1, a2) (b1, b2) = o) (w : World) :
    Calls Try.prog 13 #[.agg #[.int .i64 a1, .int .i64 a2], .agg #[.int .i64 b1, .int .i64 b2]] w fun e w' => e = .returned (.int .i64 o) ∧ Below w.heap.size w w' := by
  have := order_any a1 a2 b1 b2 w
  rw [h] at this
  exact this
theorem refOrder_is {a1 a2 b1 b2 o : Int} (h : ordS (a1, a2) (b1, b2) = o) (w : World) :
    Calls Try.prog 18 #[.agg #[.int .i64 a1, .int .i64 a2], .agg #[.int .i64 b1, .int .i64 b2]] w fun e w' => e = .returned (.int .i64 o) ∧ Below w.heap.size w w' := by
  have := refOrder_any a1 a2 b1 b2 w
  rw [h] at this
  exact this

/-- What Ask and Hear answer. -/
def askR (n l s : Int) (q : (Int × Int) × Bool) (e : Int × Int) : ((Int × Int) × Bool) × Bool × Int :=
  if epR n l s q.1 = false ∨ epR n l s e = false then (((0, 0), false), false, 2)
  else if ordS e q.1 ≤ 0 then (q, false, 0) else ((e, true), true, 0)
def hearR (n l s : Int) (q : (Int × Int) × Bool) (e : Int × Int) : ((Int × Int) × Bool) × Bool × Int :=
  if epR n l s q.1 = false ∨ epR n l s e = false then (((0, 0), false), false, 2)
  else if q.1 = e then ((e, false), true, 0) else (q, false, 0)
def AskPost (w : World) (r : ((Int × Int) × Bool) × Bool × Int) (e : Ending) (w' : World) : Prop :=
  e = .returned (.tuple #[.agg #[.int .i64 r.1.1.1, .int .i64 r.1.1.2, .bool r.1.2], .bool r.2.1, .int .i64 r.2.2]) ∧ Below w.heap.size w w'
def nextR (n l s : Int) (e : Int × Int) (me : Int) : (Int × Int) × Int :=
  if epR n l s e = false ∨ epR n l s (0, me) = false then ((0, 0), 2) else if 1099511627776 ≤ e.1 then ((0, 0), 260) else ((e.1 + 1, me), 0)
def NextPost (w : World) (r : (Int × Int) × Int) (e : Ending) (w' : World) : Prop :=
  e = .returned (.tuple #[.agg #[.int .i64 r.1.1, .int .i64 r.1.2], .int .i64 r.2]) ∧ Below w.heap.size w w'
theorem two_of {n l s : Int} {a b : Int × Int} {r : Bool} (h : (epR n l s a && epR n l s b) = r) : (shapeB n l s && [a, b].all (epB n)) = r := by
  rw [← h]; unfold epR; simp only [List.all_cons, List.all_nil, Bool.and_true]; cases shapeB n l s <;> cases epB n a <;> rfl
theorem one_of {n l s : Int} {a : Int × Int} {r : Bool} (h : epR n l s a = r) : (shapeB n l s && [a].all (epB n)) = r := by
  rw [← h]; unfold epR; simp only [List.all_cons, List.all_nil, Bool.and_true]
theorem epR_me {n l s me : Int} (hs : shapeB n l s = true) : epR n l s (0, me) = (decide (0 ≤ me) && decide (me < n)) := by
  unfold epR epB; rw [hs]; simp
theorem epR_shape {n l s : Int} {e : Int × Int} (h : epR n l s e = true) : shapeB n l s = true := by
  unfold epR at h; simp at h; exact h.1
theorem epR_count {n l s : Int} {e : Int × Int} (h : epR n l s e = true) : 0 ≤ e.1 ∧ e.1 ≤ 1099511627776 := by
  unfold epR epB at h; simp at h; exact h.2.1

set_option maxRecDepth 100000 in
set_option maxHeartbeats 1000000 in
theorem ask_bad (n l s a b c d : Int) (f : Bool) (w : World) (h : (epR n l s (a, b) && epR n l s (c, d)) = false) :
    Calls Try.prog 6 #[.agg #[.int .i64 n, .int .i64 l, .int .i64 s], .agg #[.int .i64 a, .int .i64 b, .bool f], .agg #[.int .i64 c, .int .i64 d]] w (AskPost w (((0, 0), false), false, 2)) := by
  have HR := Lib.hid (two_of h)
  clear h
  go_enter Try.func6, Try.ntmps6
  go_wp2_with fail
  refine wp_scope_fwd 0 rfl ?_
  go_wp2_with fail
  refine (right_is HR.out (by simp) _ _ (Sl.lit2P (by go_simp) (by go_simp) (by go_simp) (by go_simp))).mono ?_
  rintro e W1 ⟨rfl, hB1⟩
  obtain ⟨chB1, fhB1⟩ := bcell hB1
  have zhB1 := hB1.size
  (try simp at zhB1)
  have hB : Below w.heap.size w W1 := (Below.trans (by (repeat (first | (with_reducible exact Below.refl _ _) | (with_reducible assumption) | (with_reducible refine below_drewN ?_ _) | (with_reducible refine Below.drew ?_) | ((with_reducible refine Below.alloc ?_ ?_ _); rotate_left; focus (first | (with_reducible exact Nat.le_refl _) | omega | (simp; done) | (simp; omega))) | ((with_reducible refine Below.setCell (p := ⟨_, _, _⟩) ?_ ?_ _); rotate_left; focus (first | (with_reducible exact Nat.le_refl _) | omega | (simp; done) | (simp; omega)))))) (hB1.mono (by simp; try omega)))
  go_wp2
  go_step3
  refine ⟨rfl, ?_⟩
  go_wp2
  rw [Exit.noGoto_ret]
  refine bodyPost_ret (v := .tuple #[.agg #[.int .i64 0, .int .i64 0, .bool false], .bool false, .int .i64 2]) (by simp [results, Try.results6, go_sem, chB1]) rfl ⟨rfl, ?_⟩
  go_light
  (repeat (first | (with_reducible exact Below.refl _ _) | (with_reducible assumption) | (with_reducible refine below_drewN ?_ _) | (with_reducible refine Below.drew ?_) | ((with_reducible refine Below.alloc ?_ ?_ _); rotate_left; focus (first | (with_reducible exact Nat.le_refl _) | omega | (simp; done) | (simp; omega))) | ((with_reducible refine Below.setCell (p := ⟨_, _, _⟩) ?_ ?_ _); rotate_left; focus (first | (with_reducible exact Nat.le_refl _) | omega | (simp; done) | (simp; omega)))))

set_option maxRecDepth 100000 in
set_option maxHeartbeats 1000000 in
theorem ask_no (n l s a b c d : Int) (f : Bool) (w : World) (h : (epR n l s (a, b) && epR n l s (c, d)) = true) (o : Int) (ho : ordS (c, d) (a, b) = o) (hle : o ≤ 0) :
    Calls Try.prog 6 #[.agg #[.int .i64 n, .int .i64 l, .int .i64 s], .agg #[.int .i64 a, .int .i64 b, .bool f], .agg #[.int .i64 c, .int .i64 d]] w (AskPost w (((a, b), f), false, 0)) := by
  have HR := Lib.hid (two_of h)
  have HO := Lib.hid ho
  clear h ho
  go_enter Try.func6, Try.ntmps6
  go_wp2_with fail
  refine wp_scope_fwd 0 rfl ?_
  go_wp2_with fail
  refine (right_is HR.out (by simp) _ _ (Sl.lit2P (by go_simp) (by go_simp) (by go_simp) (by go_simp))).mono ?_
  rintro e W1 ⟨rfl, hB1⟩
  obtain ⟨chB1, fhB1⟩ := bcell hB1
  have zhB1 := hB1.size
  (try simp at zhB1)
  have hB : Below w.heap.size w W1 := (Below.trans (by (repeat (first | (with_reducible exact Below.refl _ _) | (with_reducible assumption) | (with_reducible refine below_drewN ?_ _) | (with_reducible refine Below.drew ?_) | ((with_reducible refine Below.alloc ?_ ?_ _); rotate_left; focus (first | (with_reducible exact Nat.le_refl _) | omega | (simp; done) | (simp; omega))) | ((with_reducible refine Below.setCell (p := ⟨_, _, _⟩) ?_ ?_ _); rotate_left; focus (first | (with_reducible exact Nat.le_refl _) | omega | (simp; done) | (simp; omega)))))) (hB1.mono (by simp; try omega)))
  go_wp2_with fail
  refine (order_is HO.out _).mono ?_
  rintro e W2 ⟨rfl, hB2⟩
  have chB2 : ∀ b o, b < w.heap.size + 1 + 1 + 1 + 1 + 1 + 1 → W2.cell? ⟨b, o, none⟩ = W1.cell? ⟨b, o, none⟩ := fun b o h => hB2.cell (p := ⟨b, o, none⟩) (by dsimp only; omega)
  have fhB2 : ∀ b o, b < w.heap.size + 1 + 1 + 1 + 1 + 1 + 1 → W2.frozen? ⟨b, o, none⟩ = W1.frozen? ⟨b, o, none⟩ := fun b o h => hB2.frozen (p := ⟨b, o, none⟩) (by dsimp only; omega)
  have zhB2 := hB2.size
  have hC := hB.trans (hB2.mono hB.size)
  go_wp2
  rw [jump_ret]
  refine bodyPost_ret (v := .tuple #[.agg #[.int .i64 a, .int .i64 b, .bool f], .bool false, .int .i64 0]) (by simp [results, Try.results6, go_sem, chB1, chB2]) rfl ⟨rfl, ?_⟩
  go_light
  (repeat (first | (with_reducible exact Below.refl _ _) | (with_reducible assumption) | (with_reducible refine below_drewN ?_ _) | (with_reducible refine Below.drew ?_) | ((with_reducible refine Below.alloc ?_ ?_ _); rotate_left; focus (first | (with_reducible exact Nat.le_refl _) | omega | (simp; done) | (simp; omega))) | ((with_reducible refine Below.setCell (p := ⟨_, _, _⟩) ?_ ?_ _); rotate_left; focus (first | (with_reducible exact Nat.le_refl _) | omega | (simp; done) | (simp; omega)))))

set_option maxRecDepth 100000 in
set_option maxHeartbeats 1000000 in
theorem ask_yes (n l s a b c d : Int) (f : Bool) (w : World) (h : (epR n l s (a, b) && epR n l s (c, d)) = true) (o : Int) (ho : ordS (c, d) (a, b) = o) (hle : 0 < o) :
    Calls Try.prog 6 #[.agg #[.int .i64 n, .int .i64 l, .int .i64 s], .agg #[.int .i64 a, .int .i64 b, .bool f], .agg #[.int .i64 c, .int .i64 d]] w (AskPost w (((c, d), true), true, 0)) := by
  have HR := Lib.hid (two_of h)
  have HO := Lib.hid ho
  clear h ho
  go_enter Try.func6, Try.ntmps6
  go_wp2_with fail
  refine wp_scope_fwd 0 rfl ?_
  go_wp2_with fail
  refine (right_is HR.out (by simp) _ _ (Sl.lit2P (by go_simp) (by go_simp) (by go_simp) (by go_simp))).mono ?_
  rintro e W1 ⟨rfl, hB1⟩
  obtain ⟨chB1, fhB1⟩ := bcell hB1
  have zhB1 := hB1.size
  (try simp at zhB1)
  have hB : Below w.heap.size w W1 := (Below.trans (by (repeat (first | (with_reducible exact Below.refl _ _) | (with_reducible assumption) | (with_reducible refine below_drewN ?_ _) | (with_reducible refine Below.drew ?_) | ((with_reducible refine Below.alloc ?_ ?_ _); rotate_left; focus (first | (with_reducible exact Nat.le_refl _) | omega | (simp; done) | (simp; omega))) | ((with_reducible refine Below.setCell (p := ⟨_, _, _⟩) ?_ ?_ _); rotate_left; focus (first | (with_reducible exact Nat.le_refl _) | omega | (simp; done) | (simp; omega)))))) (hB1.mono (by simp; try omega)))
  go_wp2_with fail
  refine (order_is HO.out _).mono ?_
  rintro e W2 ⟨rfl, hB2⟩
  have chB2 : ∀ b o, b < w.heap.size + 1 + 1 + 1 + 1 + 1 + 1 → W2.cell? ⟨b, o, none⟩ = W1.cell? ⟨b, o, none⟩ := fun b o h => hB2.cell (p := ⟨b, o, none⟩) (by dsimp only; omega)
  have fhB2 : ∀ b o, b < w.heap.size + 1 + 1 + 1 + 1 + 1 + 1 → W2.frozen? ⟨b, o, none⟩ = W1.frozen? ⟨b, o, none⟩ := fun b o h => hB2.frozen (p := ⟨b, o, none⟩) (by dsimp only; omega)
  have zhB2 := hB2.size
  have hC := hB.trans (hB2.mono hB.size)
  go_wp2
  rw [jump_ret]
  refine bodyPost_ret (v := .tuple #[.agg #[.int .i64 c, .int .i64 d, .bool true], .bool true, .int .i64 0]) (by simp [results, Try.results6, go_sem, chB1, chB2]) rfl ⟨rfl, ?_⟩
  go_light
  (repeat (first | (with_reducible exact Below.refl _ _) | (with_reducible assumption) | (with_reducible refine below_drewN ?_ _) | (with_reducible refine Below.drew ?_) | ((with_reducible refine Below.alloc ?_ ?_ _); rotate_left; focus (first | (with_reducible exact Nat.le_refl _) | omega | (simp; done) | (simp; omega))) | ((with_reducible refine Below.setCell (p := ⟨_, _, _⟩) ?_ ?_ _); rotate_left; focus (first | (with_reducible exact Nat.le_refl _) | omega | (simp; done) | (simp; omega)))))

set_option maxRecDepth 100000 in
set_option maxHeartbeats 1000000 in
theorem hear_bad (n l s a b c d : Int) (f : Bool) (w : World) (h : (epR n l s (a, b) && epR n l s (c, d)) = false) :
    Calls Try.prog 8 #[.agg #[.int .i64 n, .int .i64 l, .int .i64 s], .agg #[.int .i64 a, .int .i64 b, .bool f], .agg #[.int .i64 c, .int .i64 d]] w (AskPost w (((0, 0), false), false, 2)) := by
  have HR := Lib.hid (two_of h)
  clear h
  go_enter Try.func8, Try.ntmps8
  go_wp2_with fail
  refine (right_is HR.out (by simp) _ _ (Sl.lit2P (by go_simp) (by go_simp) (by go_simp) (by go_simp))).mono ?_
  rintro e W1 ⟨rfl, hB1⟩
  obtain ⟨chB1, fhB1⟩ := bcell hB1
  have zhB1 := hB1.size
  (try simp at zhB1)
  have hB : Below w.heap.size w W1 := (Below.trans (by (repeat (first | (with_reducible exact Below.refl _ _) | (with_reducible assumption) | (with_reducible refine below_drewN ?_ _) | (with_reducible refine Below.drew ?_) | ((with_reducible refine Below.alloc ?_ ?_ _); rotate_left; focus (first | (with_reducible exact Nat.le_refl _) | omega | (simp; done) | (simp; omega))) | ((with_reducible refine Below.setCell (p := ⟨_, _, _⟩) ?_ ?_ _); rotate_left; focus (first | (with_reducible exact Nat.le_refl _) | omega | (simp; done) | (simp; omega)))))) (hB1.mono (by simp; try omega)))
  go_wp2
  refine bodyPost_ret (v := .tuple #[.agg #[.int .i64 0, .int .i64 0, .bool false], .bool false, .int .i64 2]) (by simp [results, Try.results8, go_sem, chB1]) rfl ⟨rfl, ?_⟩
  go_light
  (repeat (first | (with_reducible exact Below.refl _ _) | (with_reducible assumption) | (with_reducible refine below_drewN ?_ _) | (with_reducible refine Below.drew ?_) | ((with_reducible refine Below.alloc ?_ ?_ _); rotate_left; focus (first | (with_reducible exact Nat.le_refl _) | omega | (simp; done) | (simp; omega))) | ((with_reducible refine Below.setCell (p := ⟨_, _, _⟩) ?_ ?_ _); rotate_left; focus (first | (with_reducible exact Nat.le_refl _) | omega | (simp; done) | (simp; omega)))))

set_option maxRecDepth 100000 in
set_option maxHeartbeats 1000000 in
theorem hear_no (n l s a b c d : Int) (f : Bool) (w : World) (h : (epR n l s (a, b) && epR n l s (c, d)) = true) (hne : ¬ (a = c ∧ b = d)) :
    Calls Try.prog 8 #[.agg #[.int .i64 n, .int .i64 l, .int .i64 s], .agg #[.int .i64 a, .int .i64 b, .bool f], .agg #[.int .i64 c, .int .i64 d]] w (AskPost w (((a, b), f), false, 0)) := by
  have hq : ¬ a = c ∨ (a = c ∧ ¬ b = d) := by omega
  have HR := Lib.hid (two_of h)
  clear h
  rcases hq with hq | ⟨rfl, hq⟩
  all_goals
    go_enter Try.func8, Try.ntmps8
    go_wp2_with fail
    refine (right_is HR.out (by simp) _ _ (Sl.lit2P (by go_simp) (by go_simp) (by go_simp) (by go_simp))).mono ?_
    rintro e W1 ⟨rfl, hB1⟩
    obtain ⟨chB1, fhB1⟩ := bcell hB1
    have zhB1 := hB1.size
    (try simp at zhB1)
    have hB : Below w.heap.size w W1 := (Below.trans (by (repeat (first | (with_reducible exact Below.refl _ _) | (with_reducible assumption) | (with_reducible refine below_drewN ?_ _) | (with_reducible refine Below.drew ?_) | ((with_reducible refine Below.alloc ?_ ?_ _); rotate_left; focus (first | (with_reducible exact Nat.le_refl _) | omega | (simp; done) | (simp; omega))) | ((with_reducible refine Below.setCell (p := ⟨_, _, _⟩) ?_ ?_ _); rotate_left; focus (first | (with_reducible exact Nat.le_refl _) | omega | (simp; done) | (simp; omega)))))) (hB1.mono (by simp; try omega)))
    go_wp2
    refine bodyPost_ret (v := .tuple #[.agg #[.int .i64 a, .int .i64 b, .bool f], .bool false, .int .i64 0]) (by simp [results, Try.results8, go_sem, chB1]) rfl ⟨rfl, ?_⟩
    go_light
    (repeat (first | (with_reducible exact Below.refl _ _) | (with_reducible assumption) | (with_reducible refine below_drewN ?_ _) | (with_reducible refine Below.drew ?_) | ((with_reducible refine Below.alloc ?_ ?_ _); rotate_left; focus (first | (with_reducible exact Nat.le_refl _) | omega | (simp; done) | (simp; omega))) | ((with_reducible refine Below.setCell (p := ⟨_, _, _⟩) ?_ ?_ _); rotate_left; focus (first | (with_reducible exact Nat.le_refl _) | omega | (simp; done) | (simp; omega)))))

set_option maxRecDepth 100000 in
set_option maxHeartbeats 1000000 in
theorem hear_yes (n l s a b c d : Int) (f : Bool) (w : World) (h : (epR n l s (a, b) && epR n l s (c, d)) = true) (hne : a = c ∧ b = d) :
    Calls Try.prog 8 #[.agg #[.int .i64 n, .int .i64 l, .int .i64 s], .agg #[.int .i64 a, .int .i64 b, .bool f], .agg #[.int .i64 c, .int .i64 d]] w (AskPost w (((c, d), false), true, 0)) := by
  obtain ⟨rfl, rfl⟩ := hne
  have HR := Lib.hid (two_of h)
  clear h
  all_goals
    go_enter Try.func8, Try.ntmps8
    go_wp2_with fail
    refine (right_is HR.out (by simp) _ _ (Sl.lit2P (by go_simp) (by go_simp) (by go_simp) (by go_simp))).mono ?_
    rintro e W1 ⟨rfl, hB1⟩
    obtain ⟨chB1, fhB1⟩ := bcell hB1
    have zhB1 := hB1.size
    (try simp at zhB1)
    have hB : Below w.heap.size w W1 := (Below.trans (by (repeat (first | (with_reducible exact Below.refl _ _) | (with_reducible assumption) | (with_reducible refine below_drewN ?_ _) | (with_reducible refine Below.drew ?_) | ((with_reducible refine Below.alloc ?_ ?_ _); rotate_left; focus (first | (with_reducible exact Nat.le_refl _) | omega | (simp; done) | (simp; omega))) | ((with_reducible refine Below.setCell (p := ⟨_, _, _⟩) ?_ ?_ _); rotate_left; focus (first | (with_reducible exact Nat.le_refl _) | omega | (simp; done) | (simp; omega)))))) (hB1.mono (by simp; try omega)))
    go_wp2
    refine bodyPost_ret (v := .tuple #[.agg #[.int .i64 a, .int .i64 b, .bool false], .bool true, .int .i64 0]) (by simp [results, Try.results8, go_sem, chB1]) rfl ⟨rfl, ?_⟩
    go_light
    (repeat (first | (with_reducible exact Below.refl _ _) | (with_reducible assumption) | (with_reducible refine below_drewN ?_ _) | (with_reducible refine Below.drew ?_) | ((with_reducible refine Below.alloc ?_ ?_ _); rotate_left; focus (first | (with_reducible exact Nat.le_refl _) | omega | (simp; done) | (simp; omega))) | ((with_reducible refine Below.setCell (p := ⟨_, _, _⟩) ?_ ?_ _); rotate_left; focus (first | (with_reducible exact Nat.le_refl _) | omega | (simp; done) | (simp; omega)))))

set_option maxRecDepth 100000 in
set_option maxHeartbeats 1000000 in
theorem rask_bad1 (n l s a b c d : Int) (f : Bool) (w : World) (h1 : epR n l s (a, b) = false) :
    Calls Try.prog 7 #[.agg #[.int .i64 n, .int .i64 l, .int .i64 s], .agg #[.int .i64 a, .int .i64 b, .bool f], .agg #[.int .i64 c, .int .i64 d]] w (AskPost w (((0, 0), false), false, 2)) := by
  have H1 := Lib.hid h1
  clear h1
  go_enter Try.func7, Try.ntmps7
  go_wp2_with fail
  refine (refRight_is H1.out _).mono ?_
  rintro e W1 ⟨rfl, hB1⟩
  obtain ⟨chB1, fhB1⟩ := bcell hB1
  have zhB1 := hB1.size
  (try simp at zhB1)
  have hB : Below w.heap.size w W1 := (Below.trans (by (repeat (first | (with_reducible exact Below.refl _ _) | (with_reducible assumption) | (with_reducible refine below_drewN ?_ _) | (with_reducible refine Below.drew ?_) | ((with_reducible refine Below.alloc ?_ ?_ _); rotate_left; focus (first | (with_reducible exact Nat.le_refl _) | omega | (simp; done) | (simp; omega))) | ((with_reducible refine Below.setCell (p := ⟨_, _, _⟩) ?_ ?_ _); rotate_left; focus (first | (with_reducible exact Nat.le_refl _) | omega | (simp; done) | (simp; omega)))))) (hB1.mono (by simp; try omega)))
  go_wp2
  refine bodyPost_ret (v := .tuple #[.agg #[.int .i64 0, .int .i64 0, .bool false], .bool false, .int .i64 2]) (by simp [results, Try.results7, go_sem, chB1]) rfl ⟨rfl, ?_⟩
  go_light
  (repeat (first | (with_reducible exact Below.refl _ _) | (with_reducible assumption) | (with_reducible refine below_drewN ?_ _) | (with_reducible refine Below.drew ?_) | ((with_reducible refine Below.alloc ?_ ?_ _); rotate_left; focus (first | (with_reducible exact Nat.le_refl _) | omega | (simp; done) | (simp; omega))) | ((with_reducible refine Below.setCell (p := ⟨_, _, _⟩) ?_ ?_ _); rotate_left; focus (first | (with_reducible exact Nat.le_refl _) | omega | (simp; done) | (simp; omega)))))

set_option maxRecDepth 100000 in
set_option maxHeartbeats 1000000 in
theorem rask_bad2 (n l s a b c d : Int) (f : Bool) (w : World) (h1 : epR n l s (a, b) = true) (h2 : epR n l s (c, d) = false) :
    Calls Try.prog 7 #[.agg #[.int .i64 n, .int .i64 l, .int .i64 s], .agg #[.int .i64 a, .int .i64 b, .bool f], .agg #[.int .i64 c, .int .i64 d]] w (AskPost w (((0, 0), false), false, 2)) := by
  have H1 := Lib.hid h1
  have H2 := Lib.hid h2
  clear h1 h2
  go_enter Try.func7, Try.ntmps7
  go_wp2_with fail
  refine (refRight_is H1.out _).mono ?_
  rintro e W1 ⟨rfl, hB1⟩
  obtain ⟨chB1, fhB1⟩ := bcell hB1
  have zhB1 := hB1.size
  (try simp at zhB1)
  have hB : Below w.heap.size w W1 := (Below.trans (by (repeat (first | (with_reducible exact Below.refl _ _) | (with_reducible assumption) | (with_reducible refine below_drewN ?_ _) | (with_reducible refine Below.drew ?_) | ((with_reducible refine Below.alloc ?_ ?_ _); rotate_left; focus (first | (with_reducible exact Nat.le_refl _) | omega | (simp; done) | (simp; omega))) | ((with_reducible refine Below.setCell (p := ⟨_, _, _⟩) ?_ ?_ _); rotate_left; focus (first | (with_reducible exact Nat.le_refl _) | omega | (simp; done) | (simp; omega)))))) (hB1.mono (by simp; try omega)))
  go_wp2_with fail
  refine (refRight_is H2.out _).mono ?_
  rintro e W2 ⟨rfl, hB2⟩
  have chB2 : ∀ b o, b < w.heap.size + 1 + 1 + 1 + 1 → W2.cell? ⟨b, o, none⟩ = W1.cell? ⟨b, o, none⟩ := fun b o h => hB2.cell (p := ⟨b, o, none⟩) (by dsimp only; omega)
  have fhB2 : ∀ b o, b < w.heap.size + 1 + 1 + 1 + 1 → W2.frozen? ⟨b, o, none⟩ = W1.frozen? ⟨b, o, none⟩ := fun b o h => hB2.frozen (p := ⟨b, o, none⟩) (by dsimp only; omega)
  have zhB2 := hB2.size
  have hB := hB.trans (hB2.mono hB.size)
  go_wp2
  refine bodyPost_ret (v := .tuple #[.agg #[.int .i64 0, .int .i64 0, .bool false], .bool false, .int .i64 2]) (by simp [results, Try.results7, go_sem, chB1, chB2]) rfl ⟨rfl, ?_⟩
  go_light
  (repeat (first | (with_reducible exact Below.refl _ _) | (with_reducible assumption) | (with_reducible refine below_drewN ?_ _) | (with_reducible refine Below.drew ?_) | ((with_reducible refine Below.alloc ?_ ?_ _); rotate_left; focus (first | (with_reducible exact Nat.le_refl _) | omega | (simp; done) | (simp; omega))) | ((with_reducible refine Below.setCell (p := ⟨_, _, _⟩) ?_ ?_ _); rotate_left; focus (first | (with_reducible exact Nat.le_refl _) | omega | (simp; done) | (simp; omega)))))

set_option maxRecDepth 100000 in
set_option maxHeartbeats 1000000 in
theorem rask_no (n l s a b c d : Int) (f : Bool) (w : World) (h1 : epR n l s (a, b) = true) (h2 : epR n l s (c, d) = true) (o : Int) (ho : ordS (c, d) (a, b) = o) (hle : o ≤ 0) :
    Calls Try.prog 7 #[.agg #[.int .i64 n, .int .i64 l, .int .i64 s], .agg #[.int .i64 a, .int .i64 b, .bool f], .agg #[.int .i64 c, .int .i64 d]] w (AskPost w (((a, b), f), false, 0)) := by
  have H1 := Lib.hid h1
  have H2 := Lib.hid h2
  have HO := Lib.hid ho
  clear h1 h2 ho
  go_enter Try.func7, Try.ntmps7
  go_wp2_with fail
  refine (refRight_is H1.out _).mono ?_
  rintro e W1 ⟨rfl, hB1⟩
  obtain ⟨chB1, fhB1⟩ := bcell hB1
  have zhB1 := hB1.size
  (try simp at zhB1)
  have hB : Below w.heap.size w W1 := (Below.trans (by (repeat (first | (with_reducible exact Below.refl _ _) | (with_reducible assumption) | (with_reducible refine below_drewN ?_ _) | (with_reducible refine Below.drew ?_) | ((with_reducible refine Below.alloc ?_ ?_ _); rotate_left; focus (first | (with_reducible exact Nat.le_refl _) | omega | (simp; done) | (simp; omega))) | ((with_reducible refine Below.setCell (p := ⟨_, _, _⟩) ?_ ?_ _); rotate_left; focus (first | (with_reducible exact Nat.le_refl _) | omega | (simp; done) | (simp; omega)))))) (hB1.mono (by simp; try omega)))
  go_wp2_with fail
  refine (refRight_is H2.out _).mono ?_
  rintro e W2 ⟨rfl, hB2⟩
  have chB2 : ∀ b o, b < w.heap.size + 1 + 1 + 1 + 1 → W2.cell? ⟨b, o, none⟩ = W1.cell? ⟨b, o, none⟩ := fun b o h => hB2.cell (p := ⟨b, o, none⟩) (by dsimp only; omega)
  have fhB2 : ∀ b o, b < w.heap.size + 1 + 1 + 1 + 1 → W2.frozen? ⟨b, o, none⟩ = W1.frozen? ⟨b, o, none⟩ := fun b o h => hB2.frozen (p := ⟨b, o, none⟩) (by dsimp only; omega)
  have zhB2 := hB2.size
  have hB := hB.trans (hB2.mono hB.size)
  go_wp2_with fail
  refine (refOrder_is HO.out _).mono ?_
  rintro e W3 ⟨rfl, hB3⟩
  have chB3 : ∀ b o, b < w.heap.size + 1 + 1 + 1 + 1 → W3.cell? ⟨b, o, none⟩ = W2.cell? ⟨b, o, none⟩ := fun b o h => hB3.cell (p := ⟨b, o, none⟩) (by dsimp only; omega)
  have fhB3 : ∀ b o, b < w.heap.size + 1 + 1 + 1 + 1 → W3.frozen? ⟨b, o, none⟩ = W2.frozen? ⟨b, o, none⟩ := fun b o h => hB3.frozen (p := ⟨b, o, none⟩) (by dsimp only; omega)
  have zhB3 := hB3.size
  have hC := hB.trans (hB3.mono hB.size)
  go_wp2
  refine bodyPost_ret (v := .tuple #[.agg #[.int .i64 a, .int .i64 b, .bool f], .bool false, .int .i64 0]) (by simp [results, Try.results7, go_sem, chB1, chB2, chB3]) rfl ⟨rfl, ?_⟩
  go_light
  (repeat (first | (with_reducible exact Below.refl _ _) | (with_reducible assumption) | (with_reducible refine below_drewN ?_ _) | (with_reducible refine Below.drew ?_) | ((with_reducible refine Below.alloc ?_ ?_ _); rotate_left; focus (first | (with_reducible exact Nat.le_refl _) | omega | (simp; done) | (simp; omega))) | ((with_reducible refine Below.setCell (p := ⟨_, _, _⟩) ?_ ?_ _); rotate_left; focus (first | (with_reducible exact Nat.le_refl _) | omega | (simp; done) | (simp; omega)))))

set_option maxRecDepth 100000 in
set_option maxHeartbeats 1000000 in
theorem rask_yes (n l s a b c d : Int) (f : Bool) (w : World) (h1 : epR n l s (a, b) = true) (h2 : epR n l s (c, d) = true) (o : Int) (ho : ordS (c, d) (a, b) = o) (hle : 0 < o) :
    Calls Try.prog 7 #[.agg #[.int .i64 n, .int .i64 l, .int .i64 s], .agg #[.int .i64 a, .int .i64 b, .bool f], .agg #[.int .i64 c, .int .i64 d]] w (AskPost w (((c, d), true), true, 0)) := by
  have H1 := Lib.hid h1
  have H2 := Lib.hid h2
  have HO := Lib.hid ho
  clear h1 h2 ho
  go_enter Try.func7, Try.ntmps7
  go_wp2_with fail
  refine (refRight_is H1.out _).mono ?_
  rintro e W1 ⟨rfl, hB1⟩
  obtain ⟨chB1, fhB1⟩ := bcell hB1
  have zhB1 := hB1.size
  (try simp at zhB1)
  have hB : Below w.heap.size w W1 := (Below.trans (by (repeat (first | (with_reducible exact Below.refl _ _) | (with_reducible assumption) | (with_reducible refine below_drewN ?_ _) | (with_reducible refine Below.drew ?_) | ((with_reducible refine Below.alloc ?_ ?_ _); rotate_left; focus (first | (with_reducible exact Nat.le_refl _) | omega | (simp; done) | (simp; omega))) | ((with_reducible refine Below.setCell (p := ⟨_, _, _⟩) ?_ ?_ _); rotate_left; focus (first | (with_reducible exact Nat.le_refl _) | omega | (simp; done) | (simp; omega)))))) (hB1.mono (by simp; try omega)))
  go_wp2_with fail
  refine (refRight_is H2.out _).mono ?_
  rintro e W2 ⟨rfl, hB2⟩
  have chB2 : ∀ b o, b < w.heap.size + 1 + 1 + 1 + 1 → W2.cell? ⟨b, o, none⟩ = W1.cell? ⟨b, o, none⟩ := fun b o h => hB2.cell (p := ⟨b, o, none⟩) (by dsimp only; omega)
  have fhB2 : ∀ b o, b < w.heap.size + 1 + 1 + 1 + 1 → W2.frozen? ⟨b, o, none⟩ = W1.frozen? ⟨b, o, none⟩ := fun b o h => hB2.frozen (p := ⟨b, o, none⟩) (by dsimp only; omega)
  have zhB2 := hB2.size
  have hB := hB.trans (hB2.mono hB.size)
  go_wp2_with fail
  refine (refOrder_is HO.out _).mono ?_
  rintro e W3 ⟨rfl, hB3⟩
  have chB3 : ∀ b o, b < w.heap.size + 1 + 1 + 1 + 1 → W3.cell? ⟨b, o, none⟩ = W2.cell? ⟨b, o, none⟩ := fun b o h => hB3.cell (p := ⟨b, o, none⟩) (by dsimp only; omega)
  have fhB3 : ∀ b o, b < w.heap.size + 1 + 1 + 1 + 1 → W3.frozen? ⟨b, o, none⟩ = W2.frozen? ⟨b, o, none⟩ := fun b o h => hB3.frozen (p := ⟨b, o, none⟩) (by dsimp only; omega)
  have zhB3 := hB3.size
  have hC := hB.trans (hB3.mono hB.size)
  go_wp2
  refine bodyPost_ret (v := .tuple #[.agg #[.int .i64 c, .int .i64 d, .bool true], .bool true, .int .i64 0]) (by simp [results, Try.results7, go_sem, chB1, chB2, chB3]) rfl ⟨rfl, ?_⟩
  go_light
  (repeat (first | (with_reducible exact Below.refl _ _) | (with_reducible assumption) | (with_reducible refine below_drewN ?_ _) | (with_reducible refine Below.drew ?_) | ((with_reducible refine Below.alloc ?_ ?_ _); rotate_left; focus (first | (with_reducible exact Nat.le_refl _) | omega | (simp; done) | (simp; omega))) | ((with_reducible refine Below.setCell (p := ⟨_, _, _⟩) ?_ ?_ _); rotate_left; focus (first | (with_reducible exact Nat.le_refl _) | omega | (simp; done) | (simp; omega)))))

set_option maxRecDepth 100000 in
set_option maxHeartbeats 1000000 in
theorem rhear_bad1 (n l s a b c d : Int) (f : Bool) (w : World) (h1 : epR n l s (a, b) = false) :
    Calls Try.prog 9 #[.agg #[.int .i64 n, .int .i64 l, .int .i64 s], .agg #[.int .i64 a, .int .i64 b, .bool f], .agg #[.int .i64 c, .int .i64 d]] w (AskPost w (((0, 0), false), false, 2)) := by
  have H1 := Lib.hid h1
  clear h1
  go_enter Try.func9, Try.ntmps9
  go_wp2_with fail
  refine (refRight_is H1.out _).mono ?_
  rintro e W1 ⟨rfl, hB1⟩
  obtain ⟨chB1, fhB1⟩ := bcell hB1
  have zhB1 := hB1.size
  (try simp at zhB1)
  have hB : Below w.heap.size w W1 := (Below.trans (by (repeat (first | (with_reducible exact Below.refl _ _) | (with_reducible assumption) | (with_reducible refine below_drewN ?_ _) | (with_reducible refine Below.drew ?_) | ((with_reducible refine Below.alloc ?_ ?_ _); rotate_left; focus (first | (with_reducible exact Nat.le_refl _) | omega | (simp; done) | (simp; omega))) | ((with_reducible refine Below.setCell (p := ⟨_, _, _⟩) ?_ ?_ _); rotate_left; focus (first | (with_reducible exact Nat.le_refl _) | omega | (simp; done) | (simp; omega)))))) (hB1.mono (by simp; try omega)))
  go_wp2
  refine bodyPost_ret (v := .tuple #[.agg #[.int .i64 0, .int .i64 0, .bool false], .bool false, .int .i64 2]) (by simp [results, Try.results9, go_sem, chB1]) rfl ⟨rfl, ?_⟩
  go_light
  (repeat (first | (with_reducible exact Below.refl _ _) | (with_reducible assumption) | (with_reducible refine below_drewN ?_ _) | (with_reducible refine Below.drew ?_) | ((with_reducible refine Below.alloc ?_ ?_ _); rotate_left; focus (first | (with_reducible exact Nat.le_refl _) | omega | (simp; done) | (simp; omega))) | ((with_reducible refine Below.setCell (p := ⟨_, _, _⟩) ?_ ?_ _); rotate_left; focus (first | (with_reducible exact Nat.le_refl _) | omega | (simp; done) | (simp; omega)))))

set_option maxRecDepth 100000 in
set_option maxHeartbeats 1000000 in
theorem rhear_bad2 (n l s a b c d : Int) (f : Bool) (w : World) (h1 : epR n l s (a, b) = true) (h2 : epR n l s (c, d) = false) :
    Calls Try.prog 9 #[.agg #[.int .i64 n, .int .i64 l, .int .i64 s], .agg #[.int .i64 a, .int .i64 b, .bool f], .agg #[.int .i64 c, .int .i64 d]] w (AskPost w (((0, 0), false), false, 2)) := by
  have H1 := Lib.hid h1
  have H2 := Lib.hid h2
  clear h1 h2
  go_enter Try.func9, Try.ntmps9
  go_wp2_with fail
  refine (refRight_is H1.out _).mono ?_
  rintro e W1 ⟨rfl, hB1⟩
  obtain ⟨chB1, fhB1⟩ := bcell hB1
  have zhB1 := hB1.size
  (try simp at zhB1)
  have hB : Below w.heap.size w W1 := (Below.trans (by (repeat (first | (with_reducible exact Below.refl _ _) | (with_reducible assumption) | (with_reducible refine below_drewN ?_ _) | (with_reducible refine Below.drew ?_) | ((with_reducible refine Below.alloc ?_ ?_ _); rotate_left; focus (first | (with_reducible exact Nat.le_refl _) | omega | (simp; done) | (simp; omega))) | ((with_reducible refine Below.setCell (p := ⟨_, _, _⟩) ?_ ?_ _); rotate_left; focus (first | (with_reducible exact Nat.le_refl _) | omega | (simp; done) | (simp; omega)))))) (hB1.mono (by simp; try omega)))
  go_wp2_with fail
  refine (refRight_is H2.out _).mono ?_
  rintro e W2 ⟨rfl, hB2⟩
  have chB2 : ∀ b o, b < w.heap.size + 1 + 1 + 1 + 1 → W2.cell? ⟨b, o, none⟩ = W1.cell? ⟨b, o, none⟩ := fun b o h => hB2.cell (p := ⟨b, o, none⟩) (by dsimp only; omega)
  have fhB2 : ∀ b o, b < w.heap.size + 1 + 1 + 1 + 1 → W2.frozen? ⟨b, o, none⟩ = W1.frozen? ⟨b, o, none⟩ := fun b o h => hB2.frozen (p := ⟨b, o, none⟩) (by dsimp only; omega)
  have zhB2 := hB2.size
  have hB := hB.trans (hB2.mono hB.size)
  go_wp2
  refine bodyPost_ret (v := .tuple #[.agg #[.int .i64 0, .int .i64 0, .bool false], .bool false, .int .i64 2]) (by simp [results, Try.results9, go_sem, chB1, chB2]) rfl ⟨rfl, ?_⟩
  go_light
  (repeat (first | (with_reducible exact Below.refl _ _) | (with_reducible assumption) | (with_reducible refine below_drewN ?_ _) | (with_reducible refine Below.drew ?_) | ((with_reducible refine Below.alloc ?_ ?_ _); rotate_left; focus (first | (with_reducible exact Nat.le_refl _) | omega | (simp; done) | (simp; omega))) | ((with_reducible refine Below.setCell (p := ⟨_, _, _⟩) ?_ ?_ _); rotate_left; focus (first | (with_reducible exact Nat.le_refl _) | omega | (simp; done) | (simp; omega)))))

set_option maxRecDepth 100000 in
set_option maxHeartbeats 1000000 in
theorem rhear_no (n l s a b c d : Int) (f : Bool) (w : World) (h1 : epR n l s (a, b) = true) (h2 : epR n l s (c, d) = true) (hne : ¬ (a = c ∧ b = d)) :
    Calls Try.prog 9 #[.agg #[.int .i64 n, .int .i64 l, .int .i64 s], .agg #[.int .i64 a, .int .i64 b, .bool f], .agg #[.int .i64 c, .int .i64 d]] w (AskPost w (((a, b), f), false, 0)) := by
  have hq : ¬ c = a ∨ (a = c ∧ ¬ d = b) := by omega
  have H1 := Lib.hid h1
  have H2 := Lib.hid h2
  clear h1 h2
  rcases hq with hq | ⟨rfl, hq⟩
  all_goals
    go_enter Try.func9, Try.ntmps9
    go_wp2_with fail
    refine (refRight_is H1.out _).mono ?_
    rintro e W1 ⟨rfl, hB1⟩
    obtain ⟨chB1, fhB1⟩ := bcell hB1
    have zhB1 := hB1.size
    (try simp at zhB1)
    have hB : Below w.heap.size w W1 := (Below.trans (by (repeat (first | (with_reducible exact Below.refl _ _) | (with_reducible assumption) | (with_reducible refine below_drewN ?_ _) | (with_reducible refine Below.drew ?_) | ((with_reducible refine Below.alloc ?_ ?_ _); rotate_left; focus (first | (with_reducible exact Nat.le_refl _) | omega | (simp; done) | (simp; omega))) | ((with_reducible refine Below.setCell (p := ⟨_, _, _⟩) ?_ ?_ _); rotate_left; focus (first | (with_reducible exact Nat.le_refl _) | omega | (simp; done) | (simp; omega)))))) (hB1.mono (by simp; try omega)))
    go_wp2_with fail
    refine (refRight_is H2.out _).mono ?_
    rintro e W2 ⟨rfl, hB2⟩
    have chB2 : ∀ b o, b < w.heap.size + 1 + 1 + 1 + 1 → W2.cell? ⟨b, o, none⟩ = W1.cell? ⟨b, o, none⟩ := fun b o h => hB2.cell (p := ⟨b, o, none⟩) (by dsimp only; omega)
    have fhB2 : ∀ b o, b < w.heap.size + 1 + 1 + 1 + 1 → W2.frozen? ⟨b, o, none⟩ = W1.frozen? ⟨b, o, none⟩ := fun b o h => hB2.frozen (p := ⟨b, o, none⟩) (by dsimp only; omega)
    have zhB2 := hB2.size
    have hB := hB.trans (hB2.mono hB.size)
    go_wp2
    refine bodyPost_ret (v := .tuple #[.agg #[.int .i64 a, .int .i64 b, .bool f], .bool false, .int .i64 0]) (by simp [results, Try.results9, go_sem, chB1, chB2]) rfl ⟨rfl, ?_⟩
    go_light
    (repeat (first | (with_reducible exact Below.refl _ _) | (with_reducible assumption) | (with_reducible refine below_drewN ?_ _) | (with_reducible refine Below.drew ?_) | ((with_reducible refine Below.alloc ?_ ?_ _); rotate_left; focus (first | (with_reducible exact Nat.le_refl _) | omega | (simp; done) | (simp; omega))) | ((with_reducible refine Below.setCell (p := ⟨_, _, _⟩) ?_ ?_ _); rotate_left; focus (first | (with_reducible exact Nat.le_refl _) | omega | (simp; done) | (simp; omega)))))

set_option maxRecDepth 100000 in
set_option maxHeartbeats 1000000 in
theorem rhear_yes (n l s a b c d : Int) (f : Bool) (w : World) (h1 : epR n l s (a, b) = true) (h2 : epR n l s (c, d) = true) (hne : a = c ∧ b = d) :
    Calls Try.prog 9 #[.agg #[.int .i64 n, .int .i64 l, .int .i64 s], .agg #[.int .i64 a, .int .i64 b, .bool f], .agg #[.int .i64 c, .int .i64 d]] w (AskPost w (((c, d), false), true, 0)) := by
  obtain ⟨rfl, rfl⟩ := hne
  have H1 := Lib.hid h1
  have H2 := Lib.hid h2
  clear h1 h2
  all_goals
    go_enter Try.func9, Try.ntmps9
    go_wp2_with fail
    refine (refRight_is H1.out _).mono ?_
    rintro e W1 ⟨rfl, hB1⟩
    obtain ⟨chB1, fhB1⟩ := bcell hB1
    have zhB1 := hB1.size
    (try simp at zhB1)
    have hB : Below w.heap.size w W1 := (Below.trans (by (repeat (first | (with_reducible exact Below.refl _ _) | (with_reducible assumption) | (with_reducible refine below_drewN ?_ _) | (with_reducible refine Below.drew ?_) | ((with_reducible refine Below.alloc ?_ ?_ _); rotate_left; focus (first | (with_reducible exact Nat.le_refl _) | omega | (simp; done) | (simp; omega))) | ((with_reducible refine Below.setCell (p := ⟨_, _, _⟩) ?_ ?_ _); rotate_left; focus (first | (with_reducible exact Nat.le_refl _) | omega | (simp; done) | (simp; omega)))))) (hB1.mono (by simp; try omega)))
    go_wp2_with fail
    refine (refRight_is H2.out _).mono ?_
    rintro e W2 ⟨rfl, hB2⟩
    have chB2 : ∀ b o, b < w.heap.size + 1 + 1 + 1 + 1 → W2.cell? ⟨b, o, none⟩ = W1.cell? ⟨b, o, none⟩ := fun b o h => hB2.cell (p := ⟨b, o, none⟩) (by dsimp only; omega)
    have fhB2 : ∀ b o, b < w.heap.size + 1 + 1 + 1 + 1 → W2.frozen? ⟨b, o, none⟩ = W1.frozen? ⟨b, o, none⟩ := fun b o h => hB2.frozen (p := ⟨b, o, none⟩) (by dsimp only; omega)
    have zhB2 := hB2.size
    have hB := hB.trans (hB2.mono hB.size)
    go_wp2
    refine bodyPost_ret (v := .tuple #[.agg #[.int .i64 a, .int .i64 b, .bool false], .bool true, .int .i64 0]) (by simp [results, Try.results9, go_sem, chB1, chB2]) rfl ⟨rfl, ?_⟩
    go_light
    (repeat (first | (with_reducible exact Below.refl _ _) | (with_reducible assumption) | (with_reducible refine below_drewN ?_ _) | (with_reducible refine Below.drew ?_) | ((with_reducible refine Below.alloc ?_ ?_ _); rotate_left; focus (first | (with_reducible exact Nat.le_refl _) | omega | (simp; done) | (simp; omega))) | ((with_reducible refine Below.setCell (p := ⟨_, _, _⟩) ?_ ?_ _); rotate_left; focus (first | (with_reducible exact Nat.le_refl _) | omega | (simp; done) | (simp; omega)))))

theorem ask_any (n l s a b c d : Int) (f : Bool) (w : World) :
    Calls Try.prog 6 #[.agg #[.int .i64 n, .int .i64 l, .int .i64 s], .agg #[.int .i64 a, .int .i64 b, .bool f], .agg #[.int .i64 c, .int .i64 d]] w (AskPost w (askR n l s ((a, b), f) (c, d))) := by
  unfold askR
  cases h1 : epR n l s (a, b)
  · rw [if_pos (.inl rfl)]; exact ask_bad n l s a b c d f w (by rw [h1]; rfl)
  · cases h2 : epR n l s (c, d)
    · rw [if_pos (.inr rfl)]; exact ask_bad n l s a b c d f w (by rw [h1, h2]; rfl)
    · rw [if_neg (by simp)]
      by_cases ho : ordS (c, d) (a, b) ≤ 0
      · rw [if_pos ho]; exact ask_no n l s a b c d f w (by rw [h1, h2]; rfl) _ rfl ho
      · rw [if_neg ho]; exact ask_yes n l s a b c d f w (by rw [h1, h2]; rfl) _ rfl (by omega)

theorem refAsk_any (n l s a b c d : Int) (f : Bool) (w : World) :
    Calls Try.prog 7 #[.agg #[.int .i64 n, .int .i64 l, .int .i64 s], .agg #[.int .i64 a, .int .i64 b, .bool f], .agg #[.int .i64 c, .int .i64 d]] w (AskPost w (askR n l s ((a, b), f) (c, d))) := by
  unfold askR
  cases h1 : epR n l s (a, b)
  · rw [if_pos (.inl rfl)]; exact rask_bad1 n l s a b c d f w h1
  · cases h2 : epR n l s (c, d)
    · rw [if_pos (.inr rfl)]; exact rask_bad2 n l s a b c d f w h1 h2
    · rw [if_neg (by simp)]
      by_cases ho : ordS (c, d) (a, b) ≤ 0
      · rw [if_pos ho]; exact rask_no n l s a b c d f w h1 h2 _ rfl ho
      · rw [if_neg ho]; exact rask_yes n l s a b c d f w h1 h2 _ rfl (by omega)

theorem hear_any (n l s a b c d : Int) (f : Bool) (w : World) :
    Calls Try.prog 8 #[.agg #[.int .i64 n, .int .i64 l, .int .i64 s], .agg #[.int .i64 a, .int .i64 b, .bool f], .agg #[.int .i64 c, .int .i64 d]] w (AskPost w (hearR n l s ((a, b), f) (c, d))) := by
  unfold hearR
  cases h1 : epR n l s (a, b)
  · rw [if_pos (.inl rfl)]; exact hear_bad n l s a b c d f w (by rw [h1]; rfl)
  · cases h2 : epR n l s (c, d)
    · rw [if_pos (.inr rfl)]; exact hear_bad n l s a b c d f w (by rw [h1, h2]; rfl)
    · rw [if_neg (by simp)]
      by_cases ho : a = c ∧ b = d
      · rw [if_pos (by rw [ho.1, ho.2])]; exact hear_yes n l s a b c d f w (by rw [h1, h2]; rfl) ho
      · rw [if_neg (by simpa using ho)]; exact hear_no n l s a b c d f w (by rw [h1, h2]; rfl) ho

theorem refHear_any (n l s a b c d : Int) (f : Bool) (w : World) :
    Calls Try.prog 9 #[.agg #[.int .i64 n, .int .i64 l, .int .i64 s], .agg #[.int .i64 a, .int .i64 b, .bool f], .agg #[.int .i64 c, .int .i64 d]] w (AskPost w (hearR n l s ((a, b), f) (c, d))) := by
  unfold hearR
  cases h1 : epR n l s (a, b)
  · rw [if_pos (.inl rfl)]; exact rhear_bad1 n l s a b c d f w h1
  · cases h2 : epR n l s (c, d)
    · rw [if_pos (.inr rfl)]; exact rhear_bad2 n l s a b c d f w h1 h2
    · rw [if_neg (by simp)]
      by_cases ho : a = c ∧ b = d
      · rw [if_pos (by rw [ho.1, ho.2])]; exact rhear_yes n l s a b c d f w h1 h2 ho
      · rw [if_neg (by simpa using ho)]; exact rhear_no n l s a b c d f w h1 h2 ho

end Go.Proofs.Ytnkkfkbchijfnaa
