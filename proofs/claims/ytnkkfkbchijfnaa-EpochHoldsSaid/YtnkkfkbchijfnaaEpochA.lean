/- Epochs: leaf functions. -/
import Derived.Test.YtnkkfkbchijfnaaSiteA
import Derived.Laws.EntriesVeiled
namespace Go.Proofs.Ytnkkfkbchijfnaa
open Go.RowKit Go.Shelf

set_option maxHeartbeats 400000 in
theorem isNaN_any (n : Int) (w : World) :
    Calls Try.prog 34 #[.int .i64 n] w fun e w' => e = .returned (.bool false) ∧ w = w' := by
  go_enter Try.func34, Try.ntmps34
  go_wp2
  go_ret
  exact ⟨ret_bool (by simp), rfl⟩
def cmpI (a b : Int) : Int := if a < b then -1 else if b < a then 1 else 0
set_option maxHeartbeats 400000 in
theorem compare_any (a b : Int) (w : World) :
    Calls Try.prog 29 #[.int .i64 a, .int .i64 b] w fun e w' => e = .returned (.int .i64 (cmpI a b)) ∧ w = w' := by
  go_enter Try.func29, Try.ntmps29
  go_wp2_with (go_at_call 34; refine (isNaN_any _ _).mono ?_; rintro e w' ⟨rfl, rfl⟩)
  all_goals (go_ret; exact ⟨ret_i64 (by unfold cmpI; first | (rw [if_pos (by omega)]; done) | (rw [if_neg (by omega), if_pos (by omega)]; done) | (rw [if_neg (by omega), if_neg (by omega)]; done)), rfl⟩)
theorem compare_is {a b : Int} {r : Int} (h : cmpI a b = r) (w : World) :
    Calls Try.prog 29 #[.int .i64 a, .int .i64 b] w fun e w' => e = .returned (.int .i64 r) ∧ w = w' := by
  have := compare_any a b w
  rw [h] at this
  exact this

set_option maxHeartbeats 400000 in
theorem num_any (n : Int) (w : World) :
    Calls Try.prog 10 #[.int .i64 n] w fun e w' => e = .returned (.int .i64 n) ∧ w = w' := by
  go_enter Try.func10, Try.ntmps10
  go_wp2
  go_ret
  exact ⟨rfl, rfl⟩

def ordS (a b : Int × Int) : Int := if a.1 < b.1 then -1 else if b.1 < a.1 then 1 else cmpI a.2 b.2
set_option maxHeartbeats 400000 in
theorem refOrder_any (a1 a2 b1 b2 : Int) (w : World) :
    Calls Try.prog 18 #[.agg #[.int .i64 a1, .int .i64 a2], .agg #[.int .i64 b1, .int .i64 b2]] w fun e w' => e = .returned (.int .i64 (ordS (a1, a2) (b1, b2))) ∧ Below w.heap.size w w' := by
  go_enter Try.func18, Try.ntmps18
  go_wp2
  all_goals (go_ret; exact ⟨ret_i64 (by unfold ordS cmpI; simp only []; grind), by (repeat (first | (with_reducible exact Below.refl _ _) | (with_reducible assumption) | (with_reducible refine below_drewN ?_ _) | (with_reducible refine Below.drew ?_) | ((with_reducible refine Below.alloc ?_ ?_ _); rotate_left; focus (first | (with_reducible exact Nat.le_refl _) | omega | (simp; done) | (simp; omega))) | ((with_reducible refine Below.setCell (p := ⟨_, _, _⟩) ?_ ?_ _); rotate_left; focus (first | (with_reducible exact Nat.le_refl _) | omega | (simp; done) | (simp; omega)))))⟩)

/-- May an epoch be, of a shape of n nodes? -/
def epB (n : Int) (e : Int × Int) : Bool := (decide (0 ≤ e.1) && decide (e.1 ≤ 1099511627776)) && (decide (0 ≤ e.2) && decide (e.2 < n))

set_option maxHeartbeats 400000 in
theorem right1_any (n a b : Int) (w : World) (X : Nat) (h : w.cell? ⟨X, 0, none⟩ = some (.int .i64 n)) :
    Calls Try.prog 25 #[.agg #[.int .i64 a, .int .i64 b], .pointer (some ⟨X, 0, none⟩)] w fun e w' => e = .returned (.bool (!epB n (a, b))) ∧ Below w.heap.size w w' := by
  have hX := World.block_lt_of_cell? _ _ h
  dsimp only at hX
  have n1 : ¬ X = w.heap.size := by omega
  have n2 : ¬ w.heap.size = X := by omega
  go_enter Try.func25, Try.ntmps25
  go_wp2
  all_goals (go_ret; exact ⟨ret_bool (by unfold epB; first | rfl | (simp; done) | (simp; omega) | (rw [Bool.eq_iff_iff]; simp; omega) | grind), by (repeat (first | (with_reducible exact Below.refl _ _) | (with_reducible assumption) | (with_reducible refine below_drewN ?_ _) | (with_reducible refine Below.drew ?_) | ((with_reducible refine Below.alloc ?_ ?_ _); rotate_left; focus (first | (with_reducible exact Nat.le_refl _) | omega | (simp; done) | (simp; omega))) | ((with_reducible refine Below.setCell (p := ⟨_, _, _⟩) ?_ ?_ _); rotate_left; focus (first | (with_reducible exact Nat.le_refl _) | omega | (simp; done) | (simp; omega)))))⟩)

set_option maxRecDepth 100000 in
set_option maxHeartbeats 2000000 in
/-- slices.IndexFunc. -/
theorem indexFuncP_any  (w : World) (sv : Value) (xs : List (Int × Int)) (hlen : xs.length ≤ 1099511627776) (hS : Sl encP 2 w sv xs)
    (g : Nat) (lb : Array Value) (eg : Enters Try.prog g) (p : Int × Int → Bool)
    (hg : ∀ x W, Below w.heap.size w W → Calls Try.prog g (#[.agg #[.int .i64 x.1, .int .i64 x.2]] ++ lb) W fun e W' => e = .returned (.bool (p x)) ∧ Below W.heap.size W W') :
    Calls Try.prog 31 #[sv, .func (.func g) #[] lb] w fun e W' => e = .returned (.int .i64 (idxI p xs)) ∧ Below w.heap.size w W' := by
  have eg' : ∀ args w, (callFunc g args).run Try.prog w = .ok (.enter g args) w := eg
  obtain ⟨a, cap, rfl⟩ := hS.shape
  go_enter Try.func31, Try.ntmps31
  go_wp2
  go_loopg [8] (xs.length) (fun n i wr => ∃ k : Nat, n + k = xs.length ∧ i = .int .i64 k ∧ Below w.heap.size w wr ∧ ∀ j x, j < k → xs[j]? = some x → p x = false)
  case atStart => exact ⟨0, rfl, rfl, Below.refl _ _, fun j x hj => absurd hj (by omega)⟩
  case round =>
    obtain ⟨k, hk, rfl, hB, hno⟩ := hrel
    have HK := Lib.hid hk
    have HN := Lib.hid hno
    clear hno
    by_cases hlt : k < xs.length
    · obtain ⟨b, off, cap', hv, hb, hcell⟩ := hS.atP hlt
      cases hv
      obtain ⟨x, hx⟩ := at_some hlt
      have hcx := hcell k x hx
      have hcy := (hB.cell (p := ⟨b, off + k * 2, none⟩) hb).trans hcx.1
      have hcy2 := (hB.cell (p := ⟨b, off + k * 2 + 1, none⟩) hb).trans hcx.2
      clear hcx
      have i0 : (0 : Int) ≤ (k : Int) := by omega
      have HX := Lib.hid hx
      have HLT := Lib.hid hlt
      clear hcell hx hk
      have HP := Lib.hid (hg x)
      cases hpx : p x
      · rw [hpx] at HP
        have HPX := Lib.hid hpx
        clear hpx
        go_wp2_with fail
        refine (HP.out _ hB).mono ?_
        rintro e W1 ⟨rfl, hB1⟩
        go_wp2_with fail
        go_roundg (gk - 1)
        case measure => have := HK.out; have := HLT.out; omega
        case rel =>
          refine ⟨k + 1, by have := HK.out; have := HLT.out; omega, by go_num, hB.trans (hB1.mono hB.size), fun j y hj hy => ?_⟩
          by_cases hjk : j = k
          · subst hjk; rw [HX.out] at hy; cases hy; exact HPX.out
          · exact HN.out j y (by omega) hy
      · rw [hpx] at HP
        have HI := Lib.hid (idxI_at HN.out HX.out hpx)
        clear hpx
        go_wp2_with fail
        refine (HP.out _ hB).mono ?_
        rintro e W1 ⟨rfl, hB1⟩
        go_wp2_with fail
        go_ret
        exact ⟨ret_i64 HI.out.symm, hB.trans (hB1.mono hB.size)⟩
    · obtain rfl : k = xs.length := by omega
      have HI := Lib.hid (idxI_none (fun j x hj => HN.out j x hj))
      clear hk HK
      go_wp2_with fail
      go_ret
      exact ⟨ret_i64 HI.out.symm, hB⟩
set_option maxHeartbeats 400000 in
/-- slices.ContainsFunc. -/
theorem containsFuncP_any  (w : World) (sv : Value) (xs : List (Int × Int)) (hlen : xs.length ≤ 1099511627776) (hS : Sl encP 2 w sv xs)
    (g : Nat) (lb : Array Value) (eg : Enters Try.prog g) (p : Int × Int → Bool)
    (hg : ∀ x W, Below w.heap.size w W → Calls Try.prog g (#[.agg #[.int .i64 x.1, .int .i64 x.2]] ++ lb) W fun e W' => e = .returned (.bool (p x)) ∧ Below W.heap.size W W') :
    Calls Try.prog 24 #[sv, .func (.func g) #[] lb] w fun e W' => e = .returned (.bool (xs.any p)) ∧ Below w.heap.size w W' := by
  have kk := Lib.hid (indexFuncP_any w sv xs hlen hS g lb eg p hg)
  obtain ⟨a, cap, rfl⟩ := hS.shape
  have hi := idxI_any p xs
  obtain ⟨i, hI⟩ : ∃ i, i = idxI p xs := ⟨_, rfl⟩
  rw [← hI] at kk hi
  cases ha : xs.any p
  all_goals
    rw [ha] at hi
    have h0 : decide (0 ≤ i) = _ := hi
    clear ha hI hi hg hS
    go_enter Try.func24, Try.ntmps24
    go_wp2_with fail
    refine kk.out.mono ?_
    rintro e W1 ⟨rfl, hB1⟩
    go_wp2
    go_ret
    exact ⟨rfl, hB1⟩

theorem not_any {α : Type} (p : α → Bool) (xs : List α) : (!xs.any fun x => !p x) = xs.all p := by
  induction xs with
  | nil => rfl
  | cons x xs ih => rw [List.any_cons, List.all_cons, ← ih]; cases p x <;> simp

set_option maxHeartbeats 1000000 in
theorem right_any (n l s : Int) (w : World) (sv : Value) (xs : List (Int × Int)) (hlen : xs.length ≤ 1099511627776) (hS : Sl encP 2 w sv xs) :
    Calls Try.prog 19 #[.agg #[.int .i64 n, .int .i64 l, .int .i64 s], sv] w fun e w' => e = .returned (.bool (shapeB n l s && xs.all (epB n))) ∧ Below w.heap.size w w' := by
  have HS := Lib.hid hS
  obtain ⟨a, cap, rfl⟩ := hS.shape
  clear hS
  have sc := fun W => siteCheck_any n l s W
  cases hs : shapeB n l s
  · have SC := Lib.hid (show ∀ W, _ from fun W => by have := sc W; rw [show shapeE n l s = 2 by simp [shapeE, hs]] at this; exact this)
    clear sc hs
    go_enter Try.func19, Try.ntmps19
    go_wp2_with fail
    refine (SC.out _).mono ?_
    rintro e W1 ⟨rfl, hB1⟩
    go_wp2
    go_ret
    exact ⟨ret_bool (by simp), (Below.trans (by (repeat (first | (with_reducible exact Below.refl _ _) | (with_reducible assumption) | (with_reducible refine below_drewN ?_ _) | (with_reducible refine Below.drew ?_) | ((with_reducible refine Below.alloc ?_ ?_ _); rotate_left; focus (first | (with_reducible exact Nat.le_refl _) | omega | (simp; done) | (simp; omega))) | ((with_reducible refine Below.setCell (p := ⟨_, _, _⟩) ?_ ?_ _); rotate_left; focus (first | (with_reducible exact Nat.le_refl _) | omega | (simp; done) | (simp; omega)))))) (hB1.mono (by simp; try omega)))⟩
  · have SC := Lib.hid (show ∀ W, _ from fun W => by have := sc W; rw [show shapeE n l s = 0 by simp [shapeE, hs]] at this; exact this)
    clear sc hs
    go_enter Try.func19, Try.ntmps19
    go_wp2_with fail
    refine (SC.out _).mono ?_
    rintro e W1 ⟨rfl, hB1⟩
    have hB : Below w.heap.size w W1 := (Below.trans (by (repeat (first | (with_reducible exact Below.refl _ _) | (with_reducible assumption) | (with_reducible refine below_drewN ?_ _) | (with_reducible refine Below.drew ?_) | ((with_reducible refine Below.alloc ?_ ?_ _); rotate_left; focus (first | (with_reducible exact Nat.le_refl _) | omega | (simp; done) | (simp; omega))) | ((with_reducible refine Below.setCell (p := ⟨_, _, _⟩) ?_ ?_ _); rotate_left; focus (first | (with_reducible exact Nat.le_refl _) | omega | (simp; done) | (simp; omega)))))) (hB1.mono (by simp; try omega)))
    have hc := (hB1.cell (p := ⟨w.heap.size, 0, none⟩) (by simp)).trans (World.cell?_alloc_at _ _ _ _ rfl)
    have kk := Lib.hid (containsFuncP_any W1 _ xs hlen (HS.out.below hB) 25 #[.pointer (some ⟨w.heap.size, 0, none⟩)] (enters_of Try.func25 (by kernel_rfl) rfl) (fun x => !epB n x)
      (fun x W hW => right1_any n x.1 x.2 W w.heap.size ((hW.cell (p := ⟨w.heap.size, 0, none⟩) (World.block_lt_of_cell? _ _ hc)).trans hc)))
    have hna := Lib.hid (not_any (epB n) xs)
    clear hc
    go_wp2_with fail
    refine kk.out.mono ?_
    rintro e W2 ⟨rfl, hB2⟩
    go_wp2
    go_ret
    exact ⟨ret_bool (by rw [Bool.true_and, ← hna.out]), hB.trans (hB2.mono hB.size)⟩
theorem right_is {n l s : Int} {xs : List (Int × Int)} {r : Bool} (h : (shapeB n l s && xs.all (epB n)) = r) (hlen : xs.length ≤ 1099511627776) (w : World) (sv : Value) (hS : Sl encP 2 w sv xs) :
    Calls Try.prog 19 #[.agg #[.int .i64 n, .int .i64 l, .int .i64 s], sv] w fun e w' => e = .returned (.bool r) ∧ Below w.heap.size w w' := by
  have := right_any n l s w sv xs hlen hS
  rw [h] at this
  exact this

theorem cmpI_cases (a b : Int) : cmpI a b = -1 ∨ cmpI a b = 1 ∨ cmpI a b = 0 := by
  unfold cmpI; split
  · exact .inl rfl
  · split
    · exact .inr (.inl rfl)
    · exact .inr (.inr rfl)
theorem ordS_eq (a b : Int × Int) : ordS a b = if cmpI a.1 b.1 = 0 then cmpI a.2 b.2 else cmpI a.1 b.1 := by
  unfold ordS cmpI; grind

set_option maxHeartbeats 2000000 in
theorem epOrder_any (a1 a2 b1 b2 : Int) (w : World) :
    Calls Try.prog 22 #[.agg #[.int .i64 a1, .int .i64 a2], .agg #[.int .i64 b1, .int .i64 b2]] w fun e w' => e = .returned (.int .i64 (ordS (a1, a2) (b1, b2))) ∧ Below w.heap.size w w' := by
  have i0 : ∀ w, (Instr.index 69 (.agg #[.int .i64 a1, .int .i64 b1, .int .i64 a2, .int .i64 b2]) (.int .i64 0)).run Try.prog w = .ok (.agg #[.int .i64 a1, .int .i64 b1]) w := fun _ => by kernel_rfl
  have i1 : ∀ w, (Instr.index 69 (.agg #[.int .i64 a1, .int .i64 b1, .int .i64 a2, .int .i64 b2]) (.int .i64 1)).run Try.prog w = .ok (.agg #[.int .i64 a2, .int .i64 b2]) w := fun _ => by kernel_rfl
  rw [ordS_eq]
  dsimp only
  rcases cmpI_cases a1 b1 with h1 | h1 | h1
  · have H1 := Lib.hid h1
    rw [h1]
    clear h1
    go_enter Try.func22, Try.ntmps22
    go_wp2_with fail
    refine wp_loop_rounds 1 ?_
    rw [rounds_succ]
    go_wp2_with (go_at_call 29; refine (compare_is H1.out _).mono ?_; rintro e w' ⟨rfl, rfl⟩)
    go_ret
    exact ⟨rfl, by (repeat (first | (with_reducible exact Below.refl _ _) | (with_reducible assumption) | (with_reducible refine below_drewN ?_ _) | (with_reducible refine Below.drew ?_) | ((with_reducible refine Below.alloc ?_ ?_ _); rotate_left; focus (first | (with_reducible exact Nat.le_refl _) | omega | (simp; done) | (simp; omega))) | ((with_reducible refine Below.setCell (p := ⟨_, _, _⟩) ?_ ?_ _); rotate_left; focus (first | (with_reducible exact Nat.le_refl _) | omega | (simp; done) | (simp; omega)))))⟩
  · have H1 := Lib.hid h1
    rw [h1]
    clear h1
    go_enter Try.func22, Try.ntmps22
    go_wp2_with fail
    refine wp_loop_rounds 1 ?_
    rw [rounds_succ]
    go_wp2_with (go_at_call 29; refine (compare_is H1.out _).mono ?_; rintro e w' ⟨rfl, rfl⟩)
    go_ret
    exact ⟨rfl, by (repeat (first | (with_reducible exact Below.refl _ _) | (with_reducible assumption) | (with_reducible refine below_drewN ?_ _) | (with_reducible refine Below.drew ?_) | ((with_reducible refine Below.alloc ?_ ?_ _); rotate_left; focus (first | (with_reducible exact Nat.le_refl _) | omega | (simp; done) | (simp; omega))) | ((with_reducible refine Below.setCell (p := ⟨_, _, _⟩) ?_ ?_ _); rotate_left; focus (first | (with_reducible exact Nat.le_refl _) | omega | (simp; done) | (simp; omega)))))⟩
  · have H1 := Lib.hid h1
    rw [if_pos h1]
    clear h1
    rcases cmpI_cases a2 b2 with h2 | h2 | h2
    all_goals
      have H2 := Lib.hid h2
      rw [h2]
      clear h2
      go_enter Try.func22, Try.ntmps22
      go_wp2_with fail
      refine wp_loop_rounds 3 ?_
      rw [rounds_succ]
      go_wp2_with (go_at_call 29; refine (compare_is H1.out _).mono ?_; rintro e w' ⟨rfl, rfl⟩)
      rw [rounds_succ]
      go_wp2_with (go_at_call 29; refine (compare_is H2.out _).mono ?_; rintro e w' ⟨rfl, rfl⟩)
    · go_ret
      exact ⟨rfl, by (repeat (first | (with_reducible exact Below.refl _ _) | (with_reducible assumption) | (with_reducible refine below_drewN ?_ _) | (with_reducible refine Below.drew ?_) | ((with_reducible refine Below.alloc ?_ ?_ _); rotate_left; focus (first | (with_reducible exact Nat.le_refl _) | omega | (simp; done) | (simp; omega))) | ((with_reducible refine Below.setCell (p := ⟨_, _, _⟩) ?_ ?_ _); rotate_left; focus (first | (with_reducible exact Nat.le_refl _) | omega | (simp; done) | (simp; omega)))))⟩
    · go_ret
      exact ⟨rfl, by (repeat (first | (with_reducible exact Below.refl _ _) | (with_reducible assumption) | (with_reducible refine below_drewN ?_ _) | (with_reducible refine Below.drew ?_) | ((with_reducible refine Below.alloc ?_ ?_ _); rotate_left; focus (first | (with_reducible exact Nat.le_refl _) | omega | (simp; done) | (simp; omega))) | ((with_reducible refine Below.setCell (p := ⟨_, _, _⟩) ?_ ?_ _); rotate_left; focus (first | (with_reducible exact Nat.le_refl _) | omega | (simp; done) | (simp; omega)))))⟩
    · rw [rounds_succ]
      go_wp2
      go_ret
      exact ⟨rfl, by (repeat (first | (with_reducible exact Below.refl _ _) | (with_reducible assumption) | (with_reducible refine below_drewN ?_ _) | (with_reducible refine Below.drew ?_) | ((with_reducible refine Below.alloc ?_ ?_ _); rotate_left; focus (first | (with_reducible exact Nat.le_refl _) | omega | (simp; done) | (simp; omega))) | ((with_reducible refine Below.setCell (p := ⟨_, _, _⟩) ?_ ?_ _); rotate_left; focus (first | (with_reducible exact Nat.le_refl _) | omega | (simp; done) | (simp; omega)))))⟩

set_option maxHeartbeats 400000 in
theorem order_any (a1 a2 b1 b2 : Int) (w : World) :
    Calls Try.prog 13 #[.agg #[.int .i64 a1, .int .i64 a2], .agg #[.int .i64 b1, .int .i64 b2]] w fun e w' => e = .returned (.int .i64 (ordS (a1, a2) (b1, b2))) ∧ Below w.heap.size w w' := by
  go_enter Try.func13, Try.ntmps13
  go_wp2_with fail
  refine (epOrder_any _ _ _ _ _).mono ?_
  rintro e W1 ⟨rfl, hB1⟩
  go_wp2
  go_ret
  exact ⟨rfl, (Below.trans (by (repeat (first | (with_reducible exact Below.refl _ _) | (with_reducible assumption) | (with_reducible refine below_drewN ?_ _) | (with_reducible refine Below.drew ?_) | ((with_reducible refine Below.alloc ?_ ?_ _); rotate_left; focus (first | (with_reducible exact Nat.le_refl _) | omega | (simp; done) | (simp; omega))) | ((with_reducible refine Below.setCell (p := ⟨_, _, _⟩) ?_ ?_ _); rotate_left; focus (first | (with_reducible exact Nat.le_refl _) | omega | (simp; done) | (simp; omega)))))) (hB1.mono (by simp; try omega)))⟩

def epR (n l s : Int) (e : Int × Int) : Bool := shapeB n l s && epB n e
set_option maxHeartbeats 1000000 in
theorem refRight_any (n l s a b : Int) (w : World) :
    Calls Try.prog 17 #[.agg #[.int .i64 n, .int .i64 l, .int .i64 s], .agg #[.int .i64 a, .int .i64 b]] w fun e w' => e = .returned (.bool (epR n l s (a, b))) ∧ Below w.heap.size w w' := by
  have sc := fun W => refShape_any n l s W
  cases hs : shapeB n l s
  all_goals
    have HS := Lib.hid hs
    rw [hs] at sc
    have SC := Lib.hid sc
    clear sc hs
    go_enter Try.func17, Try.ntmps17
    go_wp2_with fail
    refine (SC.out _).mono ?_
    rintro e W1 ⟨rfl, hB1⟩
    have hz := hB1.size
    simp at hz
    have hc : ∀ b o, b < w.heap.size + 1 + 1 → W1.cell? ⟨b, o, none⟩ = _ := fun b o h => hB1.cell (p := ⟨b, o, none⟩) (by simpa using h)
    go_wp2
    all_goals (go_ret; exact ⟨ret_bool (by unfold epR epB; rw [HS.out]; first | rfl | (simp; done) | (simp; omega) | (rw [Bool.eq_iff_iff]; simp; omega) | grind), (Below.trans (by (repeat (first | (with_reducible exact Below.refl _ _) | (with_reducible assumption) | (with_reducible refine below_drewN ?_ _) | (with_reducible refine Below.drew ?_) | ((with_reducible refine Below.alloc ?_ ?_ _); rotate_left; focus (first | (with_reducible exact Nat.le_refl _) | omega | (simp; done) | (simp; omega))) | ((with_reducible refine Below.setCell (p := ⟨_, _, _⟩) ?_ ?_ _); rotate_left; focus (first | (with_reducible exact Nat.le_refl _) | omega | (simp; done) | (simp; omega)))))) (hB1.mono (by simp; try omega)))⟩)
theorem refRight_is {n l s a b : Int} {r : Bool} (h : epR n l s (a, b) = r) (w : World) :
    Calls Try.prog 17 #[.agg #[.int .i64 n, .int .i64 l, .int .i64 s], .agg #[.int .i64 a, .int .i64 b]] w fun e w' => e = .returned (.bool r) ∧ Below w.heap.size w w' := by
  have := refRight_any n l s a b w
  rw [h] at this
  exact this

end Go.Proofs.Ytnkkfkbchijfnaa
