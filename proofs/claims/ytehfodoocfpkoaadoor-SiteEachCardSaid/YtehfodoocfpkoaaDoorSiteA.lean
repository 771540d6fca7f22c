/- Shapes: slices.IndexFunc and ContainsFunc over asks; site.Check; the reference's Shape. -/
import Derived.Test.YtehfodoocfpkoaaDoorRows
import Derived.Test.YtehfodoocfpkoaaDoorLib2
import Derived.Test.YtehfodoocfpkoaaDoorLib3
import Derived.BigGuardPart
import Derived.Shelf.Abstract
import Derived.Shelf.RegionOpen
import Derived.Deep.LoopGhost
import Derived.Deep.Light
namespace Go.Proofs.YtehfodoocfpkoaaDoor
open Go.RowKit Go.Shelf

/-- The first place at which p holds; -1: none. -/
def idxI {α : Type} (p : α → Bool) (xs : List α) : Int := match xs.findIdx? p with | some i => i | none => -1
theorem idxI_at {α : Type} {p : α → Bool} {xs : List α} {k : Nat} {x : α} (h : ∀ j y, j < k → xs[j]? = some y → p y = false) (hx : xs[k]? = some x) (hp : p x = true) : idxI p xs = k := by
  have hk := (List.getElem?_eq_some_iff.1 hx).1
  have : xs.findIdx? p = some k := by
    rw [List.findIdx?_eq_some_iff_getElem]
    refine ⟨hk, by rw [(List.getElem?_eq_some_iff.1 hx).2]; exact hp, fun j hj => ?_⟩
    rw [h j _ hj (List.getElem?_eq_getElem (by omega))]
    decide
  unfold idxI
  rw [this]
theorem idxI_none {α : Type} {p : α → Bool} {xs : List α} (h : ∀ j x, j < xs.length → xs[j]? = some x → p x = false) : idxI p xs = -1 := by
  have : xs.findIdx? p = none := by
    rw [List.findIdx?_eq_none_iff]
    intro x hx
    obtain ⟨i, hi⟩ := List.getElem?_of_mem hx
    exact h i x (List.getElem?_eq_some_iff.1 hi).1 hi
  unfold idxI
  rw [this]
theorem idxI_any {α : Type} (p : α → Bool) (xs : List α) : decide (0 ≤ idxI p xs) = xs.any p := by
  unfold idxI
  cases h : xs.findIdx? p with
  | none =>
    rw [List.findIdx?_eq_none_iff] at h
    have : xs.any p = false := by rw [List.any_eq_false]; intro x hx; rw [h x hx]; decide
    rw [this]; rfl
  | some i =>
    rw [List.findIdx?_eq_some_iff_getElem] at h
    obtain ⟨hi, hp, _⟩ := h
    have : xs.any p = true := by rw [List.any_eq_true]; exact ⟨_, List.getElem_mem hi, hp⟩
    rw [this]
    exact decide_eq_true (Int.natCast_nonneg i)

set_option maxRecDepth 100000 in
set_option maxHeartbeats 2000000 in
/-- slices.IndexFunc. -/
theorem indexFuncV_any {α : Type} (f : α → Value) (w : World) (sv : Value) (xs : List (α)) (hlen : xs.length ≤ 1099511627776) (hS : Sl (encV f) 1 w sv xs)
    (g : Nat) (lb : Array Value) (eg : Enters Tryd.prog g) (p : α → Bool)
    (hg : ∀ x W, Below w.heap.size w W → Calls Tryd.prog g (#[f x] ++ lb) W fun e W' => e = .returned (.bool (p x)) ∧ Below W.heap.size W W') :
    Calls Tryd.prog 68 #[sv, .func (.func g) #[] lb] w fun e W' => e = .returned (.int .i64 (idxI p xs)) ∧ Below w.heap.size w W' := by
  have eg' : ∀ args w, (callFunc g args).run Tryd.prog w = .ok (.enter g args) w := eg
  obtain ⟨a, cap, rfl⟩ := hS.shape
  go_enter Tryd.func68, Tryd.ntmps68
  go_wp2
  go_loopg [8] (xs.length) (fun n i wr => ∃ k : Nat, n + k = xs.length ∧ i = .int .i64 k ∧ Below w.heap.size w wr ∧ ∀ j x, j < k → xs[j]? = some x → p x = false)
  case atStart => exact ⟨0, rfl, rfl, Below.refl _ _, fun j x hj => absurd hj (by omega)⟩
  case round =>
    obtain ⟨k, hk, rfl, hB, hno⟩ := hrel
    have HK := Lib.hid hk
    have HN := Lib.hid hno
    clear hno
    by_cases hlt : k < xs.length
    · obtain ⟨b, off, cap', hv, hb, hcell⟩ := hS.atV hlt
      cases hv
      obtain ⟨x, hx⟩ := at_some hlt
      have hcx := hcell k x hx
      have hcy := (hB.cell (p := ⟨b, off + k, none⟩) hb).trans hcx
      clear hcx
      have i0 : (0 : Int) ≤ (k : Int) := by omega
      have HX := Lib.hid hx
      have HLT := Lib.hid hlt
      clear hcell hx hk
      have HP := Lib.hid (hg x)
      cases hpx : p x
      · rw [hpx] at HP
        have HPX := Lib.hid hpx
        clear hpx
        go_wp2_with fail
        refine (HP.out _ hB).mono ?_
        rintro e W1 ⟨rfl, hB1⟩
        go_wp2_with fail
        go_roundg (gk - 1)
        case measure => have := HK.out; have := HLT.out; omega
        case rel =>
          refine ⟨k + 1, by have := HK.out; have := HLT.out; omega, by go_num, hB.trans (hB1.mono hB.size), fun j y hj hy => ?_⟩
          by_cases hjk : j = k
          · subst hjk; rw [HX.out] at hy; cases hy; exact HPX.out
          · exact HN.out j y (by omega) hy
      · rw [hpx] at HP
        have HI := Lib.hid (idxI_at HN.out HX.out hpx)
        clear hpx
        go_wp2_with fail
        refine (HP.out _ hB).mono ?_
        rintro e W1 ⟨rfl, hB1⟩
        go_wp2_with fail
        go_ret
        exact ⟨ret_i64 HI.out.symm, hB.trans (hB1.mono hB.size)⟩
    · obtain rfl : k = xs.length := by omega
      have HI := Lib.hid (idxI_none (fun j x hj => HN.out j x hj))
      clear hk HK
      go_wp2_with fail
      go_ret
      exact ⟨ret_i64 HI.out.symm, hB⟩
set_option maxHeartbeats 400000 in
/-- slices.ContainsFunc. -/
theorem containsFuncV_any {α : Type} (f : α → Value) (w : World) (sv : Value) (xs : List (α)) (hlen : xs.length ≤ 1099511627776) (hS : Sl (encV f) 1 w sv xs)
    (g : Nat) (lb : Array Value) (eg : Enters Tryd.prog g) (p : α → Bool)
    (hg : ∀ x W, Below w.heap.size w W → Calls Tryd.prog g (#[f x] ++ lb) W fun e W' => e = .returned (.bool (p x)) ∧ Below W.heap.size W W') :
    Calls Tryd.prog 48 #[sv, .func (.func g) #[] lb] w fun e W' => e = .returned (.bool (xs.any p)) ∧ Below w.heap.size w W' := by
  have kk := Lib.hid (indexFuncV_any f w sv xs hlen hS g lb eg p hg)
  obtain ⟨a, cap, rfl⟩ := hS.shape
  have hi := idxI_any p xs
  obtain ⟨i, hI⟩ : ∃ i, i = idxI p xs := ⟨_, rfl⟩
  rw [← hI] at kk hi
  cases ha : xs.any p
  all_goals
    rw [ha] at hi
    have h0 : decide (0 ≤ i) = _ := hi
    clear ha hI hi hg hS
    go_enter Tryd.func48, Tryd.ntmps48
    go_wp2_with fail
    refine kk.out.mono ?_
    rintro e W1 ⟨rfl, hB1⟩
    go_wp2
    go_ret
    exact ⟨rfl, hB1⟩

set_option maxHeartbeats 400000 in
theorem within_any (n a b : Int) (w : World) :
    Calls Tryd.prog 28 #[.int .i64 n, .int .i64 a, .int .i64 b] w fun e w' => e = .returned (.bool (decide (a ≤ n) && decide (n ≤ b))) ∧ w = w' := by
  go_enter Tryd.func28, Tryd.ntmps28
  go_wp2
  all_goals (go_ret; exact ⟨ret_bool (by first | rfl | (simp; done) | (simp; omega) | (rw [Bool.eq_iff_iff]; simp; omega) | grind), rfl⟩)
theorem within_is {n a b : Int} {r : Bool} (h : (decide (a ≤ n) && decide (n ≤ b)) = r) (w : World) :
    Calls Tryd.prog 28 #[.int .i64 n, .int .i64 a, .int .i64 b] w fun e w' => e = .returned (.bool r) ∧ w = w' := by
  have := within_any n a b w
  rw [h] at this
  exact this

/-- May a shape be? -/
def shapeB (n l s : Int) : Bool := (decide (1 ≤ n) && decide (n ≤ 64)) && (decide (1 ≤ l) && decide (l ≤ 8)) && (decide (1 ≤ s) && decide (s ≤ 4))
theorem shapeB_is {n l s : Int} (h : shapeB n l s = true) : (1 ≤ n ∧ n ≤ 64) ∧ (1 ≤ l ∧ l ≤ 8) ∧ (1 ≤ s ∧ s ≤ 4) := by
  unfold shapeB at h; simp only [Bool.and_eq_true, decide_eq_true_eq] at h
  exact ⟨h.1.1, h.1.2, h.2⟩

set_option maxHeartbeats 1000000 in
theorem siteRight_any (n l s : Int) (w : World) :
    Calls Tryd.prog 47 #[.agg #[.int .i64 n, .int .i64 l, .int .i64 s]] w fun e w' => e = .returned (.bool (shapeB n l s)) ∧ Below w.heap.size w w' := by
  cases h1 : (decide (1 ≤ n) && decide (n ≤ 64)) <;> cases h2 : (decide (1 ≤ l) && decide (l ≤ 8)) <;> cases h3 : (decide (1 ≤ s) && decide (s ≤ 4))
  all_goals
    have H1 := Lib.hid h1
    have H2 := Lib.hid h2
    have H3 := Lib.hid h3
    clear h1 h2 h3
    go_enter Tryd.func47, Tryd.ntmps47
    go_wp2_with (go_at_call 28; (first | (with_reducible refine (within_is H1.out _).mono ?_) | (with_reducible refine (within_is H2.out _).mono ?_) | (with_reducible refine (within_is H3.out _).mono ?_)); rintro e w' ⟨rfl, rfl⟩)
    go_ret
    exact ⟨ret_bool (by unfold shapeB; rw [H1.out, H2.out, H3.out]; rfl), by (repeat (first | (with_reducible exact Below.refl _ _) | (with_reducible assumption) | (with_reducible refine below_drewN ?_ _) | (with_reducible refine Below.drew ?_) | ((with_reducible refine Below.alloc ?_ ?_ _); rotate_left; focus (first | (with_reducible exact Nat.le_refl _) | omega | (simp; done) | (simp; omega))) | ((with_reducible refine Below.setCell (p := ⟨_, _, _⟩) ?_ ?_ _); rotate_left; focus (first | (with_reducible exact Nat.le_refl _) | omega | (simp; done) | (simp; omega)))))⟩

set_option maxHeartbeats 400000 in
/-- The reference's. -/
theorem refShape_any (n l s : Int) (w : World) :
    Calls Tryd.prog 12 #[.agg #[.int .i64 n, .int .i64 l, .int .i64 s]] w fun e w' => e = .returned (.bool (shapeB n l s)) ∧ Below w.heap.size w w' := by
  go_enter Tryd.func12, Tryd.ntmps12
  go_wp2
  all_goals (go_ret; exact ⟨ret_bool (by unfold shapeB; first | rfl | (simp; done) | (simp; omega) | (rw [Bool.eq_iff_iff]; simp; omega) | grind), by (repeat (first | (with_reducible exact Below.refl _ _) | (with_reducible assumption) | (with_reducible refine below_drewN ?_ _) | (with_reducible refine Below.drew ?_) | ((with_reducible refine Below.alloc ?_ ?_ _); rotate_left; focus (first | (with_reducible exact Nat.le_refl _) | omega | (simp; done) | (simp; omega))) | ((with_reducible refine Below.setCell (p := ⟨_, _, _⟩) ?_ ?_ _); rotate_left; focus (first | (with_reducible exact Nat.le_refl _) | omega | (simp; done) | (simp; omega)))))⟩)

/-- What asked answers. -/
def askedE (b : Bool) (no : Bool) : Int := if b = false then 2 else if no = true then 4 else 0

theorem jump_ret {l : Nat} {J : Act → World → Prop} {Q : Exit → Act → World → Prop} {a : Act} {w : World} : Exit.jump l J Q .ret a w = Q .ret a w := rfl

set_option maxRecDepth 100000 in
set_option maxHeartbeats 1000000 in
theorem asked_any {α : Type} (f : α → Value) (n l s : Int) (w : World) (sv : Value) (xs : List α) (hlen : xs.length ≤ 1099511627776) (hS : Sl (encV f) 1 w sv xs) (p : α → Bool)
    (hg : ∀ x W, Below w.heap.size w W → Calls Tryd.prog 49 #[f x] W fun e W' => e = .returned (.bool (p x)) ∧ Below W.heap.size W W') :
    Calls Tryd.prog 26 #[.agg #[.int .i64 n, .int .i64 l, .int .i64 s], sv] w fun e w' => e = .returned (.int .i64 (askedE (shapeB n l s) (xs.any p))) ∧ Below w.heap.size w w' := by
  have hS' := Lib.hid hS
  obtain ⟨a, cap, rfl⟩ := hS.shape
  have HG := Lib.hid hg
  clear hg hS
  obtain ⟨q, hq⟩ : ∃ q, q = xs.any p := ⟨_, rfl⟩
  have HQ := Lib.hid hq
  rw [← hq]
  clear hq
  have sr := fun W => siteRight_any n l s W
  cases hs : shapeB n l s
  · rw [hs] at sr
    have SR := Lib.hid sr
    clear sr hs
    go_enter Tryd.func26, Tryd.ntmps26
    go_wp2_with fail
    refine wp_scope_fwd 0 rfl ?_
    go_wp2_with fail
    refine (SR.out _).mono ?_
    rintro e W1 ⟨rfl, hB1⟩
    go_wp2
    go_step3
    refine ⟨rfl, ?_⟩
    go_wp2
    rw [Exit.noGoto_ret]
    go_ret
    exact ⟨rfl, Below.trans (by (repeat (first | (with_reducible exact Below.refl _ _) | (with_reducible assumption) | (with_reducible refine below_drewN ?_ _) | (with_reducible refine Below.drew ?_) | ((with_reducible refine Below.alloc ?_ ?_ _); rotate_left; focus (first | (with_reducible exact Nat.le_refl _) | omega | (simp; done) | (simp; omega))) | ((with_reducible refine Below.setCell (p := ⟨_, _, _⟩) ?_ ?_ _); rotate_left; focus (first | (with_reducible exact Nat.le_refl _) | omega | (simp; done) | (simp; omega)))))) (hB1.mono (by simp))⟩
  · rw [hs] at sr
    have SR := Lib.hid sr
    clear sr hs
    cases q
    all_goals
      go_enter Tryd.func26, Tryd.ntmps26
      go_wp2_with fail
      refine wp_scope_fwd 0 rfl ?_
      go_wp2_with fail
      refine (SR.out _).mono ?_
      rintro e W1 ⟨rfl, hB1⟩
      have hB : Below w.heap.size w W1 := Below.trans (by (repeat (first | (with_reducible exact Below.refl _ _) | (with_reducible assumption) | (with_reducible refine below_drewN ?_ _) | (with_reducible refine Below.drew ?_) | ((with_reducible refine Below.alloc ?_ ?_ _); rotate_left; focus (first | (with_reducible exact Nat.le_refl _) | omega | (simp; done) | (simp; omega))) | ((with_reducible refine Below.setCell (p := ⟨_, _, _⟩) ?_ ?_ _); rotate_left; focus (first | (with_reducible exact Nat.le_refl _) | omega | (simp; done) | (simp; omega)))))) (hB1.mono (by simp))
      have kk := Lib.hid (containsFuncV_any f W1 _ xs hlen (hS'.out.below hB) 49 #[] (enters_of Tryd.func49 (by kernel_rfl) rfl) p (fun x W hW => HG.out x W (hB.trans (hW.mono hB.size))))
      rw [← HQ.out] at kk
      go_wp2_with fail
      refine kk.out.mono ?_
      rintro e W2 ⟨rfl, hB2⟩
      go_wp2
    · rw [jump_ret]
      go_ret
      exact ⟨rfl, hB.trans (hB2.mono hB.size)⟩
    · go_step3
      refine ⟨rfl, ?_⟩
      go_wp2
      rw [Exit.noGoto_ret]
      go_ret
      exact ⟨rfl, hB.trans (hB2.mono hB.size)⟩

/-- What Check answers. -/
def shapeE (n l s : Int) : Int := if shapeB n l s = true then 0 else 2
set_option maxHeartbeats 400000 in
theorem siteCheck_any (n l s : Int) (w : World) :
    Calls Tryd.prog 14 #[.agg #[.int .i64 n, .int .i64 l, .int .i64 s]] w fun e w' => e = .returned (.int .i64 (shapeE n l s)) ∧ Below w.heap.size w w' := by
  go_enter Tryd.func14, Tryd.ntmps14
  go_wp2_with fail
  refine (asked_any (α := Empty) (fun _ => undef) n l s _ (.slice none 0 0) [] (by simp) (Sl.nil _ _ _) (fun _ => false) (fun x => nomatch x)).mono ?_
  rintro e W1 ⟨rfl, hB1⟩
  go_wp2
  go_ret
  exact ⟨ret_i64 (by unfold askedE shapeE; cases shapeB n l s <;> rfl), Below.trans (by (repeat (first | (with_reducible exact Below.refl _ _) | (with_reducible assumption) | (with_reducible refine below_drewN ?_ _) | (with_reducible refine Below.drew ?_) | ((with_reducible refine Below.alloc ?_ ?_ _); rotate_left; focus (first | (with_reducible exact Nat.le_refl _) | omega | (simp; done) | (simp; omega))) | ((with_reducible refine Below.setCell (p := ⟨_, _, _⟩) ?_ ?_ _); rotate_left; focus (first | (with_reducible exact Nat.le_refl _) | omega | (simp; done) | (simp; omega)))))) (hB1.mono (by simp))⟩

end Go.Proofs.YtehfodoocfpkoaaDoor
