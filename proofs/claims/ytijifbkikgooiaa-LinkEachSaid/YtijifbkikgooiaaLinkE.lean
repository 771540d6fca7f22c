/- Link: Order; Clone; own; the reference's copy. -/
import Derived.Test.YtijifbkikgooiaaLinkD
import Derived.Deep.RegionHeld3
import Derived.Lib.SliceRun
import Derived.BigQuiet
import Derived.Deep.QuietTactic
namespace Go.Proofs.Ytijifbkikgooiaa
open Go.RowKit Go.Shelf

/-- The first of a list that is not 0; else 0. -/
def firstNZ (xs : List Int) : Int := (xs.find? (fun x => x != 0)).getD 0
theorem firstNZ_at {xs : List Int} {k : Nat} {x : Int} (h : ∀ j y, j < k → xs[j]? = some y → y = 0) (hx : xs[k]? = some x) (hz : x ≠ 0) : firstNZ xs = x := by
  induction xs generalizing k with
  | nil => simp at hx
  | cons a xs ih =>
    cases k with
    | zero =>
      simp at hx; subst hx
      simp [firstNZ, hz]
    | succ k =>
      have ha : a = 0 := h 0 a (by omega) rfl
      have := ih (k := k) (fun j y hj hy => h (j + 1) y (by omega) (by simpa using hy)) (by simpa using hx)
      subst ha
      simpa [firstNZ] using this
theorem firstNZ_none {xs : List Int} (h : ∀ j y, j < xs.length → xs[j]? = some y → y = 0) : firstNZ xs = 0 := by
  have : xs.find? (fun x => x != 0) = none := by
    rw [List.find?_eq_none]
    intro x hx
    obtain ⟨i, hi⟩ := List.getElem?_of_mem hx
    have := h i x (List.getElem?_eq_some_iff.1 hi).1 hi
    simp [this]
  simp [firstNZ, this]

set_option maxHeartbeats 400000 in
theorem orI_any (w : World) (sv : Value) (xs : List Int) (hlen : xs.length ≤ 1099511627776) (hS : Sl encI 1 w sv xs) :
    Calls Try.prog 29 #[sv] w fun e w' => e = .returned (.int .i64 (firstNZ xs)) ∧ w = w' := by
  obtain ⟨a, cap, rfl⟩ := hS.shape
  go_enter Try.func29, Try.ntmps29
  go_wp2
  go_loop [8] (fun i => ∃ k : Nat, k ≤ xs.length ∧ i = .int .i64 k ∧ ∀ j y, j < k → xs[j]? = some y → y = 0) (fun i => xs.length - (intOf i).toNat)
  case atStart => exact ⟨0, Nat.zero_le _, rfl, fun j y hj => absurd hj (by omega)⟩
  case round =>
    obtain ⟨k, hk, rfl, hz0⟩ := hrel
    have hz := Lib.hid hz0
    clear hz0
    by_cases hlt : k < xs.length
    · obtain ⟨b, off, cap', hv, hb, hcell⟩ := hS.atI hlt
      cases hv
      obtain ⟨x, hx⟩ := at_some hlt
      have hcx := hcell k x hx
      have HX := Lib.hid hx
      clear hcell hx
      by_cases hx0 : x = 0
      · subst hx0
        go_wp2
        go_round
        case rel =>
          refine ⟨k + 1, by omega, by go_num, fun j y hj hy => ?_⟩
          by_cases e : j = k
          · subst e; rw [HX.out] at hy; cases hy; rfl
          · exact hz.out j y (by omega) hy
        case measure => simp [intOf]; omega
      · have hx1 : (x != 0) = true := by simp [hx0]
        go_wp2
        go_ret
        exact ⟨ret_i64 (firstNZ_at hz.out HX.out hx0).symm, rfl⟩
    · obtain rfl : k = xs.length := by omega
      go_wp2
      go_ret
      exact ⟨ret_i64 (firstNZ_none hz.out).symm, rfl⟩

theorem firstNZ_two (a b : Int × Int) : firstNZ [cmpI a.1 b.1, cmpI a.2 b.2] = ordS a b := by
  simp only [firstNZ, ordS, cmpI, List.find?]
  grind

set_option maxHeartbeats 1000000 in
theorem order_any (a1 a2 b1 b2 : Int) (w : World) :
    Calls Try.prog 14 #[.agg #[.int .i64 a1, .int .i64 a2], .agg #[.int .i64 b1, .int .i64 b2]] w fun e w' => e = .returned (.int .i64 (ordS (a1, a2) (b1, b2))) ∧ Below w.heap.size w w' := by
  go_enter Try.func14, Try.ntmps14
  go_wp2
  go_region_held3 (fun w' => w'.cell? ⟨w.heap.size, 0, none⟩ = some (.int .i64 a1) ∧ w'.cell? ⟨w.heap.size, 1, none⟩ = some (.int .i64 a2) ∧ w'.cell? ⟨w.heap.size + 1, 0, none⟩ = some (.int .i64 b1) ∧ w'.cell? ⟨w.heap.size + 1, 1, none⟩ = some (.int .i64 b2)) (go_keep)
    (first | (go_at_call 30; refine (compare_any _ _ _).mono ?_; rintro e w' ⟨rfl, rfl⟩) | (go_at_call 29; refine (orI_any _ _ [cmpI a1 b1, cmpI a2 b2] (by simp) (Sl.lit2 (by rw [World.cell?_drew, World.cell?_alloc_at _ _ _ _ (by simp)]; rfl) (by rw [World.cell?_drew, World.cell?_alloc_at _ _ _ _ (by simp)]; rfl))).mono ?_; rintro e w' ⟨rfl, rfl⟩))
  go_wp2
  go_ret
  exact ⟨ret_i64 (firstNZ_two (a1, a2) (b1, b2)), by (repeat (first | (with_reducible exact Below.refl _ _) | (with_reducible assumption) | (with_reducible refine below_drewN ?_ _) | (with_reducible refine Below.drew ?_) | ((with_reducible refine Below.alloc ?_ ?_ _); rotate_left; focus (first | (with_reducible exact Nat.le_refl _) | omega | (simp; done) | (simp; omega))) | ((with_reducible refine Below.setCell (p := ⟨_, _, _⟩) ?_ ?_ _); rotate_left; focus (first | (with_reducible exact Nat.le_refl _) | omega | (simp; done) | (simp; omega)))))⟩

/-! ### Clone -/
theorem Try.infoI : (Try.prog.info? 2).map (fun i => (i.zero, i.size, i.bytes)) = some (some (.int .i64 0), 1, 8) := by kernel_rfl
theorem Try.infoP : (Try.prog.info? 27).map (fun i => (i.zero, i.size, i.bytes)) = some (some (.agg #[.int .i64 0, .int .i64 0]), 2, 16) := by kernel_rfl

set_option maxHeartbeats 1000000 in
theorem cloneI_any (w : World) (sv : Value) (xs : List Int) (hlen : xs.length ≤ 1099511627776) (hS : Sl encI 1 w sv xs) :
    Calls Try.prog 48 #[sv] w fun e w' => ∃ v, e = .returned v ∧ w'.ownsRow w.heap.size 2 1 v xs.length (xs.flatMap encI) ∧ Below w.heap.size w w' := by
  obtain ⟨a, cap, rfl⟩ := hS.shape
  obtain ⟨i0, hi, hz0, hz1, hz2⟩ := info_parts Try.infoI
  cases a with
  | none =>
    obtain rfl := hS.nil_of_none
    have heq := fun w' => Lib.run_eql_slice_nil (P := Try.prog) w' 22 2 none 0 cap 0 0 Try.underlying22
    go_enter Try.func48, Try.ntmps48
    go_wp2
    go_ret
    exact ⟨_, rfl, World.ownsRow_nil _ _ _ _, Below.refl _ _⟩
  | some ad =>
    have heq := fun w' => Lib.run_eql_slice_nil (P := Try.prog) w' 22 2 (some ad) xs.length cap 0 0 Try.underlying22
    have hnews := (hS.below (w' := w.alloc (.cells #[] 2)) (by (repeat (first | (with_reducible exact Below.refl _ _) | (with_reducible assumption) | (with_reducible refine below_drewN ?_ _) | (with_reducible refine Below.drew ?_) | ((with_reducible refine Below.alloc ?_ ?_ _); rotate_left; focus (first | (with_reducible exact Nat.le_refl _) | omega | (simp; done) | (simp; omega))) | ((with_reducible refine Below.setCell (p := ⟨_, _, _⟩) ?_ ?_ _); rotate_left; focus (first | (with_reducible exact Nat.le_refl _) | omega | (simp; done) | (simp; omega))))))).news encI_len
    have hfl := flat_length encI_len xs
    have Hfl := Lib.hid hfl
    have Hnews := Lib.hid hnews
    clear hfl hnews hS
    have hown := World.ownsRow_made (w := w) (base := w.heap.size) (e := 2) (size := 1) #[] 0 (Nat.le_refl _) (by decide) rfl
    have Hown := Lib.hid hown
    clear hown
    go_enter Try.func48, Try.ntmps48
    go_wp2_with (at_builtin; refine wpList_append_own _ rfl _ _ 22 rfl w.heap.size 2 i0 (.int .i64 0) 1 8 Try.underlying22 hi hz0 hz1 hz2 rfl (by decide) _ _ _ rfl Hown.out ad xs.length cap (xs.flatMap encI) rfl Hfl.out Hnews.out encI_one (by unfold maxLen; omega) (by omega) (by simp) ?_; intro v' w1 hown' hgrow _; have hv' := Lib.hid hown'; clear hown')
    go_ret
    refine ⟨v', rfl, by simpa using hv'.out, ((Below.refl _ w).alloc (Nat.le_refl _) _).grown hgrow (by simp) (fun k e => ?_)⟩
    have e1 : w.heap.size = k := Option.some.inj (show some w.heap.size = some k from e)
    omega

set_option maxHeartbeats 1000000 in
theorem cloneP_any (w : World) (sv : Value) (xs : List (Int × Int)) (hlen : xs.length ≤ 1099511627776) (hS : Sl encP 2 w sv xs) :
    Calls Try.prog 33 #[sv] w fun e w' => ∃ v, e = .returned v ∧ w'.ownsRow w.heap.size 27 2 v xs.length (xs.flatMap encP) ∧ Below w.heap.size w w' := by
  obtain ⟨a, cap, rfl⟩ := hS.shape
  obtain ⟨i0, hi, hz0, hz1, hz2⟩ := info_parts Try.infoP
  cases a with
  | none =>
    obtain rfl := hS.nil_of_none
    have heq := fun w' => Lib.run_eql_slice_nil (P := Try.prog) w' 23 27 none 0 cap 0 0 Try.underlying23
    go_enter Try.func33, Try.ntmps33
    go_wp2
    go_ret
    exact ⟨_, rfl, World.ownsRow_nil _ _ _ _, Below.refl _ _⟩
  | some ad =>
    have heq := fun w' => Lib.run_eql_slice_nil (P := Try.prog) w' 23 27 (some ad) xs.length cap 0 0 Try.underlying23
    have hnews := (hS.below (w' := w.alloc (.cells #[] 27)) (by (repeat (first | (with_reducible exact Below.refl _ _) | (with_reducible assumption) | (with_reducible refine below_drewN ?_ _) | (with_reducible refine Below.drew ?_) | ((with_reducible refine Below.alloc ?_ ?_ _); rotate_left; focus (first | (with_reducible exact Nat.le_refl _) | omega | (simp; done) | (simp; omega))) | ((with_reducible refine Below.setCell (p := ⟨_, _, _⟩) ?_ ?_ _); rotate_left; focus (first | (with_reducible exact Nat.le_refl _) | omega | (simp; done) | (simp; omega))))))).news encP_len
    have hfl := flat_length encP_len xs
    have Hfl := Lib.hid hfl
    have Hnews := Lib.hid hnews
    clear hfl hnews hS
    have hown := World.ownsRow_made (w := w) (base := w.heap.size) (e := 27) (size := 2) #[] 0 (Nat.le_refl _) (by decide) rfl
    have Hown := Lib.hid hown
    clear hown
    go_enter Try.func33, Try.ntmps33
    go_wp2_with (at_builtin; refine wpList_append_own _ rfl _ _ 23 rfl w.heap.size 27 i0 (.agg #[.int .i64 0, .int .i64 0]) 2 16 Try.underlying23 hi hz0 hz1 hz2 rfl (by decide) _ _ _ rfl Hown.out ad xs.length cap (xs.flatMap encP) rfl Hfl.out Hnews.out encP_one (by unfold maxLen; omega) (by omega) (by simp) ?_; intro v' w1 hown' hgrow _; have hv' := Lib.hid hown'; clear hown')
    go_ret
    refine ⟨v', rfl, by simpa using hv'.out, ((Below.refl _ w).alloc (Nat.le_refl _) _).grown hgrow (by simp) (fun k e => ?_)⟩
    have e1 : w.heap.size = k := Option.some.inj (show some w.heap.size = some k from e)
    omega

/-- A link of memory of its own, beyond base. -/
def LkOwn (w : World) (base : Nat) (v : Value) (l : Lk) : Prop :=
  ∃ s1 s2, v = .agg #[.int .i64 l.inc, s1, s2] ∧ w.ownsRow base 2 1 s1 l.out.length (l.out.flatMap encI) ∧ w.ownsRow base 27 2 s2 l.inn.length (l.inn.flatMap encP)
theorem LkOwn.reads {w : World} {base : Nat} {v : Value} {l : Lk} (h : LkOwn w base v l) : LkR w v l := by
  obtain ⟨s1, s2, hv, h1, h2⟩ := h
  exact ⟨s1, s2, hv, Sl.of_owns encI_len h1, Sl.of_owns encP_len h2⟩

set_option maxHeartbeats 1000000 in
theorem own_any (w : World) (v : Value) (l : Lk) (ho : l.out.length ≤ 1099511627776) (hi : l.inn.length ≤ 1099511627776) (hl : LkR w v l) :
    Calls Try.prog 31 #[v] w fun e w' => ∃ r, e = .returned r ∧ LkOwn w' w.heap.size r l ∧ Below w.heap.size w w' := by
  obtain ⟨s1, s2, rfl, h1, h2⟩ := hl
  have h1' := h1
  have h2' := h2
  obtain ⟨a1, c1, rfl⟩ := h1'.shape
  obtain ⟨a2, c2, rfl⟩ := h2'.shape
  clear h1' h2'
  go_enter Try.func31, Try.ntmps31
  go_wp2
  obtain ⟨W, hW⟩ : ∃ W, W = ((w.alloc (.cells #[.int .i64 l.inc, .slice a1 l.out.length c1, .slice a2 l.inn.length c2] 64)).alloc (.cells #[.int .i64 0, .slice none 0 0, .slice none 0 0] 25)) := ⟨_, rfl⟩
  have hB : Below w.heap.size w W := by rw [hW]; (repeat (first | (with_reducible exact Below.refl _ _) | (with_reducible assumption) | (with_reducible refine below_drewN ?_ _) | (with_reducible refine Below.drew ?_) | ((with_reducible refine Below.alloc ?_ ?_ _); rotate_left; focus (first | (with_reducible exact Nat.le_refl _) | omega | (simp; done) | (simp; omega))) | ((with_reducible refine Below.setCell (p := ⟨_, _, _⟩) ?_ ?_ _); rotate_left; focus (first | (with_reducible exact Nat.le_refl _) | omega | (simp; done) | (simp; omega)))))
  have hsz : W.heap.size = w.heap.size + 1 + 1 := by rw [hW]; simp
  have c0 : W.cell? ⟨w.heap.size, 0, none⟩ = some (.int .i64 l.inc) := by rw [hW, World.cell?_alloc_past _ _ _ (by simp), World.cell?_alloc_at _ _ _ _ rfl]; rfl
  have c1' : W.cell? ⟨w.heap.size, 1, none⟩ = some (.slice a1 l.out.length c1) := by rw [hW, World.cell?_alloc_past _ _ _ (by simp), World.cell?_alloc_at _ _ _ _ rfl]; rfl
  have c2' : W.cell? ⟨w.heap.size, 2, none⟩ = some (.slice a2 l.inn.length c2) := by rw [hW, World.cell?_alloc_past _ _ _ (by simp), World.cell?_alloc_at _ _ _ _ rfl]; rfl
  have d0 : W.cell? ⟨w.heap.size + 1, 0, none⟩ = some (.int .i64 0) := by rw [hW, World.cell?_alloc_at _ _ _ _ (by simp)]; rfl
  have d1 : W.cell? ⟨w.heap.size + 1, 1, none⟩ = some (.slice none 0 0) := by rw [hW, World.cell?_alloc_at _ _ _ _ (by simp)]; rfl
  have d2 : W.cell? ⟨w.heap.size + 1, 2, none⟩ = some (.slice none 0 0) := by rw [hW, World.cell?_alloc_at _ _ _ _ (by simp)]; rfl
  have d3 : ∀ i, W.frozen? ⟨w.heap.size + 1, i, none⟩ = false := fun i => by rw [hW, World.frozen?_alloc_at _ _ _ _ (by simp)]
  rw [← hW]
  clear hW
  go_region_held3 (fun w' => w'.cell? ⟨w.heap.size, 0, none⟩ = some (.int .i64 l.inc) ∧ w'.cell? ⟨w.heap.size, 1, none⟩ = some (.slice a1 l.out.length c1) ∧ w'.cell? ⟨w.heap.size, 2, none⟩ = some (.slice a2 l.inn.length c2)) (go_keep)
    (first
      | (go_at_call 48; refine (cloneI_any _ _ l.out ho (h1.below hB.drew)).mono ?_; rintro e wA ⟨sA, rfl, ownA, hA0⟩; have hA := below_undrew hA0; obtain ⟨aA, cA, rfl⟩ := owns_shape ownA; have e0 := (hA.cell (p := ⟨w.heap.size, 0, none⟩) (by show w.heap.size < _; simp; omega)).trans c0; have e1 := (hA.cell (p := ⟨w.heap.size, 1, none⟩) (by show w.heap.size < _; simp; omega)).trans c1'; have e2 := (hA.cell (p := ⟨w.heap.size, 2, none⟩) (by show w.heap.size < _; simp; omega)).trans c2'; have hszA := hA.size; have OwnA := Lib.hid ownA; clear ownA hA0)
      | (go_at_call 33; refine (cloneP_any _ _ l.inn hi (h2.below (hB.trans (hA.mono (by simp; omega))))).mono ?_; rintro e wB ⟨sB, rfl, ownB, hC⟩; obtain ⟨aB, cB, rfl⟩ := owns_shape ownB; have f0 := (hC.cell (p := ⟨w.heap.size, 0, none⟩) (by show w.heap.size < _; omega)).trans e0; have f1 := (hC.cell (p := ⟨w.heap.size, 1, none⟩) (by show w.heap.size < _; omega)).trans e1; have f2 := (hC.cell (p := ⟨w.heap.size, 2, none⟩) (by show w.heap.size < _; omega)).trans e2; have hD := hA.trans (hC.mono hA.size); have g0 := (hD.cell (p := ⟨w.heap.size + 1, 0, none⟩) (by show w.heap.size + 1 < _; simp; omega)).trans d0; have g1 := (hD.cell (p := ⟨w.heap.size + 1, 1, none⟩) (by show w.heap.size + 1 < _; simp; omega)).trans d1; have g2 := (hD.cell (p := ⟨w.heap.size + 1, 2, none⟩) (by show w.heap.size + 1 < _; simp; omega)).trans d2; have g3 := (hD.frozen (p := ⟨w.heap.size + 1, 0, none⟩) (by show w.heap.size + 1 < _; simp; omega)).trans (d3 0); have g4 := (hD.frozen (p := ⟨w.heap.size + 1, 1, none⟩) (by show w.heap.size + 1 < _; simp; omega)).trans (d3 1); have g5 := (hD.frozen (p := ⟨w.heap.size + 1, 2, none⟩) (by show w.heap.size + 1 < _; simp; omega)).trans (d3 2); have OwnB := Lib.hid ownB; clear ownB))
  go_wp2
  refine bodyPost_ret (v := .agg #[.int .i64 l.inc, .slice aA l.out.length cA, .slice aB l.inn.length cB]) (by simp [results, Try.results31, go_sem, g0, g1, g2]) rfl ⟨_, rfl, ⟨_, _, rfl, ?_, ?_⟩, ?_⟩
  · exact owns_base (ownsRow_setCell_below (ownsRow_setCell_below (ownsRow_setCell_below (owns_below OwnA.out hC) (by simp; omega) _) (by simp; omega) _) (by simp; omega) _) (by simp; omega)
  · exact owns_base (ownsRow_setCell_below (ownsRow_setCell_below (ownsRow_setCell_below OwnB.out (by first | omega | (simp; done) | (simp; omega) | (dsimp only; omega)) _) (by first | omega | (simp; done) | (simp; omega) | (dsimp only; omega)) _) (by first | omega | (simp; done) | (simp; omega) | (dsimp only; omega)) _) (by first | omega | (simp; done) | (simp; omega) | (dsimp only; omega))
  · exact (((hB.trans (hD.mono (by simp; omega))).setCell (by simp) _).setCell (by simp) _).setCell (by simp) _

end Go.Proofs.Ytijifbkikgooiaa
