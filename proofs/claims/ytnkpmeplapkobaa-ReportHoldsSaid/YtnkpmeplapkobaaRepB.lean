/- Reports: which reports may be; the tally that gives up. -/
import Derived.Test.YtnkpmeplapkobaaRepA
namespace Go.Proofs.Ytnkpmeplapkobaa
open Go.RowKit Go.Shelf

def hopB (x : Bool × Int) : Bool := decide (0 ≤ x.2) && decide (x.2 ≤ 1099511627776)
/-- May a report be, of a shape? -/
def repB (n l s : Int) (xs : List (Bool × Int)) : Bool := shapeB n l s && decide ((xs.length : Int) = l) && xs.all hopB

set_option maxHeartbeats 400000 in
theorem right1_any (h : Bool) (x : Int) (w : World) :
    Calls Try.prog 47 #[.agg #[.bool h, .int .i64 x]] w fun e w' => e = .returned (.bool (!hopB (h, x))) ∧ Below w.heap.size w w' := by
  go_enter Try.func47, Try.ntmps47
  go_wp2
  all_goals (go_ret; exact ⟨ret_bool (by unfold hopB; first | rfl | (simp; done) | (simp; omega) | (rw [Bool.eq_iff_iff]; simp; omega) | grind), by (repeat (first | (with_reducible exact Below.refl _ _) | (with_reducible assumption) | (with_reducible refine below_drewN ?_ _) | (with_reducible refine Below.drew ?_) | ((with_reducible refine Below.alloc ?_ ?_ _); rotate_left; focus (first | (with_reducible exact Nat.le_refl _) | omega | (simp; done) | (simp; omega))) | ((with_reducible refine Below.setCell (p := ⟨_, _, _⟩) ?_ ?_ _); rotate_left; focus (first | (with_reducible exact Nat.le_refl _) | omega | (simp; done) | (simp; omega)))))⟩)

set_option maxRecDepth 100000 in
set_option maxHeartbeats 2000000 in
/-- slices.IndexFunc. -/
theorem indexFuncR_any  (w : World) (sv : Value) (xs : List (Bool × Int)) (hlen : xs.length ≤ 1099511627776) (hS : Sl encR 2 w sv xs)
    (g : Nat) (lb : Array Value) (eg : Enters Try.prog g) (p : Bool × Int → Bool)
    (hg : ∀ x W, Below w.heap.size w W → Calls Try.prog g (#[.agg #[.bool x.1, .int .i64 x.2]] ++ lb) W fun e W' => e = .returned (.bool (p x)) ∧ Below W.heap.size W W') :
    Calls Try.prog 52 #[sv, .func (.func g) #[] lb] w fun e W' => e = .returned (.int .i64 (idxI p xs)) ∧ Below w.heap.size w W' := by
  have eg' : ∀ args w, (callFunc g args).run Try.prog w = .ok (.enter g args) w := eg
  obtain ⟨a, cap, rfl⟩ := hS.shape
  go_enter Try.func52, Try.ntmps52
  go_wp2
  go_loopg [8] (xs.length) (fun n i wr => ∃ k : Nat, n + k = xs.length ∧ i = .int .i64 k ∧ Below w.heap.size w wr ∧ ∀ j x, j < k → xs[j]? = some x → p x = false)
  case atStart => exact ⟨0, rfl, rfl, Below.refl _ _, fun j x hj => absurd hj (by omega)⟩
  case round =>
    obtain ⟨k, hk, rfl, hB, hno⟩ := hrel
    have HK := Lib.hid hk
    have HN := Lib.hid hno
    clear hno
    by_cases hlt : k < xs.length
    · obtain ⟨b, off, cap', hv, hb, hcell⟩ := hS.atR hlt
      cases hv
      obtain ⟨x, hx⟩ := at_some hlt
      have hcx := hcell k x hx
      have hcy := (hB.cell (p := ⟨b, off + k * 2, none⟩) hb).trans hcx.1
      have hcy2 := (hB.cell (p := ⟨b, off + k * 2 + 1, none⟩) hb).trans hcx.2
      clear hcx
      have i0 : (0 : Int) ≤ (k : Int) := by omega
      have HX := Lib.hid hx
      have HLT := Lib.hid hlt
      clear hcell hx hk
      have HP := Lib.hid (hg x)
      cases hpx : p x
      · rw [hpx] at HP
        have HPX := Lib.hid hpx
        clear hpx
        go_wp2_with fail
        refine (HP.out _ hB).mono ?_
        rintro e W1 ⟨rfl, hB1⟩
        go_wp2_with fail
        go_roundg (gk - 1)
        case measure => have := HK.out; have := HLT.out; omega
        case rel =>
          refine ⟨k + 1, by have := HK.out; have := HLT.out; omega, by go_num, hB.trans (hB1.mono hB.size), fun j y hj hy => ?_⟩
          by_cases hjk : j = k
          · subst hjk; rw [HX.out] at hy; cases hy; exact HPX.out
          · exact HN.out j y (by omega) hy
      · rw [hpx] at HP
        have HI := Lib.hid (idxI_at HN.out HX.out hpx)
        clear hpx
        go_wp2_with fail
        refine (HP.out _ hB).mono ?_
        rintro e W1 ⟨rfl, hB1⟩
        go_wp2_with fail
        go_ret
        exact ⟨ret_i64 HI.out.symm, hB.trans (hB1.mono hB.size)⟩
    · obtain rfl : k = xs.length := by omega
      have HI := Lib.hid (idxI_none (fun j x hj => HN.out j x hj))
      clear hk HK
      go_wp2_with fail
      go_ret
      exact ⟨ret_i64 HI.out.symm, hB⟩
set_option maxHeartbeats 400000 in
/-- slices.ContainsFunc. -/
theorem containsFuncR_any  (w : World) (sv : Value) (xs : List (Bool × Int)) (hlen : xs.length ≤ 1099511627776) (hS : Sl encR 2 w sv xs)
    (g : Nat) (lb : Array Value) (eg : Enters Try.prog g) (p : Bool × Int → Bool)
    (hg : ∀ x W, Below w.heap.size w W → Calls Try.prog g (#[.agg #[.bool x.1, .int .i64 x.2]] ++ lb) W fun e W' => e = .returned (.bool (p x)) ∧ Below W.heap.size W W') :
    Calls Try.prog 46 #[sv, .func (.func g) #[] lb] w fun e W' => e = .returned (.bool (xs.any p)) ∧ Below w.heap.size w W' := by
  have kk := Lib.hid (indexFuncR_any w sv xs hlen hS g lb eg p hg)
  obtain ⟨a, cap, rfl⟩ := hS.shape
  have hi := idxI_any p xs
  obtain ⟨i, hI⟩ : ∃ i, i = idxI p xs := ⟨_, rfl⟩
  rw [← hI] at kk hi
  cases ha : xs.any p
  all_goals
    rw [ha] at hi
    have h0 : decide (0 ≤ i) = _ := hi
    clear ha hI hi hg hS
    go_enter Try.func46, Try.ntmps46
    go_wp2_with fail
    refine kk.out.mono ?_
    rintro e W1 ⟨rfl, hB1⟩
    go_wp2
    go_ret
    exact ⟨rfl, hB1⟩

theorem not_any {α : Type} (p : α → Bool) (xs : List α) : (!xs.any fun x => !p x) = xs.all p := by
  induction xs with
  | nil => rfl
  | cons x xs ih => rw [List.any_cons, List.all_cons, ← ih]; cases p x <;> simp

set_option maxHeartbeats 1000000 in
theorem right_any (n l s : Int) (w : World) (sv : Value) (xs : List (Bool × Int)) (hlen : xs.length ≤ 1099511627776) (hS : Sl encR 2 w sv xs) :
    Calls Try.prog 36 #[.agg #[.int .i64 n, .int .i64 l, .int .i64 s], sv] w fun e w' => e = .returned (.bool (repB n l s xs)) ∧ Below w.heap.size w w' := by
  have HS := Lib.hid hS
  obtain ⟨a, cap, rfl⟩ := hS.shape
  clear hS
  have sc := fun W => siteCheck_any n l s W
  cases hs : shapeB n l s
  · have SC := Lib.hid (show ∀ W, _ from fun W => by have := sc W; rw [show shapeE n l s = 2 by simp [shapeE, hs]] at this; exact this)
    have hf := Lib.hid (show repB n l s xs = false by unfold repB; rw [hs]; rfl)
    clear sc hs
    go_enter Try.func36, Try.ntmps36
    go_wp2_with fail
    refine (SC.out _).mono ?_
    rintro e W1 ⟨rfl, hB1⟩
    go_wp2
    go_ret
    exact ⟨ret_bool (by rw [hf.out]), (Below.trans (by (repeat (first | (with_reducible exact Below.refl _ _) | (with_reducible assumption) | (with_reducible refine below_drewN ?_ _) | (with_reducible refine Below.drew ?_) | ((with_reducible refine Below.alloc ?_ ?_ _); rotate_left; focus (first | (with_reducible exact Nat.le_refl _) | omega | (simp; done) | (simp; omega))) | ((with_reducible refine Below.setCell (p := ⟨_, _, _⟩) ?_ ?_ _); rotate_left; focus (first | (with_reducible exact Nat.le_refl _) | omega | (simp; done) | (simp; omega)))))) (hB1.mono (by simp; try omega)))⟩
  · have SC := Lib.hid (show ∀ W, _ from fun W => by have := sc W; rw [show shapeE n l s = 0 by simp [shapeE, hs]] at this; exact this)
    clear sc
    by_cases hl : (xs.length : Int) = l
    · have hlb : ((xs.length : Int) == l) = true := by simpa using hl
      have hf := Lib.hid (show repB n l s xs = !(xs.any fun x => !hopB x) by unfold repB; rw [hs, not_any]; simp [hl])
      clear hs hl
      go_enter Try.func36, Try.ntmps36
      go_wp2_with fail
      refine (SC.out _).mono ?_
      rintro e W1 ⟨rfl, hB1⟩
      have hB : Below w.heap.size w W1 := (Below.trans (by (repeat (first | (with_reducible exact Below.refl _ _) | (with_reducible assumption) | (with_reducible refine below_drewN ?_ _) | (with_reducible refine Below.drew ?_) | ((with_reducible refine Below.alloc ?_ ?_ _); rotate_left; focus (first | (with_reducible exact Nat.le_refl _) | omega | (simp; done) | (simp; omega))) | ((with_reducible refine Below.setCell (p := ⟨_, _, _⟩) ?_ ?_ _); rotate_left; focus (first | (with_reducible exact Nat.le_refl _) | omega | (simp; done) | (simp; omega)))))) (hB1.mono (by simp; try omega)))
      have hc := (hB1.cell (p := ⟨w.heap.size, 1, none⟩) (by simp)).trans (World.cell?_alloc_at _ _ _ _ rfl)
      have kk := Lib.hid (containsFuncR_any W1 _ xs hlen (HS.out.below hB) 47 #[] (enters_of Try.func47 (by kernel_rfl) rfl) (fun x => !hopB x) (fun x W hW => right1_any x.1 x.2 W))
      go_wp2_with fail
      refine kk.out.mono ?_
      rintro e W2 ⟨rfl, hB2⟩
      go_wp2
      go_ret
      exact ⟨ret_bool (by rw [hf.out]), hB.trans (hB2.mono hB.size)⟩
    · have hlb : ((xs.length : Int) == l) = false := by simpa using hl
      have hf := Lib.hid (show repB n l s xs = false by unfold repB; simp [hl])
      clear hs hl
      go_enter Try.func36, Try.ntmps36
      go_wp2_with fail
      refine (SC.out _).mono ?_
      rintro e W1 ⟨rfl, hB1⟩
      have hB : Below w.heap.size w W1 := (Below.trans (by (repeat (first | (with_reducible exact Below.refl _ _) | (with_reducible assumption) | (with_reducible refine below_drewN ?_ _) | (with_reducible refine Below.drew ?_) | ((with_reducible refine Below.alloc ?_ ?_ _); rotate_left; focus (first | (with_reducible exact Nat.le_refl _) | omega | (simp; done) | (simp; omega))) | ((with_reducible refine Below.setCell (p := ⟨_, _, _⟩) ?_ ?_ _); rotate_left; focus (first | (with_reducible exact Nat.le_refl _) | omega | (simp; done) | (simp; omega)))))) (hB1.mono (by simp; try omega)))
      have hc := (hB1.cell (p := ⟨w.heap.size, 1, none⟩) (by simp)).trans (World.cell?_alloc_at _ _ _ _ rfl)
      go_wp2
      go_ret
      exact ⟨ret_bool (by rw [hf.out]), hB⟩
theorem right_is {n l s : Int} {xs : List (Bool × Int)} {r : Bool} (h : repB n l s xs = r) (hlen : xs.length ≤ 1099511627776) (w : World) (sv : Value) (hS : Sl encR 2 w sv xs) :
    Calls Try.prog 36 #[.agg #[.int .i64 n, .int .i64 l, .int .i64 s], sv] w fun e w' => e = .returned (.bool r) ∧ Below w.heap.size w w' := by
  have := right_any n l s w sv xs hlen hS
  rw [h] at this
  exact this

/-- The tally's rows: the slice of slices reads as a list of lists. -/
def Rows2 (w : World) (v : Value) (t : List (List (Bool × Int))) : Prop :=
  ∃ vs : List Value, Sl (encV id) 1 w v vs ∧ vs.length = t.length ∧ ∀ (i : Nat) (u : Value) (xs : List (Bool × Int)), vs[i]? = some u → t[i]? = some xs → Sl encR 2 w u xs
theorem Rows2.below {w w' : World} {v : Value} {t : List (List (Bool × Int))} (h : Rows2 w v t) (hb : Below w.heap.size w w') : Rows2 w' v t := by
  obtain ⟨vs, h1, h2, h3⟩ := h
  exact ⟨vs, h1.below hb, h2, fun i u xs hu hx => (h3 i u xs hu hx).below hb⟩
theorem Rows2.shape {w : World} {v : Value} {t : List (List (Bool × Int))} (h : Rows2 w v t) : ∃ a cap, v = .slice a t.length cap := by
  obtain ⟨vs, h1, h2, _⟩ := h
  obtain ⟨a, cap, rfl⟩ := h1.shape
  exact ⟨a, cap, by rw [h2]⟩
/-- The row at i. -/
theorem Rows2.at_ {w : World} {v : Value} {t : List (List (Bool × Int))} (h : Rows2 w v t) {i : Nat} {xs : List (Bool × Int)} (hx : t[i]? = some xs) :
    ∃ b off cap a c, v = .slice (some ⟨b, off, none⟩) t.length cap ∧ b < w.heap.size ∧ w.cell? ⟨b, off + i, none⟩ = some (.slice a xs.length c) ∧ Sl encR 2 w (.slice a xs.length c) xs := by
  obtain ⟨vs, h1, h2, h3⟩ := h
  have hi := (List.getElem?_eq_some_iff.1 hx).1
  obtain ⟨b, off, cap, hv, hb, hc⟩ := h1.atV (k := i) (by omega)
  obtain ⟨u, hu⟩ := at_some (xs := vs) (k := i) (by omega)
  have hs := h3 i u xs hu hx
  obtain ⟨a, c, rfl⟩ := hs.shape
  exact ⟨b, off, cap, a, c, by rw [hv, h2], hb, by simpa using hc i _ hu, hs⟩

set_option maxHeartbeats 400000 in
theorem missing_any (t : List (List (Bool × Int))) (k : Nat) (xs : List (Bool × Int)) (w : World) (v : Value) (hv : Rows2 w v t) (hx : t[k]? = some xs) :
    Calls Try.prog 31 #[.agg #[v], .int .i64 k] w fun e w' => e = .returned (.bool xs.isEmpty) ∧ Below w.heap.size w w' := by
  obtain ⟨b, off, cap, a, c, rfl, hb, hc, _⟩ := hv.at_ hx
  have hk := (List.getElem?_eq_some_iff.1 hx).1
  have i0 : (0 : Int) ≤ (k : Int) := by omega
  have HX := Lib.hid hx
  clear hv hx
  go_enter Try.func31, Try.ntmps31
  go_wp2
  go_ret
  exact ⟨ret_bool (by cases xs <;> simp; try omega), by (repeat (first | (with_reducible exact Below.refl _ _) | (with_reducible assumption) | (with_reducible refine below_drewN ?_ _) | (with_reducible refine Below.drew ?_) | ((with_reducible refine Below.alloc ?_ ?_ _); rotate_left; focus (first | (with_reducible exact Nat.le_refl _) | omega | (simp; done) | (simp; omega))) | ((with_reducible refine Below.setCell (p := ⟨_, _, _⟩) ?_ ?_ _); rotate_left; focus (first | (with_reducible exact Nat.le_refl _) | omega | (simp; done) | (simp; omega)))))⟩

end Go.Proofs.Ytnkpmeplapkobaa
