/- Link: Check, and what it calls. -/
import Derived.Test.YtijifbkikgooiaaLinkC
import Derived.Laws.EntriesVeiled
namespace Go.Proofs.Ytijifbkikgooiaa
open Go.RowKit Go.Shelf

/-- A link, as data. -/
structure Lk where
  inc : Int
  out : List Int
  inn : List (Int × Int)

def okS (s : Int × Int) : Bool := mayB s || noneB s
def rightB (l : Lk) : Bool := (((decide (1 ≤ l.out.length) && decide (l.out.length ≤ 64) && decide (l.inn.length = l.out.length)) && inB l.inc 1) && l.out.all fun n => inB n 0) && l.inn.all okS

/-- The value v reads as a link. -/
def LkR (w : World) (v : Value) (l : Lk) : Prop :=
  ∃ s1 s2, v = .agg #[.int .i64 l.inc, s1, s2] ∧ Sl encI 1 w s1 l.out ∧ Sl encP 2 w s2 l.inn
theorem LkR.below {w w' : World} {v : Value} {l : Lk} (h : LkR w v l) (hb : Below w.heap.size w w') : LkR w' v l := by
  obtain ⟨s1, s2, hv, h1, h2⟩ := h
  exact ⟨s1, s2, hv, h1.below hb, h2.below hb⟩

set_option maxHeartbeats 400000 in
theorem right1_any (w : World) (b : Nat) (a1 a2 : Option Addr) (n1 n2 c1 c2 : Nat) (h1 : w.cell? ⟨b, 1, none⟩ = some (.slice a1 n1 c1)) (h2 : w.cell? ⟨b, 2, none⟩ = some (.slice a2 n2 c2)) :
    Calls Try.prog 35 #[.pointer (some ⟨b, 0, none⟩)] w fun e w' => e = .returned (.bool (decide (1 ≤ n1) && decide (n1 ≤ 64) && decide (n2 = n1))) ∧ w = w' := by
  go_enter Try.func35, Try.ntmps35
  go_wp2
  all_goals (go_ret; exact ⟨ret_bool (by first | rfl | (simp; done) | (simp; omega) | (rw [Bool.eq_iff_iff]; simp; omega) | grind), rfl⟩)

set_option maxHeartbeats 400000 in
theorem right2_any (w : World) (b : Nat) (i : Int) (h1 : w.cell? ⟨b, 0, none⟩ = some (.int .i64 i)) :
    Calls Try.prog 36 #[.pointer (some ⟨b, 0, none⟩)] w fun e w' => e = .returned (.bool (inB i 1)) ∧ w = w' := by
  go_enter Try.func36, Try.ntmps36
  go_wp2_with (go_at_call 37; refine (in_any _ _ _).mono ?_; rintro e w' ⟨rfl, rfl⟩)
  go_ret
  exact ⟨rfl, rfl⟩

set_option maxHeartbeats 400000 in
theorem right31_any (n : Int) (w : World) :
    Calls Try.prog 40 #[.int .i64 n] w fun e w' => e = .returned (.bool (inB n 0)) ∧ w = w' := by
  go_enter Try.func40, Try.ntmps40
  go_wp2_with (go_at_call 37; refine (in_any _ _ _).mono ?_; rintro e w' ⟨rfl, rfl⟩)
  go_ret
  exact ⟨rfl, rfl⟩

set_option maxHeartbeats 400000 in
theorem right41_any (a b : Int) (w : World) :
    Calls Try.prog 43 #[.agg #[.int .i64 a, .int .i64 b]] w fun e w' => e = .returned (.bool (okS (a, b))) ∧ Below w.heap.size w w' := by
  cases hm : mayB (a, b)
  all_goals
    go_enter Try.func43, Try.ntmps43
    go_wp2_with fail
    refine (may_any _ _ _).mono ?_
    rintro e w1 ⟨rfl, hB1⟩
    have hc0 := hB1.cell (p := ⟨w.heap.size, 0, none⟩) (by simp)
    have hc1 := hB1.cell (p := ⟨w.heap.size, 1, none⟩) (by simp)
    rw [World.cell?_alloc_at _ _ _ _ rfl] at hc0 hc1
    go_wp2_with fail
  · refine (none_any _ _ _).mono ?_
    rintro e w2 ⟨rfl, hB2⟩
    go_wp2
    go_ret
    exact ⟨ret_bool (by simp [okS, hm]), ((Below.refl _ _).alloc (Nat.le_refl _) _).trans ((hB1.trans (hB2.mono hB1.size)).mono (by simp))⟩
  · go_ret
    exact ⟨ret_bool (by simp [okS, hm]), ((Below.refl _ _).alloc (Nat.le_refl _) _).trans (hB1.mono (by simp))⟩

set_option maxHeartbeats 400000 in
theorem right3_any (w : World) (b : Nat) (s1 : Value) (xs : List Int) (hlen : xs.length ≤ 1099511627776) (h1 : w.cell? ⟨b, 1, none⟩ = some s1) (hS : Sl encI 1 w s1 xs) :
    Calls Try.prog 38 #[.pointer (some ⟨b, 0, none⟩)] w fun e w' => e = .returned (.bool (xs.all fun n => inB n 0)) ∧ Below w.heap.size w w' := by
  obtain ⟨a, cap, rfl⟩ := hS.shape
  go_enter Try.func38, Try.ntmps38
  go_wp2_with fail
  refine (callsIn_wide.1 (allI_in 4 (Nat.le_refl _) _ xs hlen w hS 40 #[] (enters_of Try.func40 (by kernel_rfl) rfl) (fun n => inB n 0) (fun x W _ => (right31_any x W).mono fun e W' ⟨he, hw⟩ => ⟨he, by rw [← hw]; exact Below.refl _ _⟩))).mono ?_
  rintro e w1 ⟨rfl, hB1⟩
  go_wp2
  go_ret
  exact ⟨rfl, hB1⟩

set_option maxHeartbeats 400000 in
theorem right4_any (w : World) (b : Nat) (s2 : Value) (xs : List (Int × Int)) (hlen : xs.length ≤ 1099511627776) (h2 : w.cell? ⟨b, 2, none⟩ = some s2) (hS : Sl encP 2 w s2 xs) :
    Calls Try.prog 41 #[.pointer (some ⟨b, 0, none⟩)] w fun e w' => e = .returned (.bool (xs.all okS)) ∧ Below w.heap.size w w' := by
  obtain ⟨a, cap, rfl⟩ := hS.shape
  go_enter Try.func41, Try.ntmps41
  go_wp2_with fail
  refine (callsIn_wide.1 (allP_in 4 (Nat.le_refl _) _ xs hlen w hS 43 #[] (enters_of Try.func43 (by kernel_rfl) rfl) okS (fun x W _ => right41_any x.1 x.2 W))).mono ?_
  rintro e w1 ⟨rfl, hB1⟩
  go_wp2
  go_ret
  exact ⟨rfl, hB1⟩

set_option maxHeartbeats 400000 in
theorem right5_any (w : World) (h : Nat) (lb : Array Value) (b : Bool) (eh : Enters Try.prog h) (hh : Calls Try.prog h lb w fun e w' => e = .returned (.bool b) ∧ Below w.heap.size w w') :
    Calls Try.prog 46 #[.func (.func h) #[] lb] w fun e w' => e = .returned (.bool b) ∧ Below w.heap.size w w' := by
  have eh' : ∀ args w, (callFunc h args).run Try.prog w = .ok (.enter h args) w := eh
  go_enter Try.func46, Try.ntmps46
  go_wp2_with fail
  refine hh.mono ?_
  rintro e w1 ⟨rfl, hB1⟩
  go_wp2
  go_ret
  exact ⟨rfl, hB1⟩

/-- The four asks of right. -/
def askF (b : Nat) : Fin 4 → Value
  | 0 => .func (.func 35) #[] #[.pointer (some ⟨b, 0, none⟩)]
  | 1 => .func (.func 36) #[] #[.pointer (some ⟨b, 0, none⟩)]
  | 2 => .func (.func 38) #[] #[.pointer (some ⟨b, 0, none⟩)]
  | 3 => .func (.func 41) #[] #[.pointer (some ⟨b, 0, none⟩)]
def askP (l : Lk) : Fin 4 → Bool
  | 0 => decide (1 ≤ l.out.length) && decide (l.out.length ≤ 64) && decide (l.inn.length = l.out.length)
  | 1 => inB l.inc 1
  | 2 => l.out.all fun n => inB n 0
  | 3 => l.inn.all okS

set_option maxHeartbeats 800000 in
theorem right_any (w : World) (v : Value) (l : Lk) (ho : l.out.length ≤ 1099511627776) (hi : l.inn.length ≤ 1099511627776) (hl : LkR w v l) :
    Calls Try.prog 27 #[v] w fun e w' => e = .returned (.bool (rightB l)) ∧ Below w.heap.size w w' := by
  obtain ⟨s1, s2, rfl, h1, h2⟩ := hl
  obtain ⟨a1, c1, rfl⟩ := h1.shape
  obtain ⟨a2, c2, rfl⟩ := h2.shape
  go_enter Try.func27, Try.ntmps27
  go_wp2_with fail
  have hS : Sl (encV (askF w.heap.size)) 1 ((w.alloc (.cells #[.int .i64 l.inc, .slice a1 l.out.length c1, .slice a2 l.inn.length c2] 64)).alloc
      (.cells #[askF w.heap.size 0, askF w.heap.size 1, askF w.heap.size 2, askF w.heap.size 3] 77))
      (.slice (some ⟨w.heap.size + 1, 0, none⟩) 4 4) [0, 1, 2, 3] := by
    refine ⟨_, 4, rfl, ⟨by simp, fun h => by cases h⟩, .inr ⟨_, 0, rfl, by simp, fun i x hx j u hu => ?_⟩⟩
    have hj : j = 0 := by
      have := (List.getElem?_eq_some_iff.1 hu).1
      simp [encV] at this; exact this
    subst hj
    rw [World.cell?_alloc_at _ _ _ _ (by simp)]
    match i, hx with
    | 0, hx => simp at hx; subst hx; simpa [encV] using hu
    | 1, hx => simp at hx; subst hx; simpa [encV] using hu
    | 2, hx => simp at hx; subst hx; simpa [encV] using hu
    | 3, hx => simp at hx; subst hx; simpa [encV] using hu
  have hb0 : Below w.heap.size w (w.alloc (.cells #[.int .i64 l.inc, .slice a1 l.out.length c1, .slice a2 l.inn.length c2] 64)) := by (repeat (first | (with_reducible exact Below.refl _ _) | (with_reducible assumption) | (with_reducible refine below_drewN ?_ _) | (with_reducible refine Below.drew ?_) | ((with_reducible refine Below.alloc ?_ ?_ _); rotate_left; focus (first | (with_reducible exact Nat.le_refl _) | omega | (simp; done) | (simp; omega))) | ((with_reducible refine Below.setCell (p := ⟨_, _, _⟩) ?_ ?_ _); rotate_left; focus (first | (with_reducible exact Nat.le_refl _) | omega | (simp; done) | (simp; omega)))))
  have hB0 : Below w.heap.size w ((w.alloc (.cells #[.int .i64 l.inc, .slice a1 l.out.length c1, .slice a2 l.inn.length c2] 64)).alloc
      (.cells #[askF w.heap.size 0, askF w.heap.size 1, askF w.heap.size 2, askF w.heap.size 3] 77)) := by (repeat (first | (with_reducible exact Below.refl _ _) | (with_reducible assumption) | (with_reducible refine below_drewN ?_ _) | (with_reducible refine Below.drew ?_) | ((with_reducible refine Below.alloc ?_ ?_ _); rotate_left; focus (first | (with_reducible exact Nat.le_refl _) | omega | (simp; done) | (simp; omega))) | ((with_reducible refine Below.setCell (p := ⟨_, _, _⟩) ?_ ?_ _); rotate_left; focus (first | (with_reducible exact Nat.le_refl _) | omega | (simp; done) | (simp; omega)))))
  refine (callsIn_wide.1 (allV_in (askF w.heap.size) 4 (Nat.le_refl _) _ [0, 1, 2, 3] (by simp) _ hS 46 #[] (enters_of Try.func46 (by kernel_rfl) rfl) (askP l) ?_)).mono ?_
  · intro x W hW
    have hc : ∀ i, W.cell? ⟨w.heap.size, i, none⟩ = (#[Value.int .i64 l.inc, .slice a1 l.out.length c1, .slice a2 l.inn.length c2])[i]? := fun i => by
      rw [hW.cell (p := ⟨w.heap.size, i, none⟩) (by simp; omega), World.cell?_alloc_past _ _ _ (by simp), World.cell?_alloc_at _ _ _ _ rfl]
    have hBW : Below w.heap.size w W := hB0.trans (hW.mono (by simp; omega))
    match x with
    | 0 => exact right5_any W _ _ _ (enters_of Try.func35 (by kernel_rfl) rfl) ((right1_any W _ _ _ _ _ _ _ (hc 1) (hc 2)).mono fun e W' ⟨he, hw⟩ => ⟨he, by rw [← hw]; exact Below.refl _ _⟩)
    | 1 => exact right5_any W _ _ _ (enters_of Try.func36 (by kernel_rfl) rfl) ((right2_any W _ _ (hc 0)).mono fun e W' ⟨he, hw⟩ => ⟨he, by rw [← hw]; exact Below.refl _ _⟩)
    | 2 => exact right5_any W _ _ _ (enters_of Try.func38 (by kernel_rfl) rfl) (right3_any W _ _ _ ho (hc 1) (h1.below hBW))
    | 3 => exact right5_any W _ _ _ (enters_of Try.func41 (by kernel_rfl) rfl) (right4_any W _ _ _ hi (hc 2) (h2.below hBW))
  rintro e w1 ⟨rfl, hB1⟩
  go_wp2
  go_ret
  exact ⟨ret_bool (by simp [askP, rightB, Bool.and_assoc]), hB0.trans (hB1.mono (by simp; omega))⟩

def checkE (l : Lk) : Int := if rightB l = true then 0 else 2
set_option maxHeartbeats 400000 in
theorem check_any (w : World) (v : Value) (l : Lk) (ho : l.out.length ≤ 1099511627776) (hi : l.inn.length ≤ 1099511627776) (hl : LkR w v l) :
    Calls Try.prog 12 #[v] w fun e w' => e = .returned (.int .i64 (checkE l)) ∧ Below w.heap.size w w' := by
  have hl' := hl
  obtain ⟨s1, s2, rfl, h1, h2⟩ := hl
  obtain ⟨a1, c1, rfl⟩ := h1.shape
  obtain ⟨a2, c2, rfl⟩ := h2.shape
  cases hr : rightB l
  all_goals
    have HR := Lib.hid hr
    go_enter Try.func12, Try.ntmps12
    go_wp2_with fail
    refine (right_any _ _ l ho hi (hl'.below (by (repeat (first | (with_reducible exact Below.refl _ _) | (with_reducible assumption) | (with_reducible refine below_drewN ?_ _) | (with_reducible refine Below.drew ?_) | ((with_reducible refine Below.alloc ?_ ?_ _); rotate_left; focus (first | (with_reducible exact Nat.le_refl _) | omega | (simp; done) | (simp; omega))) | ((with_reducible refine Below.setCell (p := ⟨_, _, _⟩) ?_ ?_ _); rotate_left; focus (first | (with_reducible exact Nat.le_refl _) | omega | (simp; done) | (simp; omega)))))))).mono ?_
    rintro e w1 ⟨rfl, hB1⟩
    go_wp2
    go_ret
    exact ⟨ret_i64 (by simp [checkE, HR.out]), ((Below.refl _ _).alloc (Nat.le_refl _) _).trans (hB1.mono (by simp))⟩

end Go.Proofs.Ytijifbkikgooiaa
