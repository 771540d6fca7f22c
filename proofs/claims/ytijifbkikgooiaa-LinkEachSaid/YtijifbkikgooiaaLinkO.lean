/- Link: what each function answers, all cases together; the chapter's rows as plain facts. -/
import Derived.Test.YtijifbkikgooiaaLinkJ
import Derived.Test.YtijifbkikgooiaaLinkL
import Derived.Test.YtijifbkikgooiaaLinkN
namespace Go.Proofs.Ytijifbkikgooiaa
open Go.RowKit Go.Shelf

theorem right_out {l : Lk} (h : rightB l = true) : (0 < l.out.length ∧ l.out.length ≤ 64 ∧ l.inn.length = l.out.length) ∧ (1 ≤ l.inc ∧ l.inc ≤ 1099511627776) ∧ (∀ x ∈ l.out, 0 ≤ x ∧ x ≤ 1099511627776) := by
  unfold rightB inB at h
  simp only [Bool.and_eq_true, decide_eq_true_eq, List.all_eq_true] at h
  obtain ⟨⟨⟨h1, h2⟩, h3⟩, _⟩ := h
  exact ⟨⟨by omega, by omega, h1.2⟩, h2, h3⟩

theorem send_any (w : World) (v : Value) (l : Lk) (to : Int) (ho : l.out.length ≤ 1099511627776) (hi : l.inn.length ≤ 1099511627776) (hl : LkR w v l) :
    Calls Try.prog 20 #[v, .int .i64 to] w (SendPost w (sendR l to)) := by
  unfold sendR
  by_cases hr : rightB l = true
  · rw [if_neg (by simp [hr])]
    by_cases h0 : to < 0
    · rw [if_pos (.inl h0)]; exact send_bad2 w v l to ho hi hl hr h0
    · by_cases h1 : (l.out.length : Int) ≤ to
      · rw [if_pos (.inr h1)]; exact send_bad3 w v l to ho hi hl hr (by omega) h1
      · rw [if_neg (by omega)]
        obtain ⟨k, rfl⟩ := Int.eq_ofNat_of_zero_le (show 0 ≤ to by omega)
        obtain ⟨x, hx⟩ := at_some (xs := l.out) (k := k) (by omega)
        have hg : l.out.getD (k : Int).toNat 0 = x := by simp [hx]
        rw [hg, Int.toNat_natCast]
        have hb := (right_out hr).2.2 x (List.mem_of_getElem? hx)
        by_cases h2 : mostI ≤ x
        · rw [if_pos h2]; exact send_210 w v l k x ho hi hl hr hx h2
        · rw [if_neg h2]; exact send_ok w v l k x ho hi hl hr hx (by unfold mostI at h2; omega) hb.1
  · have hr' : rightB l = false := by simpa using hr
    rw [if_pos hr']; exact send_bad1 w v l to ho hi hl hr'

theorem refSend_any (w : World) (v : Value) (l : Lk) (to : Int) (ho : l.out.length ≤ 1099511627776) (hi : l.inn.length ≤ 1099511627776) (hl : LkR w v l) :
    Calls Try.prog 21 #[v, .int .i64 to] w (SendPost w (sendR l to)) := by
  unfold sendR
  by_cases hr : rightB l = true
  · rw [if_neg (by simp [hr])]
    by_cases h0 : to < 0
    · rw [if_pos (.inl h0)]; exact refSend_bad2 w v l to ho hi hl hr h0
    · by_cases h1 : (l.out.length : Int) ≤ to
      · rw [if_pos (.inr h1)]; exact refSend_bad3 w v l to ho hi hl hr (by omega) h1
      · rw [if_neg (by omega)]
        obtain ⟨k, rfl⟩ := Int.eq_ofNat_of_zero_le (show 0 ≤ to by omega)
        obtain ⟨x, hx⟩ := at_some (xs := l.out) (k := k) (by omega)
        have hg : l.out.getD (k : Int).toNat 0 = x := by simp [hx]
        rw [hg, Int.toNat_natCast]
        have hb := (right_out hr).2.2 x (List.mem_of_getElem? hx)
        by_cases h2 : mostI ≤ x
        · rw [if_pos h2]; exact refSend_210 w v l k x ho hi hl hr hx (by unfold mostI at h2; omega)
        · rw [if_neg h2]; exact refSend_ok w v l k x ho hi hl hr hx (by unfold mostI at h2; omega) hb.1
  · have hr' : rightB l = false := by simpa using hr
    rw [if_pos hr']; exact refSend_bad1 w v l to ho hi hl hr'

theorem restart_any (w : World) (v : Value) (l : Lk) (ho : l.out.length ≤ 1099511627776) (hi : l.inn.length ≤ 1099511627776) (hl : LkR w v l) :
    Calls Try.prog 22 #[v] w (RestartPost w (restartR l)) := by
  unfold restartR
  by_cases hr : rightB l = true
  · rw [if_neg (by simp [hr])]
    have hb := right_out hr
    by_cases h2 : mostI ≤ l.inc
    · rw [if_pos h2]; exact restart_bad2 w v l ho hi hl hr h2
    · rw [if_neg h2]; exact restart_ok w v l ho hi hl hr (by unfold mostI at h2; omega) (by omega) hb.1.1
  · have hr' : rightB l = false := by simpa using hr
    rw [if_pos hr']; exact restart_bad1 w v l ho hi hl hr'

theorem refRestart_any (w : World) (v : Value) (l : Lk) (ho : l.out.length ≤ 1099511627776) (hi : l.inn.length ≤ 1099511627776) (hl : LkR w v l) :
    Calls Try.prog 23 #[v] w (RestartPost w (restartR l)) := by
  unfold restartR
  by_cases hr : rightB l = true
  · rw [if_neg (by simp [hr])]
    have hb := right_out hr
    by_cases h2 : mostI ≤ l.inc
    · rw [if_pos h2]; exact refRestart_bad2 w v l ho hi hl hr (by unfold mostI at h2; simp; omega)
    · rw [if_neg h2]; exact refRestart_ok w v l ho hi hl hr (by unfold mostI at h2; omega) (by omega)
  · have hr' : rightB l = false := by simpa using hr
    rw [if_pos hr']; exact refRestart_bad1 w v l ho hi hl hr'

theorem take_any (w : World) (v : Value) (l : Lk) (fr x1 x2 : Int) (ho : l.out.length ≤ 1099511627776) (hi : l.inn.length ≤ 1099511627776) (hl : LkR w v l) :
    Calls Try.prog 24 #[v, .int .i64 fr, .agg #[.int .i64 x1, .int .i64 x2]] w (TakePost w (takeR l fr (x1, x2))) := by
  unfold takeR
  by_cases hr : rightB l = true
  · by_cases hm : mayB (x1, x2) = true
    · rw [if_neg (by simp [hr, hm])]
      by_cases h0 : fr < 0
      · rw [if_pos (.inl h0)]; exact take_bad3 w v l fr x1 x2 ho hi hl hr hm h0
      · by_cases h1 : (l.inn.length : Int) ≤ fr
        · rw [if_pos (.inr h1)]; exact take_bad4 w v l fr x1 x2 ho hi hl hr hm (by omega) h1
        · rw [if_neg (by omega)]
          obtain ⟨k, rfl⟩ := Int.eq_ofNat_of_zero_le (show 0 ≤ fr by omega)
          obtain ⟨⟨y1, y2⟩, hx⟩ := at_some (xs := l.inn) (k := k) (by omega)
          have hg : l.inn.getD (k : Int).toNat (0, 0) = (y1, y2) := by simp [hx]
          rw [hg, Int.toNat_natCast]
          by_cases h2 : 0 < ordS (x1, x2) (y1, y2)
          · rw [if_pos h2]; exact take_yes w v l k x1 x2 y1 y2 ho hi hl hr hm hx h2
          · rw [if_neg h2]; exact take_no w v l k x1 x2 y1 y2 ho hi hl hr hm hx (by omega)
    · have hm' : mayB (x1, x2) = false := by simpa using hm
      rw [if_pos (.inr hm')]; exact take_bad2 w v l fr x1 x2 ho hi hl hr hm'
  · have hr' : rightB l = false := by simpa using hr
    rw [if_pos (.inl hr')]; exact take_bad1 w v l fr x1 x2 ho hi hl hr'

def newR (n : Int) : Lk × Int := if nodesB n = true then (newL n.toNat, 0) else (noL, 2)
theorem new_any (w : World) (n : Int) : Calls Try.prog 10 #[.int .i64 n] w (RestartPost w (newR n)) := by
  unfold newR
  by_cases h : nodesB n = true
  · rw [if_pos h]
    have h' := h
    unfold nodesB at h'
    simp at h'
    obtain ⟨k, rfl⟩ := Int.eq_ofNat_of_zero_le (show 0 ≤ n by omega)
    rw [Int.toNat_natCast]
    exact new_good w k (by omega) (by omega)
  · rw [if_neg h]; exact new_bad w n (by simpa using h)

/-! ### The chapter's rows: the links on the way, by name -/
def wk0 : Lk := newL 2
def wk1 : Lk := (sendR wk0 1).1
def wk2 : Lk := (sendR wk1 1).1
def wk3 : Lk := (restartR wk2).1
def wk4 : Lk := (sendR wk3 1).1
def wk5 : Lk := (takeR wk0 1 (1, 2)).1
def wk6 : Lk := (takeR wk5 1 (1, 1)).1
def wk7 : Lk := (takeR wk6 1 (1, 2)).1
def wk8 : Lk := (takeR wk7 1 (2, 1)).1
theorem wk0_eq : newR 2 = (wk0, 0) := rfl
theorem wk1_eq : sendR wk0 1 = (wk1, (1, 1), 0) := rfl
theorem wk2_eq : sendR wk1 1 = (wk2, (1, 2), 0) := rfl
theorem wk3_eq : restartR wk2 = (wk3, 0) := rfl
theorem wk4_eq : sendR wk3 1 = (wk4, (2, 1), 0) := rfl
theorem wk5_eq : takeR wk0 1 (1, 2) = (wk5, true, 0) := rfl
theorem wk6_eq : takeR wk5 1 (1, 1) = (wk6, false, 0) := rfl
theorem wk7_eq : takeR wk6 1 (1, 2) = (wk7, false, 0) := rfl
theorem wk8_eq : takeR wk7 1 (2, 1) = (wk8, true, 0) := rfl
theorem wk9_eq : sendR wk0 2 = (noL, (0, 0), 4) := rfl
theorem wk10_eq : takeR wk0 0 (0, 1) = (noL, false, 2) := rfl
theorem wk_len : (wk0.out.length = 2 ∧ wk0.inn.length = 2) ∧ (wk1.out.length = 2 ∧ wk1.inn.length = 2) ∧ (wk2.out.length = 2 ∧ wk2.inn.length = 2) ∧ (wk3.out.length = 2 ∧ wk3.inn.length = 2) ∧ (wk5.out.length = 2 ∧ wk5.inn.length = 2) ∧ (wk6.out.length = 2 ∧ wk6.inn.length = 2) ∧ (wk7.out.length = 2 ∧ wk7.inn.length = 2) := by decide

end Go.Proofs.Ytijifbkikgooiaa
