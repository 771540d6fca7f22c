/- Link: the reference's Right. -/
import Derived.Test.YtijifbkikgooiaaLinkF
namespace Go.Proofs.Ytijifbkikgooiaa
open Go.RowKit Go.Shelf

def headB (l : Lk) : Bool := nodesB l.out.length && decide (l.inn.length = l.out.length) && inB l.inc 1
theorem rightB_eq (l : Lk) : rightB l = (headB l && ((l.out.all fun n => inB n 0) && l.inn.all okS)) := by
  unfold rightB headB nodesB
  rw [Bool.eq_iff_iff]
  simp only [Bool.and_eq_true, decide_eq_true_eq]
  constructor
  · rintro ⟨⟨⟨⟨⟨h1, h2⟩, h3⟩, h4⟩, h5⟩, h6⟩; exact ⟨⟨⟨⟨by omega, by omega⟩, h3⟩, h4⟩, h5, h6⟩
  · rintro ⟨⟨⟨⟨h1, h2⟩, h3⟩, h4⟩, h5, h6⟩; exact ⟨⟨⟨⟨⟨by omega, by omega⟩, h3⟩, h4⟩, h5⟩, h6⟩
theorem rightB_head {l : Lk} (h : headB l = false) : rightB l = false := by rw [rightB_eq, h]; rfl

set_option maxHeartbeats 1000000 in
theorem refRight_any (w : World) (v : Value) (l : Lk) (ho : l.out.length ≤ 1099511627776) (_hi : l.inn.length ≤ 1099511627776) (hl : LkR w v l) :
    Calls Try.prog 13 #[v] w fun e w' => e = .returned (.bool (rightB l)) ∧ Below w.heap.size w w' := by
  obtain ⟨s1, s2, rfl, h1, h2⟩ := hl
  have h1' := h1
  have h2' := h2
  obtain ⟨a1, c1, rfl⟩ := h1'.shape
  obtain ⟨a2, c2, rfl⟩ := h2'.shape
  clear h1' h2'
  by_cases hd : headB l = true
  case neg =>
    have HR := Lib.hid (rightB_head (by simpa using hd))
    have hcase : nodesB l.out.length = false ∨ (nodesB l.out.length = true ∧ ((l.inn.length : Int) != (l.out.length : Int)) = true) ∨ (nodesB l.out.length = true ∧ ((l.inn.length : Int) != (l.out.length : Int)) = false ∧ (l.inc < 1 ∨ (1 ≤ l.inc ∧ 1099511627776 < l.inc))) := by
      unfold headB inB at hd
      cases hn : nodesB l.out.length
      · exact .inl rfl
      · simp [hn] at hd
        by_cases he : l.inn.length = l.out.length
        · exact .inr (.inr ⟨rfl, by simp; omega, by have := hd he; omega⟩)
        · exact .inr (.inl ⟨rfl, by simp; omega⟩)
    clear hd h1 h2
    rcases hcase with hn | ⟨hn, hne⟩ | ⟨hn, he, hlt | ⟨hge, hgt⟩⟩
    all_goals
      go_enter Try.func13, Try.ntmps13
      go_wp2_with (go_at_call 16; refine (nodes_any _ _).mono ?_; rintro e w' ⟨rfl, rfl⟩)
      go_ret
      exact ⟨ret_bool HR.out.symm, by (repeat (first | (with_reducible exact Below.refl _ _) | (with_reducible assumption) | (with_reducible refine below_drewN ?_ _) | (with_reducible refine Below.drew ?_) | ((with_reducible refine Below.alloc ?_ ?_ _); rotate_left; focus (first | (with_reducible exact Nat.le_refl _) | omega | (simp; done) | (simp; omega))) | ((with_reducible refine Below.setCell (p := ⟨_, _, _⟩) ?_ ?_ _); rotate_left; focus (first | (with_reducible exact Nat.le_refl _) | omega | (simp; done) | (simp; omega)))))⟩
  case pos =>
    have hn : nodesB l.out.length = true := by unfold headB at hd; simp at hd; exact hd.1.1
    have he : l.inn.length = l.out.length := by unfold headB at hd; simp at hd; exact hd.1.2
    have hge : 1 ≤ l.inc := by unfold headB inB at hd; simp at hd; exact hd.2.1
    have hle : l.inc ≤ 1099511627776 := by unfold headB inB at hd; simp at hd; exact hd.2.2
    have hge' : decide (l.inc < 1) = false := by simp; omega
    have hle' : decide (1099511627776 < l.inc) = false := by simp; omega
    have HR := Lib.hid (rightB_eq l)
    have HD := Lib.hid hd
    have HE := Lib.hid he
    clear hd
    have heb : ((l.inn.length : Int) != (l.out.length : Int)) = false := by simp; omega
    clear he
    go_enter Try.func13, Try.ntmps13
    go_wp2_with (go_at_call 16; refine (nodes_any _ _).mono ?_; rintro e w' ⟨rfl, rfl⟩)
    obtain ⟨W, hW⟩ : ∃ W', W' = w.alloc (.cells #[.int .i64 l.inc, .slice a1 l.out.length c1, .slice a2 l.inn.length c2] 25) := ⟨_, rfl⟩
    rw [← hW]
    have hB : Below w.heap.size w W := by rw [hW]; (repeat (first | (with_reducible exact Below.refl _ _) | (with_reducible assumption) | (with_reducible refine below_drewN ?_ _) | (with_reducible refine Below.drew ?_) | ((with_reducible refine Below.alloc ?_ ?_ _); rotate_left; focus (first | (with_reducible exact Nat.le_refl _) | omega | (simp; done) | (simp; omega))) | ((with_reducible refine Below.setCell (p := ⟨_, _, _⟩) ?_ ?_ _); rotate_left; focus (first | (with_reducible exact Nat.le_refl _) | omega | (simp; done) | (simp; omega)))))
    have hszw : w.heap.size < W.heap.size := by rw [hW]; simp
    have c01 : W.cell? ⟨w.heap.size, 1, none⟩ = some (.slice a1 l.out.length c1) := by rw [hW]; (repeat (first | (rw [World.cell?_alloc_at _ _ _ _ (by simp)]; rfl) | rw [World.cell?_alloc_past _ _ _ (by simp; try omega)] | rw [World.cell?_drew]))
    have c02 : W.cell? ⟨w.heap.size, 2, none⟩ = some (.slice a2 l.inn.length c2) := by rw [hW]; (repeat (first | (rw [World.cell?_alloc_at _ _ _ _ (by simp)]; rfl) | rw [World.cell?_alloc_past _ _ _ (by simp; try omega)] | rw [World.cell?_drew]))
    clear hW hge hle hge' hle' heb hn
    go_loopw [3] (fun i wr => ∃ k : Nat, k ≤ l.out.length ∧ i = .int .i64 k ∧ Below W.heap.size W wr ∧ Hid (∀ j x, j < k → l.out[j]? = some x → inB x 0 = true) ∧ Hid (∀ j x, j < k → l.inn[j]? = some x → okS x = true)) (fun i _ => l.out.length - (intOf i).toNat)
    case atStart => exact ⟨0, Nat.zero_le _, rfl, Below.refl _ _, fun j x hj => absurd hj (by omega), fun j x hj => absurd hj (by omega)⟩
    case round =>
      obtain ⟨k, hk, rfl, hBr, hg1, hg2⟩ := hrel
      have hBw := hB.trans (hBr.mono (Nat.le_of_lt hszw))
      have d01 := (hBr.cell (p := ⟨w.heap.size, 1, none⟩) hszw).trans c01
      have d02 := (hBr.cell (p := ⟨w.heap.size, 2, none⟩) hszw).trans c02
      have hszr := hBr.size
      by_cases hlt : k < l.out.length
      · have hlt' : k < l.inn.length := by have := HE.out; omega
        obtain ⟨b, off, cap, hv, hb, hcell⟩ := h1.atI hlt
        obtain ⟨b', off', cap', hv', hb', hcell'⟩ := h2.atP hlt'
        cases hv
        cases hv'
        obtain ⟨x, hx⟩ := at_some hlt
        obtain ⟨⟨s1, s2⟩, hs⟩ := at_some hlt'
        have hcx := (hBw.cell (p := ⟨b, off + k, none⟩) hb).trans (hcell k x hx)
        have hcy := (hBw.cell (p := ⟨b', off' + k * 2, none⟩) hb').trans (hcell' k _ hs).1
        have hcy2 := (hBw.cell (p := ⟨b', off' + k * 2 + 1, none⟩) hb').trans (hcell' k _ hs).2
        dsimp only at hcy hcy2
        have HX := Lib.hid hx
        have HY := Lib.hid hs
        clear hcell hcell' hx hs
        have i0 : (0 : Int) ≤ (k : Int) := by omega
        by_cases hx1 : 0 ≤ x ∧ x ≤ 1099511627776
        · obtain ⟨hx2, hx3⟩ := hx1
          have hxi := Lib.hid (show inB x 0 = true by simp [inB]; omega)
          have nx2 : decide (x < 0) = false := by simp; omega
          have nx3 : decide (1099511627776 < x) = false := by simp; omega
          cases hm : mayB (s1, s2)
          case true =>
            go_wp2_with (go_at_call 28; refine (stamp_any _ _ _).mono ?_; rintro e W1 ⟨rfl, hB1⟩)
            go_roundw
            case rel =>
              refine ⟨k + 1, by omega, by go_num, hBr.trans (hB1.mono hszr), fun j x' hj hx' => ?_, fun j x' hj hx' => ?_⟩
              · by_cases e : j = k
                · subst e; rw [HX.out] at hx'; cases hx'; exact hxi.out
                · exact hg1.out j x' (by omega) hx'
              · by_cases e : j = k
                · subst e; rw [HY.out] at hx'; cases hx'; simp [okS, hm]
                · exact hg2.out j x' (by omega) hx'
            case measure => simp [intOf]; omega
          case false =>
            have hq : (s1 = 0 ∧ s2 = 0) ∨ ¬ s1 = 0 ∨ (s1 = 0 ∧ ¬ s2 = 0) := by
              by_cases h1 : s1 = 0 <;> by_cases h2 : s2 = 0 <;> simp [h1, h2]
            have Hm := Lib.hid hm
            rcases hq with ⟨rfl, rfl⟩ | hq | ⟨rfl, hq⟩
            · go_wp2_with (go_at_call 28; refine (stamp_any _ _ _).mono ?_; rintro e W1 ⟨rfl, hB1⟩; have e02 := (hB1.cell (p := ⟨w.heap.size, 2, none⟩) (Nat.lt_of_lt_of_le hszw hszr)).trans d02; have ecy := (hB1.cell (p := ⟨b', off' + k * 2, none⟩) (World.block_lt_of_cell? _ _ hcy)).trans hcy; have ecy2 := (hB1.cell (p := ⟨b', off' + k * 2 + 1, none⟩) (World.block_lt_of_cell? _ _ hcy2)).trans hcy2)
              go_roundw
              case rel =>
                refine ⟨k + 1, by omega, by go_num, hBr.trans (hB1.mono hszr), fun j x' hj hx' => ?_, fun j x' hj hx' => ?_⟩
                · by_cases e : j = k
                  · subst e; rw [HX.out] at hx'; cases hx'; exact hxi.out
                  · exact hg1.out j x' (by omega) hx'
                · by_cases e : j = k
                  · subst e; rw [HY.out] at hx'; cases hx'; simp [okS, noneB]
                  · exact hg2.out j x' (by omega) hx'
              case measure => simp [intOf]; omega
            all_goals
              have hbad := Lib.hid (all_false_at (p := okS) HY.out (by simp [okS, Hm.out, noneB, hq]))
              go_wp2_with (go_at_call 28; refine (stamp_any _ _ _).mono ?_; rintro e W1 ⟨rfl, hB1⟩; have e02 := (hB1.cell (p := ⟨w.heap.size, 2, none⟩) (Nat.lt_of_lt_of_le hszw hszr)).trans d02; have ecy := (hB1.cell (p := ⟨b', off' + k * 2, none⟩) (World.block_lt_of_cell? _ _ hcy)).trans hcy; have ecy2 := (hB1.cell (p := ⟨b', off' + k * 2 + 1, none⟩) (World.block_lt_of_cell? _ _ hcy2)).trans hcy2)
              go_ret
              exact ⟨ret_bool (by rw [HR.out, hbad.out]; simp), (hB.trans (hBr.mono (Nat.le_of_lt hszw))).trans (hB1.mono (by omega))⟩
        · have hbad := Lib.hid (all_false_at (p := fun n => inB n 0) HX.out (by simp [inB]; omega))
          have hq : x < 0 ∨ (0 ≤ x ∧ 1099511627776 < x) := by omega
          clear hx1
          rcases hq with hq | ⟨hq, hq'⟩
          all_goals
            go_wp2
            go_ret
            exact ⟨ret_bool (by rw [HR.out, hbad.out]; simp), hBw⟩
      · obtain rfl : k = l.out.length := by omega
        have hA1 := Lib.hid (all_of_at (p := fun n => inB n 0) hg1.out)
        have hA2 := Lib.hid (all_of_at (p := okS) (xs := l.inn) (fun j x hj => hg2.out j x (by have := HE.out; omega)))
        clear hg1 hg2
        go_wp2
        go_ret
        exact ⟨ret_bool (by rw [HR.out, HD.out, hA1.out, hA2.out]; rfl), hBw⟩

end Go.Proofs.Ytijifbkikgooiaa
