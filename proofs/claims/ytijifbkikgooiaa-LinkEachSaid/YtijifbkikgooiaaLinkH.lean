/- Link: the reference's Same. -/
import Derived.Test.YtijifbkikgooiaaLinkF
namespace Go.Proofs.Ytijifbkikgooiaa
open Go.RowKit Go.Shelf

def sameB (a b : Lk) : Bool := decide (a.inc = b.inc) && decide (a.out = b.out) && decide (a.inn = b.inn)

set_option maxHeartbeats 1000000 in
theorem same_any (w : World) (v v' : Value) (l l' : Lk) (ho : l.out.length ≤ 1099511627776) (hi : l.inn.length ≤ 1099511627776) (hl : LkR w v l) (hl' : LkR w v' l') :
    Calls Try.prog 17 #[v, v'] w fun e w' => e = .returned (.bool (sameB l l')) ∧ Below w.heap.size w w' := by
  obtain ⟨s1, s2, rfl, h1, h2⟩ := hl
  obtain ⟨t1, t2, rfl, k1, k2⟩ := hl'
  have h1' := h1
  have h2' := h2
  have k1' := k1
  have k2' := k2
  obtain ⟨a1, c1, rfl⟩ := h1'.shape
  obtain ⟨a2, c2, rfl⟩ := h2'.shape
  obtain ⟨a3, c3, rfl⟩ := k1'.shape
  obtain ⟨a4, c4, rfl⟩ := k2'.shape
  clear h1' h2' k1' k2'
  by_cases e0 : l.inc = l'.inc
  case neg =>
    have e0' : l.inc < l'.inc ∨ l'.inc < l.inc := by omega
    rcases e0' with e0' | e0'
    all_goals
      go_enter Try.func17, Try.ntmps17
      go_wp2
      go_ret
      exact ⟨ret_bool (by simp [sameB]; omega), by (repeat (first | (with_reducible exact Below.refl _ _) | (with_reducible assumption) | (with_reducible refine below_drewN ?_ _) | (with_reducible refine Below.drew ?_) | ((with_reducible refine Below.alloc ?_ ?_ _); rotate_left; focus (first | (with_reducible exact Nat.le_refl _) | omega | (simp; done) | (simp; omega))) | ((with_reducible refine Below.setCell (p := ⟨_, _, _⟩) ?_ ?_ _); rotate_left; focus (first | (with_reducible exact Nat.le_refl _) | omega | (simp; done) | (simp; omega)))))⟩
  by_cases e1 : l.out.length = l'.out.length
  case neg =>
    have B0 : (l.inc != l'.inc) = false := by simp; omega
    have e1' : ((l.out.length : Int) != (l'.out.length : Int)) = true := by simp; omega
    have hne : l.out ≠ l'.out := fun h => e1 (by rw [h])
    have HN := Lib.hid hne
    clear hne e1 e0
    all_goals
      go_enter Try.func17, Try.ntmps17
      go_wp2
      go_ret
      exact ⟨ret_bool (by simp [sameB, HN.out]), by (repeat (first | (with_reducible exact Below.refl _ _) | (with_reducible assumption) | (with_reducible refine below_drewN ?_ _) | (with_reducible refine Below.drew ?_) | ((with_reducible refine Below.alloc ?_ ?_ _); rotate_left; focus (first | (with_reducible exact Nat.le_refl _) | omega | (simp; done) | (simp; omega))) | ((with_reducible refine Below.setCell (p := ⟨_, _, _⟩) ?_ ?_ _); rotate_left; focus (first | (with_reducible exact Nat.le_refl _) | omega | (simp; done) | (simp; omega)))))⟩
  have B0 : (l.inc != l'.inc) = false := by simp; omega
  have B1 : ((l.out.length : Int) != (l'.out.length : Int)) = false := by simp; omega
  by_cases e2 : l.inn.length = l'.inn.length
  case neg =>
    have e2' : ((l.inn.length : Int) != (l'.inn.length : Int)) = true := by simp; omega
    have hne : l.inn ≠ l'.inn := fun h => e2 (by rw [h])
    have HN := Lib.hid hne
    clear hne e2 e1 e0
    all_goals
      go_enter Try.func17, Try.ntmps17
      go_wp2
      go_ret
      exact ⟨ret_bool (by simp [sameB, HN.out]), by (repeat (first | (with_reducible exact Below.refl _ _) | (with_reducible assumption) | (with_reducible refine below_drewN ?_ _) | (with_reducible refine Below.drew ?_) | ((with_reducible refine Below.alloc ?_ ?_ _); rotate_left; focus (first | (with_reducible exact Nat.le_refl _) | omega | (simp; done) | (simp; omega))) | ((with_reducible refine Below.setCell (p := ⟨_, _, _⟩) ?_ ?_ _); rotate_left; focus (first | (with_reducible exact Nat.le_refl _) | omega | (simp; done) | (simp; omega)))))⟩
  have E0 := Lib.hid e0
  have E1 := Lib.hid e1
  have E2 := Lib.hid e2
  have b2 : ((l.inn.length : Int) != (l'.inn.length : Int)) = false := by simp; omega
  clear e0 e1 e2
  go_enter Try.func17, Try.ntmps17
  go_wp2
  obtain ⟨W, hW⟩ : ∃ W', W' = ((w.alloc (.cells #[.int .i64 l.inc, .slice a1 l.out.length c1, .slice a2 l.inn.length c2] 25)).alloc (.cells #[.int .i64 l'.inc, .slice a3 l'.out.length c3, .slice a4 l'.inn.length c4] 25)) := ⟨_, rfl⟩
  rw [← hW]
  have hB : Below w.heap.size w W := by rw [hW]; (repeat (first | (with_reducible exact Below.refl _ _) | (with_reducible assumption) | (with_reducible refine below_drewN ?_ _) | (with_reducible refine Below.drew ?_) | ((with_reducible refine Below.alloc ?_ ?_ _); rotate_left; focus (first | (with_reducible exact Nat.le_refl _) | omega | (simp; done) | (simp; omega))) | ((with_reducible refine Below.setCell (p := ⟨_, _, _⟩) ?_ ?_ _); rotate_left; focus (first | (with_reducible exact Nat.le_refl _) | omega | (simp; done) | (simp; omega)))))
  have hsz : w.heap.size + 1 < W.heap.size := by rw [hW]; simp
  have hszw : w.heap.size < W.heap.size := by omega
  have c01 : W.cell? ⟨w.heap.size, 1, none⟩ = some (.slice a1 l.out.length c1) := by rw [hW]; (repeat (first | (rw [World.cell?_alloc_at _ _ _ _ (by simp)]; rfl) | rw [World.cell?_alloc_past _ _ _ (by simp; try omega)] | rw [World.cell?_drew]))
  have c02 : W.cell? ⟨w.heap.size, 2, none⟩ = some (.slice a2 l.inn.length c2) := by rw [hW]; (repeat (first | (rw [World.cell?_alloc_at _ _ _ _ (by simp)]; rfl) | rw [World.cell?_alloc_past _ _ _ (by simp; try omega)] | rw [World.cell?_drew]))
  have c11 : W.cell? ⟨w.heap.size + 1, 1, none⟩ = some (.slice a3 l'.out.length c3) := by rw [hW]; (repeat (first | (rw [World.cell?_alloc_at _ _ _ _ (by simp)]; rfl) | rw [World.cell?_alloc_past _ _ _ (by simp; try omega)] | rw [World.cell?_drew]))
  have c12 : W.cell? ⟨w.heap.size + 1, 2, none⟩ = some (.slice a4 l'.inn.length c4) := by rw [hW]; (repeat (first | (rw [World.cell?_alloc_at _ _ _ _ (by simp)]; rfl) | rw [World.cell?_alloc_past _ _ _ (by simp; try omega)] | rw [World.cell?_drew]))
  clear hW B0 B1 b2
  go_loopw [5] (fun i wr => ∃ k : Nat, k ≤ l.out.length ∧ i = .int .i64 k ∧ Below W.heap.size W wr ∧ Hid (∀ j x y, j < k → l.out[j]? = some x → l'.out[j]? = some y → x = y)) (fun i _ => l.out.length - (intOf i).toNat)
  case atStart => exact ⟨0, Nat.zero_le _, rfl, Below.refl _ _, fun j x y hj => absurd hj (by omega)⟩
  case round =>
    obtain ⟨k, hk, rfl, hBr, hg⟩ := hrel
    have hBw := hB.trans (hBr.mono (Nat.le_of_lt hszw))
    have d01 := (hBr.cell (p := ⟨w.heap.size, 1, none⟩) hszw).trans c01
    have d02 := (hBr.cell (p := ⟨w.heap.size, 2, none⟩) hszw).trans c02
    have d11 := (hBr.cell (p := ⟨w.heap.size + 1, 1, none⟩) hsz).trans c11
    have d12 := (hBr.cell (p := ⟨w.heap.size + 1, 2, none⟩) hsz).trans c12
    by_cases hlt : k < l.out.length
    · have hlt' : k < l'.out.length := by have := E1.out; omega
      obtain ⟨b, off, cap, hv, hb, hcell⟩ := h1.atI hlt
      obtain ⟨b', off', cap', hv', hb', hcell'⟩ := k1.atI hlt'
      cases hv
      cases hv'
      obtain ⟨x, hx⟩ := at_some hlt
      obtain ⟨y, hy⟩ := at_some hlt'
      have hcx := (hBw.cell (p := ⟨b, off + k, none⟩) hb).trans (hcell k x hx)
      have hcy := (hBw.cell (p := ⟨b', off' + k, none⟩) hb').trans (hcell' k y hy)
      have HX := Lib.hid hx
      have HY := Lib.hid hy
      clear hcell hcell' hx hy
      have i0 : (0 : Int) ≤ (k : Int) := by omega
      by_cases hxy : x = y
      · subst hxy
        have hn : (x != x) = false := by simp
        go_wp2
        go_quiet (fail)
        go_wp2
        go_roundw
        case rel =>
          refine ⟨k + 1, by omega, by go_num, by (repeat (first | (with_reducible exact Below.refl _ _) | (with_reducible assumption) | (with_reducible refine below_drewN ?_ _) | (with_reducible refine Below.drew ?_) | ((with_reducible refine Below.alloc ?_ ?_ _); rotate_left; focus (first | (with_reducible exact Nat.le_refl _) | omega | (simp; done) | (simp; omega))) | ((with_reducible refine Below.setCell (p := ⟨_, _, _⟩) ?_ ?_ _); rotate_left; focus (first | (with_reducible exact Nat.le_refl _) | omega | (simp; done) | (simp; omega))))), fun j x' y' hj hx' hy' => ?_⟩
          by_cases e : j = k
          · subst e; rw [HX.out] at hx'; rw [HY.out] at hy'; cases hx'; cases hy'; rfl
          · exact hg.out j x' y' (by omega) hx' hy'
        case measure => simp [intOf]; omega
      · have hn : (x != y) = true := by simp [hxy]
        have hne := Lib.hid (ne_at HX.out HY.out hxy)
        go_wp2
        go_quiet (fail)
        go_wp2
        go_ret
        exact ⟨ret_bool (by simp [sameB, hne.out]), by (repeat (first | (with_reducible exact Below.refl _ _) | (with_reducible assumption) | (with_reducible refine below_drewN ?_ _) | (with_reducible refine Below.drew ?_) | ((with_reducible refine Below.alloc ?_ ?_ _); rotate_left; focus (first | (with_reducible exact Nat.le_refl _) | omega | (simp; done) | (simp; omega))) | ((with_reducible refine Below.setCell (p := ⟨_, _, _⟩) ?_ ?_ _); rotate_left; focus (first | (with_reducible exact Nat.le_refl _) | omega | (simp; done) | (simp; omega)))))⟩
    · obtain rfl : k = l.out.length := by omega
      have hout := Lib.hid (ext_at E1.out hg.out)
      clear hg
      go_wp2
      obtain ⟨W2, hW2⟩ : ∃ W2, W2 = wr := ⟨_, rfl⟩
      go_loopw [6] (fun i wt => ∃ k : Nat, k ≤ l.inn.length ∧ i = .int .i64 k ∧ Below W.heap.size W wt ∧ Hid (∀ j x y, j < k → l.inn[j]? = some x → l'.inn[j]? = some y → x = y)) (fun i _ => l.inn.length - (intOf i).toNat)
      case atStart => exact ⟨0, Nat.zero_le _, rfl, hBr, fun j x y hj => absurd hj (by omega)⟩
      case round =>
        obtain ⟨k, hk2, rfl, hBt, hg⟩ := hrel
        have hBw2 := hB.trans (hBt.mono (Nat.le_of_lt hszw))
        have f01 := (hBt.cell (p := ⟨w.heap.size, 2, none⟩) hszw).trans c02
        have f11 := (hBt.cell (p := ⟨w.heap.size + 1, 2, none⟩) hsz).trans c12
        by_cases hlt : k < l.inn.length
        · have hlt' : k < l'.inn.length := by have := E2.out; omega
          obtain ⟨b, off, cap, hv, hb, hcell⟩ := h2.atP hlt
          obtain ⟨b', off', cap', hv', hb', hcell'⟩ := k2.atP hlt'
          cases hv
          cases hv'
          obtain ⟨x, hx⟩ := at_some hlt
          obtain ⟨y, hy⟩ := at_some hlt'
          have hcx := (hBw2.cell (p := ⟨b, off + k * 2, none⟩) hb).trans (hcell k x hx).1
          have hcx2 := (hBw2.cell (p := ⟨b, off + k * 2 + 1, none⟩) hb).trans (hcell k x hx).2
          have hcy := (hBw2.cell (p := ⟨b', off' + k * 2, none⟩) hb').trans (hcell' k y hy).1
          have hcy2 := (hBw2.cell (p := ⟨b', off' + k * 2 + 1, none⟩) hb').trans (hcell' k y hy).2
          have HX := Lib.hid hx
          have HY := Lib.hid hy
          clear hcell hcell' hx hy
          have i0 : (0 : Int) ≤ (k : Int) := by omega
          obtain ⟨x1, x2⟩ := x
          obtain ⟨y1, y2⟩ := y
          dsimp only at hcx hcx2 hcy hcy2
          by_cases hxy : (x1, x2) = (y1, y2)
          · cases hxy
            go_wp2
            go_quiet (fail)
            go_wp2
            go_roundw
            case rel =>
              refine ⟨k + 1, by omega, by go_num, by (repeat (first | (with_reducible exact Below.refl _ _) | (with_reducible assumption) | (with_reducible refine below_drewN ?_ _) | (with_reducible refine Below.drew ?_) | ((with_reducible refine Below.alloc ?_ ?_ _); rotate_left; focus (first | (with_reducible exact Nat.le_refl _) | omega | (simp; done) | (simp; omega))) | ((with_reducible refine Below.setCell (p := ⟨_, _, _⟩) ?_ ?_ _); rotate_left; focus (first | (with_reducible exact Nat.le_refl _) | omega | (simp; done) | (simp; omega))))), fun j x' y' hj hx' hy' => ?_⟩
              by_cases e : j = k
              · subst e; rw [HX.out] at hx'; rw [HY.out] at hy'; cases hx'; cases hy'; rfl
              · exact hg.out j x' y' (by omega) hx' hy'
            case measure => simp [intOf]; omega
          · have hne := Lib.hid (ne_at HX.out HY.out hxy)
            have hq : ¬ x1 = y1 ∨ (x1 = y1 ∧ ¬ x2 = y2) := by
              by_cases e : x1 = y1
              · exact .inr ⟨e, fun e' => hxy (by rw [e, e'])⟩
              · exact .inl e
            clear hxy
            rcases hq with hq | ⟨rfl, hq⟩
            all_goals
              go_wp2
              go_quiet (fail)
              go_wp2
              go_ret
              exact ⟨ret_bool (by simp [sameB, hne.out]), by (repeat (first | (with_reducible exact Below.refl _ _) | (with_reducible assumption) | (with_reducible refine below_drewN ?_ _) | (with_reducible refine Below.drew ?_) | ((with_reducible refine Below.alloc ?_ ?_ _); rotate_left; focus (first | (with_reducible exact Nat.le_refl _) | omega | (simp; done) | (simp; omega))) | ((with_reducible refine Below.setCell (p := ⟨_, _, _⟩) ?_ ?_ _); rotate_left; focus (first | (with_reducible exact Nat.le_refl _) | omega | (simp; done) | (simp; omega)))))⟩
        · obtain rfl : k = l.inn.length := by omega
          have hinn := Lib.hid (ext_at E2.out hg.out)
          clear hg
          go_wp2
          go_ret
          exact ⟨ret_bool (by simp [sameB, hout.out, hinn.out, E0.out]), by (repeat (first | (with_reducible exact Below.refl _ _) | (with_reducible assumption) | (with_reducible refine below_drewN ?_ _) | (with_reducible refine Below.drew ?_) | ((with_reducible refine Below.alloc ?_ ?_ _); rotate_left; focus (first | (with_reducible exact Nat.le_refl _) | omega | (simp; done) | (simp; omega))) | ((with_reducible refine Below.setCell (p := ⟨_, _, _⟩) ?_ ?_ _); rotate_left; focus (first | (with_reducible exact Nat.le_refl _) | omega | (simp; done) | (simp; omega)))))⟩

end Go.Proofs.Ytijifbkikgooiaa
