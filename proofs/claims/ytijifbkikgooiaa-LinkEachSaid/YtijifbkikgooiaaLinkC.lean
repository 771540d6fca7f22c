/- Link: link.all at three element types. -/
import Derived.Test.YtijifbkikgooiaaLinkB
namespace Go.Proofs.Ytijifbkikgooiaa
open Go.RowKit Go.Shelf
attribute [local go_sem] Oper.semAt_some
theorem hro0 : Fence.wide.round = none := rfl

set_option maxRecDepth 100000 in
set_option maxHeartbeats 2000000 in
theorem allI_in  (n : Nat) (hn : 4 ≤ n) (sv : Value) (xs : List (Int)) (hlen : xs.length ≤ 1099511627776) (w : World) (hS : Sl encI 1 w sv xs)
    (g : Nat) (lb : Array Value) (eg : Enters Try.prog g) (p : Int → Bool)
    (hg : ∀ x W, Below w.heap.size w W → Calls Try.prog g (#[.int .i64 x] ++ lb) W fun e W' => e = .returned (.bool (p x)) ∧ Below W.heap.size W W') :
    CallsIn Fence.wide n Try.prog 39 #[sv, .func (.func g) #[] lb] w fun e W' => e = .returned (.bool (xs.all p)) ∧ Below w.heap.size w W' := by
  have h1 : 1 ≤ n := by omega
  have h3 : 1 ≤ n - 1 - 1 := by omega
  have hwide : ∀ f, Fence.wide.fn f := fun _ => trivial
  have eg' : ∀ args w, (callFunc g args).run Try.prog w = .ok (.enter g args) w := eg
  obtain ⟨a, cap, rfl⟩ := hS.shape
  refine callsIn_of_wp_marks Try.func39 rfl trivial ?_ rfl
  simp only [Try.ntmps39, List.size_toArray, List.length_cons, List.length_nil, Nat.reduceAdd, Nat.reduceSub, Array.replicate_succ, Array.replicate_zero, List.push_toArray, List.append_toArray, List.nil_append, List.cons_append]
  gi_wp2_with (gi_at_call 49; refine (valuesI_any (n - 1) _ _ _ _).mono ?_; rintro e w' ⟨rfl, rfl⟩)
  have bF := Boxed.new w 75 (.func (.func g) #[] lb)
  have bR := Boxed.new (w.alloc (.cells #[.func (.func g) #[] lb] 75)) 4 (.bool false)
  have bS := Boxed.new ((w.alloc (.cells #[.func (.func g) #[] lb] 75)).alloc (.cells #[.bool false] 4)) 22 (.slice a xs.length cap)
  rw [World.size_alloc] at bR
  rw [World.size_alloc, World.size_alloc] at bS
  have hB0 : Below w.heap.size w (((w.alloc (.cells #[.func (.func g) #[] lb] 75)).alloc (.cells #[.bool false] 4)).alloc (.cells #[.slice a xs.length cap] 22)) := by (repeat (first | (with_reducible exact Below.refl _ _) | (with_reducible assumption) | (with_reducible refine below_drewN ?_ _) | (with_reducible refine Below.drew ?_) | ((with_reducible refine Below.alloc ?_ ?_ _); rotate_left; focus (first | (with_reducible exact Nat.le_refl _) | omega | (simp; done) | (simp; omega))) | ((with_reducible refine Below.setCell (p := ⟨_, _, _⟩) ?_ ?_ _); rotate_left; focus (first | (with_reducible exact Nat.le_refl _) | omega | (simp; done) | (simp; omega)))))
  refine wpIn_rangeFunc_ownG hro0 h1 (gf := 52) (lb := #[.pointer (some ⟨w.heap.size + 1 + 1, 0, none⟩)]) rfl trivial (enters_of Try.func52 (by kernel_rfl) rfl)
    (valuesI_stops (n - 1) (by omega) (w.heap.size + 1 + 1) _ xs hlen w _ hS hB0 (by simp) bS.cell) belowK_t (belowK_b (by simp; omega)) (Below.refl _ _) (fun _ => rfl)
    (fun pre W => (W.cell? ⟨w.heap.size, 0, none⟩ = some (.func (.func g) #[] lb) ∧ W.cell? ⟨w.heap.size + 1, 0, none⟩ = some (.bool false) ∧ W.frozen? ⟨w.heap.size + 1, 0, none⟩ = false) ∧ pre.all p = true ∧ Below w.heap.size w W)
    (fun c pre W => (c = .ret ∧ (∃ x, x ∈ pre ∧ p x = false)) ∧ W.cell? ⟨w.heap.size + 1, 0, none⟩ = some (.bool false) ∧ Below w.heap.size w W)
    (OwnFrom.and (Own.from (fun s A B row hs hg hr => ⟨cell_kept hs.1 hg hr, cell_kept hs.2.1 hg hr, (frozen_kept hs.2.1 hg hr).trans hs.2.2⟩) _) (OwnFrom.and (ownFrom_pure _ _) (ownFrom_below (Nat.le_refl _) (by simp; omega))))
    (fun c => OwnFrom.and (ownFrom_pure _ _) (OwnFrom.and (Own.from (fun s A B row hs hg hr => cell_kept hs hg hr) _) (ownFrom_below (Nat.le_refl _) (by simp; omega))))
    ⟨⟨((bF.alloc _).alloc _).cell, (bR.alloc _).cell, (bR.alloc _).frozen⟩, rfl, hB0⟩
    (fun x => { tmps := #[.slice a xs.length cap, .func (.func g) #[] lb, undef, .pointer (some ⟨w.heap.size, 0, none⟩), .pointer (some ⟨w.heap.size + 1, 0, none⟩), .int .i64 x, .slice a xs.length cap, .func (.func 52) #[] #[.pointer (some ⟨w.heap.size + 1 + 1, 0, none⟩)], .int .i64 x, undef, undef, undef, undef], defers := [] }) ?assign ?body ?done ?stop
  case assign =>
    intro l x W K hK
    gi_wp2
    exact hK
  case body =>
    rintro l pre x W ⟨⟨hcF, hcR, hfR⟩, hp, hB⟩ hl
    have l1 := World.block_lt_of_cell? _ _ hcR
    dsimp only at l1
    cases hpx : p x
    · gi_wp2_with fail
      refine (CallsIn.inRound l (callsIn_wide.2 (hg x _ hB))).mono ?_
      rintro e W1 ⟨rfl, hB1⟩
      have hcR1 := (hB1.cell (p := ⟨w.heap.size + 1, 0, none⟩) l1).trans hcR
      have hfR1 := (hB1.frozen (p := ⟨w.heap.size + 1, 0, none⟩) l1).trans hfR
      gi_wp2
      exact ⟨(keepsFrom_of_below hB1).trans ((KeepsOthers.setCell _ _ _).from _), ⟨rfl, x, by simp, hpx⟩, World.cell?_setCell_same' _ _ _ (by rw [hcR1]; rfl), (hB.trans (hB1.mono hB.size)).setCell (p := ⟨w.heap.size + 1, 0, none⟩) (by simp) _⟩
    · gi_wp2_with fail
      refine (CallsIn.inRound l (callsIn_wide.2 (hg x _ hB))).mono ?_
      rintro e W1 ⟨rfl, hB1⟩
      gi_wp2
      exact ⟨(keepsFrom_of_below hB1), (hB1.mono hB.size), ⟨(hB1.cell (p := ⟨w.heap.size, 0, none⟩) (by have := l1; first | omega | (simp; omega))).trans hcF, (hB1.cell (p := ⟨w.heap.size + 1, 0, none⟩) l1).trans hcR, (hB1.frozen (p := ⟨w.heap.size + 1, 0, none⟩) l1).trans hfR⟩, all_snoc hp hpx, hB.trans (hB1.mono hB.size)⟩
  case done =>
    rintro D ys W hD rfl ⟨⟨hcF, hcR, hfR⟩, hp, hB⟩ hK
    gi_wp2
    have hK' := (KeepsOthers.setCell W ⟨w.heap.size + 1, 0, none⟩ (.bool true)).same D _ hK rfl
    refine ⟨by simp, .inl ⟨_, _, rfl, run_takeDeferred hK', ?_⟩⟩
    have hc5 := cell_kept (World.cell?_setCell_same' W ⟨w.heap.size + 1, 0, none⟩ (.bool true) (by rw [hcR]; rfl)) (grownBy_putObj' _ D (.deferred none)) (fun r e => by cases e; exact ⟨_, hK', rfl⟩)
    refine ⟨.bool true, ?_, by rw [hp], (hB.setCell (p := ⟨w.heap.size + 1, 0, none⟩) (by simp) _).trans (belowK_b (w := w) (Nat.le_refl _) _ D _ _ (by simp at hD; omega) hK' rfl rfl)⟩
    simp [results, Try.results39, go_sem, hc5]
  case stop =>
    rintro D c pre W hD ⟨k, hk, rfl⟩ ⟨⟨rfl, x, hx, hpx⟩, hcR, hB⟩ hK
    have hal := all_false hx hpx
    clear hx hpx
    gi_wp2
    refine ⟨by simp, .inl ⟨_, _, rfl, run_takeDeferred hK, ?_⟩⟩
    have hc5 := cell_kept hcR (grownBy_putObj' _ D (.deferred none)) (fun r e => by cases e; exact ⟨_, hK, rfl⟩)
    refine ⟨.bool false, ?_, by rw [hal], hB.trans (belowK_b (w := w) (Nat.le_refl _) _ D _ _ (by simp at hD; omega) hK rfl rfl)⟩
    simp [results, Try.results39, go_sem, hc5]

set_option maxRecDepth 100000 in
set_option maxHeartbeats 2000000 in
theorem allP_in  (n : Nat) (hn : 4 ≤ n) (sv : Value) (xs : List ((Int × Int))) (hlen : xs.length ≤ 1099511627776) (w : World) (hS : Sl encP 2 w sv xs)
    (g : Nat) (lb : Array Value) (eg : Enters Try.prog g) (p : (Int × Int) → Bool)
    (hg : ∀ x W, Below w.heap.size w W → Calls Try.prog g (#[.agg #[.int .i64 x.1, .int .i64 x.2]] ++ lb) W fun e W' => e = .returned (.bool (p x)) ∧ Below W.heap.size W W') :
    CallsIn Fence.wide n Try.prog 42 #[sv, .func (.func g) #[] lb] w fun e W' => e = .returned (.bool (xs.all p)) ∧ Below w.heap.size w W' := by
  have h1 : 1 ≤ n := by omega
  have h3 : 1 ≤ n - 1 - 1 := by omega
  have hwide : ∀ f, Fence.wide.fn f := fun _ => trivial
  have eg' : ∀ args w, (callFunc g args).run Try.prog w = .ok (.enter g args) w := eg
  obtain ⟨a, cap, rfl⟩ := hS.shape
  refine callsIn_of_wp_marks Try.func42 rfl trivial ?_ rfl
  simp only [Try.ntmps42, List.size_toArray, List.length_cons, List.length_nil, Nat.reduceAdd, Nat.reduceSub, Array.replicate_succ, Array.replicate_zero, List.push_toArray, List.append_toArray, List.nil_append, List.cons_append]
  gi_wp2_with (gi_at_call 50; refine (valuesP_any (n - 1) _ _ _ _).mono ?_; rintro e w' ⟨rfl, rfl⟩)
  have bF := Boxed.new w 65 (.func (.func g) #[] lb)
  have bR := Boxed.new (w.alloc (.cells #[.func (.func g) #[] lb] 65)) 4 (.bool false)
  have bS := Boxed.new ((w.alloc (.cells #[.func (.func g) #[] lb] 65)).alloc (.cells #[.bool false] 4)) 23 (.slice a xs.length cap)
  rw [World.size_alloc] at bR
  rw [World.size_alloc, World.size_alloc] at bS
  have hB0 : Below w.heap.size w (((w.alloc (.cells #[.func (.func g) #[] lb] 65)).alloc (.cells #[.bool false] 4)).alloc (.cells #[.slice a xs.length cap] 23)) := by (repeat (first | (with_reducible exact Below.refl _ _) | (with_reducible assumption) | (with_reducible refine below_drewN ?_ _) | (with_reducible refine Below.drew ?_) | ((with_reducible refine Below.alloc ?_ ?_ _); rotate_left; focus (first | (with_reducible exact Nat.le_refl _) | omega | (simp; done) | (simp; omega))) | ((with_reducible refine Below.setCell (p := ⟨_, _, _⟩) ?_ ?_ _); rotate_left; focus (first | (with_reducible exact Nat.le_refl _) | omega | (simp; done) | (simp; omega)))))
  refine wpIn_rangeFunc_ownH hro0 h1 (gf := 53) (lb := #[.pointer (some ⟨w.heap.size + 1 + 1, 0, none⟩)]) rfl trivial (enters_of Try.func53 (by kernel_rfl) rfl)
    (valuesP_stops (n - 1) (by omega) (w.heap.size + 1 + 1) _ xs hlen w _ hS hB0 (by simp) bS.cell) belowK_t (belowK_b (by simp; omega)) (Below.refl _ _) (fun _ => rfl)
    (fun pre W => (W.cell? ⟨w.heap.size, 0, none⟩ = some (.func (.func g) #[] lb) ∧ W.cell? ⟨w.heap.size + 1, 0, none⟩ = some (.bool false) ∧ W.frozen? ⟨w.heap.size + 1, 0, none⟩ = false) ∧ pre.all p = true ∧ Below w.heap.size w W)
    (fun c pre W => (c = .ret ∧ (∃ x, x ∈ pre ∧ p x = false)) ∧ W.cell? ⟨w.heap.size + 1, 0, none⟩ = some (.bool false) ∧ Below w.heap.size w W)
    (OwnFrom.and (Own.from (fun s A B row hs hg hr => ⟨cell_kept hs.1 hg hr, cell_kept hs.2.1 hg hr, (frozen_kept hs.2.1 hg hr).trans hs.2.2⟩) _) (OwnFrom.and (ownFrom_pure _ _) (ownFrom_below (Nat.le_refl _) (by simp; omega))))
    (fun c => OwnFrom.and (ownFrom_pure _ _) (OwnFrom.and (Own.from (fun s A B row hs hg hr => cell_kept hs hg hr) _) (ownFrom_below (Nat.le_refl _) (by simp; omega))))
    ⟨⟨((bF.alloc _).alloc _).cell, (bR.alloc _).cell, (bR.alloc _).frozen⟩, rfl, hB0⟩
    (fun x a' W => ∃ Bx, (W.cell? ⟨Bx, 0, none⟩ = some (.int .i64 x.1) ∧ W.cell? ⟨Bx, 1, none⟩ = some (.int .i64 x.2)) ∧ a' = { tmps := #[.slice a xs.length cap, .func (.func g) #[] lb, undef, .pointer (some ⟨w.heap.size, 0, none⟩), .pointer (some ⟨w.heap.size + 1, 0, none⟩), .pointer (some ⟨Bx, 0, none⟩), .slice a xs.length cap, .func (.func 53) #[] #[.pointer (some ⟨w.heap.size + 1 + 1, 0, none⟩)], .agg #[.int .i64 x.1, .int .i64 x.2], undef, undef, undef, undef], defers := [] })
    (fun x a' => by rintro s A B row ⟨Bx, ⟨h0, h1⟩, he⟩ hg hr; have hr' : ∀ r, row = some r → ∃ o : Obj, A.heap[r]? = some o ∧ o.isCells = false := fun r e => (hr r e).2; exact ⟨Bx, ⟨cell_kept h0 hg hr', cell_kept h1 hg hr'⟩, he⟩) ?assign ?body ?done ?stop
  case assign =>
    rintro l pre x W K ⟨⟨hcF, hcR, hfR⟩, hp, hB⟩ hK
    have l1 := World.block_lt_of_cell? _ _ hcR
    have l0 := World.block_lt_of_cell? _ _ hcF
    dsimp only at l0 l1
    gi_wp2
    refine hK _ _ ((KeepsOthers.alloc _ _).from _) ((Below.refl _ W).alloc hB.size _) ⟨⟨by rw [World.cell?_alloc_past _ _ _ l0]; exact hcF, by rw [World.cell?_alloc_past _ _ _ l1]; exact hcR, by rw [World.frozen?_alloc_past _ _ _ l1]; exact hfR⟩, hp, hB.alloc hB.size _⟩ ⟨W.heap.size, ⟨?_, ?_⟩, rfl⟩
    · rw [World.cell?_alloc_at _ _ _ _ rfl]; rfl
    · rw [World.cell?_alloc_at _ _ _ _ rfl]; rfl
  case body =>
    rintro l pre x a' W _ _ ⟨⟨hcF, hcR, hfR⟩, hp, hB⟩ ⟨Bx, ⟨hx1, hx2⟩, rfl⟩ hl
    have l1 := World.block_lt_of_cell? _ _ hcR
    dsimp only at l1
    cases hpx : p x
    · gi_wp2_with fail
      refine (CallsIn.inRound l (callsIn_wide.2 (hg x _ hB))).mono ?_
      rintro e W1 ⟨rfl, hB1⟩
      have hcR1 := (hB1.cell (p := ⟨w.heap.size + 1, 0, none⟩) l1).trans hcR
      have hfR1 := (hB1.frozen (p := ⟨w.heap.size + 1, 0, none⟩) l1).trans hfR
      gi_wp2
      exact ⟨(keepsFrom_of_below hB1).trans ((KeepsOthers.setCell _ _ _).from _), ⟨rfl, x, by simp, hpx⟩, World.cell?_setCell_same' _ _ _ (by rw [hcR1]; rfl), (hB.trans (hB1.mono hB.size)).setCell (p := ⟨w.heap.size + 1, 0, none⟩) (by simp) _⟩
    · gi_wp2_with fail
      refine (CallsIn.inRound l (callsIn_wide.2 (hg x _ hB))).mono ?_
      rintro e W1 ⟨rfl, hB1⟩
      gi_wp2
      exact ⟨(keepsFrom_of_below hB1), (hB1.mono hB.size), ⟨(hB1.cell (p := ⟨w.heap.size, 0, none⟩) (by have := l1; first | omega | (simp; omega))).trans hcF, (hB1.cell (p := ⟨w.heap.size + 1, 0, none⟩) l1).trans hcR, (hB1.frozen (p := ⟨w.heap.size + 1, 0, none⟩) l1).trans hfR⟩, all_snoc hp hpx, hB.trans (hB1.mono hB.size)⟩
  case done =>
    rintro D ys W hD rfl ⟨⟨hcF, hcR, hfR⟩, hp, hB⟩ hK
    gi_wp2
    have hK' := (KeepsOthers.setCell W ⟨w.heap.size + 1, 0, none⟩ (.bool true)).same D _ hK rfl
    refine ⟨by simp, .inl ⟨_, _, rfl, run_takeDeferred hK', ?_⟩⟩
    have hc5 := cell_kept (World.cell?_setCell_same' W ⟨w.heap.size + 1, 0, none⟩ (.bool true) (by rw [hcR]; rfl)) (grownBy_putObj' _ D (.deferred none)) (fun r e => by cases e; exact ⟨_, hK', rfl⟩)
    refine ⟨.bool true, ?_, by rw [hp], (hB.setCell (p := ⟨w.heap.size + 1, 0, none⟩) (by simp) _).trans (belowK_b (w := w) (Nat.le_refl _) _ D _ _ (by simp at hD; omega) hK' rfl rfl)⟩
    simp [results, Try.results42, go_sem, hc5]
  case stop =>
    rintro D c pre W hD ⟨k, hk, rfl⟩ ⟨⟨rfl, x, hx, hpx⟩, hcR, hB⟩ hK
    have hal := all_false hx hpx
    clear hx hpx
    gi_wp2
    refine ⟨by simp, .inl ⟨_, _, rfl, run_takeDeferred hK, ?_⟩⟩
    have hc5 := cell_kept hcR (grownBy_putObj' _ D (.deferred none)) (fun r e => by cases e; exact ⟨_, hK, rfl⟩)
    refine ⟨.bool false, ?_, by rw [hal], hB.trans (belowK_b (w := w) (Nat.le_refl _) _ D _ _ (by simp at hD; omega) hK rfl rfl)⟩
    simp [results, Try.results42, go_sem, hc5]

set_option maxRecDepth 100000 in
set_option maxHeartbeats 2000000 in
theorem allV_in {α : Type} (f : α → Value) (n : Nat) (hn : 4 ≤ n) (sv : Value) (xs : List (α)) (hlen : xs.length ≤ 1099511627776) (w : World) (hS : Sl (encV f) 1 w sv xs)
    (g : Nat) (lb : Array Value) (eg : Enters Try.prog g) (p : α → Bool)
    (hg : ∀ x W, Below w.heap.size w W → Calls Try.prog g (#[f x] ++ lb) W fun e W' => e = .returned (.bool (p x)) ∧ Below W.heap.size W W') :
    CallsIn Fence.wide n Try.prog 45 #[sv, .func (.func g) #[] lb] w fun e W' => e = .returned (.bool (xs.all p)) ∧ Below w.heap.size w W' := by
  have h1 : 1 ≤ n := by omega
  have h3 : 1 ≤ n - 1 - 1 := by omega
  have hwide : ∀ f, Fence.wide.fn f := fun _ => trivial
  have eg' : ∀ args w, (callFunc g args).run Try.prog w = .ok (.enter g args) w := eg
  obtain ⟨a, cap, rfl⟩ := hS.shape
  refine callsIn_of_wp_marks Try.func45 rfl trivial ?_ rfl
  simp only [Try.ntmps45, List.size_toArray, List.length_cons, List.length_nil, Nat.reduceAdd, Nat.reduceSub, Array.replicate_succ, Array.replicate_zero, List.push_toArray, List.append_toArray, List.nil_append, List.cons_append]
  gi_wp2_with (gi_at_call 51; refine (valuesV_any (n - 1) _ _ _ _).mono ?_; rintro e w' ⟨rfl, rfl⟩)
  have bF := Boxed.new w 80 (.func (.func g) #[] lb)
  have bR := Boxed.new (w.alloc (.cells #[.func (.func g) #[] lb] 80)) 4 (.bool false)
  have bS := Boxed.new ((w.alloc (.cells #[.func (.func g) #[] lb] 80)).alloc (.cells #[.bool false] 4)) 79 (.slice a xs.length cap)
  rw [World.size_alloc] at bR
  rw [World.size_alloc, World.size_alloc] at bS
  have hB0 : Below w.heap.size w (((w.alloc (.cells #[.func (.func g) #[] lb] 80)).alloc (.cells #[.bool false] 4)).alloc (.cells #[.slice a xs.length cap] 79)) := by (repeat (first | (with_reducible exact Below.refl _ _) | (with_reducible assumption) | (with_reducible refine below_drewN ?_ _) | (with_reducible refine Below.drew ?_) | ((with_reducible refine Below.alloc ?_ ?_ _); rotate_left; focus (first | (with_reducible exact Nat.le_refl _) | omega | (simp; done) | (simp; omega))) | ((with_reducible refine Below.setCell (p := ⟨_, _, _⟩) ?_ ?_ _); rotate_left; focus (first | (with_reducible exact Nat.le_refl _) | omega | (simp; done) | (simp; omega)))))
  refine wpIn_rangeFunc_ownG hro0 h1 (gf := 54) (lb := #[.pointer (some ⟨w.heap.size + 1 + 1, 0, none⟩)]) rfl trivial (enters_of Try.func54 (by kernel_rfl) rfl)
    (valuesV_stops f (n - 1) (by omega) (w.heap.size + 1 + 1) _ xs hlen w _ hS hB0 (by simp) bS.cell) belowK_t (belowK_b (by simp; omega)) (Below.refl _ _) (fun _ => rfl)
    (fun pre W => (W.cell? ⟨w.heap.size, 0, none⟩ = some (.func (.func g) #[] lb) ∧ W.cell? ⟨w.heap.size + 1, 0, none⟩ = some (.bool false) ∧ W.frozen? ⟨w.heap.size + 1, 0, none⟩ = false) ∧ pre.all p = true ∧ Below w.heap.size w W)
    (fun c pre W => (c = .ret ∧ (∃ x, x ∈ pre ∧ p x = false)) ∧ W.cell? ⟨w.heap.size + 1, 0, none⟩ = some (.bool false) ∧ Below w.heap.size w W)
    (OwnFrom.and (Own.from (fun s A B row hs hg hr => ⟨cell_kept hs.1 hg hr, cell_kept hs.2.1 hg hr, (frozen_kept hs.2.1 hg hr).trans hs.2.2⟩) _) (OwnFrom.and (ownFrom_pure _ _) (ownFrom_below (Nat.le_refl _) (by simp; omega))))
    (fun c => OwnFrom.and (ownFrom_pure _ _) (OwnFrom.and (Own.from (fun s A B row hs hg hr => cell_kept hs hg hr) _) (ownFrom_below (Nat.le_refl _) (by simp; omega))))
    ⟨⟨((bF.alloc _).alloc _).cell, (bR.alloc _).cell, (bR.alloc _).frozen⟩, rfl, hB0⟩
    (fun x => { tmps := #[.slice a xs.length cap, .func (.func g) #[] lb, undef, .pointer (some ⟨w.heap.size, 0, none⟩), .pointer (some ⟨w.heap.size + 1, 0, none⟩), f x, .slice a xs.length cap, .func (.func 54) #[] #[.pointer (some ⟨w.heap.size + 1 + 1, 0, none⟩)], f x, undef, undef, undef, undef], defers := [] }) ?assign ?body ?done ?stop
  case assign =>
    intro l x W K hK
    gi_wp2
    exact hK
  case body =>
    rintro l pre x W ⟨⟨hcF, hcR, hfR⟩, hp, hB⟩ hl
    have l1 := World.block_lt_of_cell? _ _ hcR
    dsimp only at l1
    cases hpx : p x
    · gi_wp2_with fail
      refine (CallsIn.inRound l (callsIn_wide.2 (hg x _ hB))).mono ?_
      rintro e W1 ⟨rfl, hB1⟩
      have hcR1 := (hB1.cell (p := ⟨w.heap.size + 1, 0, none⟩) l1).trans hcR
      have hfR1 := (hB1.frozen (p := ⟨w.heap.size + 1, 0, none⟩) l1).trans hfR
      gi_wp2
      exact ⟨(keepsFrom_of_below hB1).trans ((KeepsOthers.setCell _ _ _).from _), ⟨rfl, x, by simp, hpx⟩, World.cell?_setCell_same' _ _ _ (by rw [hcR1]; rfl), (hB.trans (hB1.mono hB.size)).setCell (p := ⟨w.heap.size + 1, 0, none⟩) (by simp) _⟩
    · gi_wp2_with fail
      refine (CallsIn.inRound l (callsIn_wide.2 (hg x _ hB))).mono ?_
      rintro e W1 ⟨rfl, hB1⟩
      gi_wp2
      exact ⟨(keepsFrom_of_below hB1), (hB1.mono hB.size), ⟨(hB1.cell (p := ⟨w.heap.size, 0, none⟩) (by have := l1; first | omega | (simp; omega))).trans hcF, (hB1.cell (p := ⟨w.heap.size + 1, 0, none⟩) l1).trans hcR, (hB1.frozen (p := ⟨w.heap.size + 1, 0, none⟩) l1).trans hfR⟩, all_snoc hp hpx, hB.trans (hB1.mono hB.size)⟩
  case done =>
    rintro D ys W hD rfl ⟨⟨hcF, hcR, hfR⟩, hp, hB⟩ hK
    gi_wp2
    have hK' := (KeepsOthers.setCell W ⟨w.heap.size + 1, 0, none⟩ (.bool true)).same D _ hK rfl
    refine ⟨by simp, .inl ⟨_, _, rfl, run_takeDeferred hK', ?_⟩⟩
    have hc5 := cell_kept (World.cell?_setCell_same' W ⟨w.heap.size + 1, 0, none⟩ (.bool true) (by rw [hcR]; rfl)) (grownBy_putObj' _ D (.deferred none)) (fun r e => by cases e; exact ⟨_, hK', rfl⟩)
    refine ⟨.bool true, ?_, by rw [hp], (hB.setCell (p := ⟨w.heap.size + 1, 0, none⟩) (by simp) _).trans (belowK_b (w := w) (Nat.le_refl _) _ D _ _ (by simp at hD; omega) hK' rfl rfl)⟩
    simp [results, Try.results45, go_sem, hc5]
  case stop =>
    rintro D c pre W hD ⟨k, hk, rfl⟩ ⟨⟨rfl, x, hx, hpx⟩, hcR, hB⟩ hK
    have hal := all_false hx hpx
    clear hx hpx
    gi_wp2
    refine ⟨by simp, .inl ⟨_, _, rfl, run_takeDeferred hK, ?_⟩⟩
    have hc5 := cell_kept hcR (grownBy_putObj' _ D (.deferred none)) (fun r e => by cases e; exact ⟨_, hK, rfl⟩)
    refine ⟨.bool false, ?_, by rw [hal], hB.trans (belowK_b (w := w) (Nat.le_refl _) _ D _ _ (by simp at hD; omega) hK rfl rfl)⟩
    simp [results, Try.results45, go_sem, hc5]

end Go.Proofs.Ytijifbkikgooiaa
