/- Link: LinkMakes, walked. -/
import Derived.Test.YtijifbkikgooiaaLinkR
import Derived.Deep.RegionHeld3
import Derived.Deep.Light
namespace Go.Proofs.Ytijifbkikgooiaa
open Go.RowKit Go.Shelf

theorem held_take {P : Program} {ops : Array Oper} {Q : Exit → Act → World → Prop} {md : Region.Mode} {S : World → Prop} {i d : Nat} {v : Value} {fuel : Nat} {listed : Array Bool} {a : Act} {w : World} (hd : (ops[i]?).map (·.dst) = some (some d))
    (hs : Region.noSelect ops = true) (hf : Region.free md ops listed i = true) (hr : (Region.ready md ops listed).contains i = true) (hQ : ∀ c a w, Q (.panic c) (a.put (some d) v) w → Q (.panic c) a w)
    (hy : ∀ oi, ops[i]? = some oi → Region.wanted oi (yielded ops a.tmps) = true ∧ ∀ w, S w → (execOp a.eval oi).run P w = .ok (.value v) w) (hS : S w)
    (h : wpAnyH P md ops Q S fuel (listed.setIfInBounds i true) (a.put (some d) v) w) : wpAnyH P md ops Q S (fuel + 1) listed a w := by
  cases ho : ops[i]? with
  | none => rw [ho] at hd; cases hd
  | some oi =>
    rw [ho] at hd
    have hd' : oi.dst = some d := Option.some.inj hd
    exact wpAnyH_take ho hs hf hr (by rw [hd']; exact hQ) (.inl (hy oi ho)) hS (by rw [hd']; exact h)
theorem held_skip {P : Program} {ops : Array Oper} {Q : Exit → Act → World → Prop} {md : Region.Mode} {S : World → Prop} {i d : Nat} {fuel : Nat} {listed : Array Bool} {a : Act} {w : World} (hd : (ops[i]?).map (·.dst) = some (some d))
    (hs : Region.noSelect ops = true) (hf : Region.free md ops listed i = true) (hr : (Region.ready md ops listed).contains i = true) (hQ : ∀ c a w, Q (.panic c) (a.put (some d) undef) w → Q (.panic c) a w)
    (hy : ∀ oi, ops[i]? = some oi → Region.wanted oi (yielded ops a.tmps) = false) (hS : S w)
    (h : wpAnyH P md ops Q S fuel (listed.setIfInBounds i true) (a.put (some d) undef) w) : wpAnyH P md ops Q S (fuel + 1) listed a w := by
  cases ho : ops[i]? with
  | none => rw [ho] at hd; cases hd
  | some oi =>
    rw [ho] at hd
    have hd' : oi.dst = some d := Option.some.inj hd
    exact wpAnyH_take ho hs hf hr (by rw [hd']; exact hQ) (.inr ⟨hy oi ho, rfl⟩) hS (by rw [hd']; exact h)
theorem held_call {P : Program} {ops : Array Oper} {Q : Exit → Act → World → Prop} {md : Region.Mode} {S : World → Prop} {i : Nat} {fuel : Nat} {listed : Array Bool} {a : Act} {w : World} (hi : (ops[i]?).isSome = true) (hr : Region.ready md ops listed = [i])
    (h : ∀ o, ops[i]? = some o → ∀ K' : Act → World → Prop, Shut (∀ a w, S w → (S w → wpAnyH P md ops Q S fuel (listed.setIfInBounds i true) a w) → K' a w) → if Region.wanted o (yielded ops a.tmps) = true then Oper.wp P o a w K' Q else K' (a.put o.dst undef) w) :
    wpAnyH P md ops Q S (fuel + 1) listed a w := by
  cases ho : ops[i]? with
  | none => rw [ho] at hi; cases hi
  | some oi => exact wpAnyH_ready hr (by simp) (AllReadyH.cons ho (fun K' hK => h oi ho K' hK) AllReadyH.nil)

theorem cells4 {w : World} {b : Nat} {v0 v1 v2 v3 : Value} {t : TypeId} (h : w.heap[b]? = some (.cells #[v0, v1, v2, v3] t (0, 0))) : w.cell? ⟨b, 0, none⟩ = some v0 ∧ w.cell? ⟨b, 1, none⟩ = some v1 ∧ w.cell? ⟨b, 2, none⟩ = some v2 ∧ w.cell? ⟨b, 3, none⟩ = some v3 ∧ ∀ i, w.frozen? ⟨b, i, none⟩ = false := by
  refine ⟨by simp [World.cell?, h], by simp [World.cell?, h], by simp [World.cell?, h], by simp [World.cell?, h], fun i => by simp [World.frozen?, h]⟩
theorem noL_reads (w : World) : LkR w (.agg #[.int .i64 0, .slice none 0 0, .slice none 0 0]) noL := ⟨_, _, rfl, Sl.nil _ _ _, Sl.nil _ _ _⟩
theorem check_good (w : World) (v : Value) (l : Lk) (ho : l.out.length ≤ 1099511627776) (hi : l.inn.length ≤ 1099511627776) (hr : rightB l = true) (hl : LkR w v l) :
    Calls Try.prog 12 #[v] w fun e w' => e = .returned (.int .i64 0) ∧ Below w.heap.size w w' := by
  have := check_any w v l ho hi hl
  rw [show checkE l = 0 by simp [checkE, hr]] at this
  exact this
theorem check_bad (w : World) (v : Value) (l : Lk) (ho : l.out.length ≤ 1099511627776) (hi : l.inn.length ≤ 1099511627776) (hr : rightB l = false) (hl : LkR w v l) :
    Calls Try.prog 12 #[v] w fun e w' => e = .returned (.int .i64 2) ∧ Below w.heap.size w w' := by
  have := check_any w v l ho hi hl
  rw [show checkE l = 2 by simp [checkE, hr]] at this
  exact this
theorem refRight_is (b : Bool) (w : World) (v : Value) (l : Lk) (ho : l.out.length ≤ 1099511627776) (hi : l.inn.length ≤ 1099511627776) (hr : rightB l = b) (hl : LkR w v l) :
    Calls Try.prog 13 #[v] w fun e w' => e = .returned (.bool b) ∧ Below w.heap.size w w' := by
  have := refRight_any w v l ho hi hl
  rw [hr] at this
  exact this
theorem newR_len (n : Int) : (newR n).1.out.length ≤ 64 ∧ (newR n).1.inn.length ≤ 64 := by
  unfold newR
  split
  · rename_i h
    unfold nodesB at h
    simp at h
    simp [newL]
    omega
  · simp [noL]

set_option maxHeartbeats 1000000 in
theorem makes_big (w : World) (nn i a1 a2 b1 b2 : Int) (a b : Option Addr) (n m c d : Nat) (h : (decide (n ≤ 100) && decide (m ≤ 100)) = false) :
    Calls Try.prog 3 #[.int .i64 nn, .agg #[.int .i64 i, .slice a n c, .slice b m d], .agg #[.int .i64 a1, .int .i64 a2, .int .i64 b1, .int .i64 b2]] w fun e w' => e = .returned (.bool true) ∧ Below w.heap.size w w' := by
  have H := Lib.hid h
  clear h
  go_enter Try.func3, Try.ntmps3
  go_wp2_with fail
  have kk := few_any ((w.alloc (.cells #[.int .i64 i, .slice a n c, .slice b m d] 25)).alloc (.cells #[.int .i64 a1, .int .i64 a2, .int .i64 b1, .int .i64 b2] 28)) (.int .i64 i) a b n m c d
  rw [H.out] at kk
  refine kk.mono ?_
  clear kk
  rintro e W1 ⟨rfl, hB1⟩
  have g0 : Below w.heap.size w ((w.alloc (.cells #[.int .i64 i, .slice a n c, .slice b m d] 25)).alloc (.cells #[.int .i64 a1, .int .i64 a2, .int .i64 b1, .int .i64 b2] 28)) := by (repeat (first | (with_reducible exact Below.refl _ _) | (with_reducible assumption) | (with_reducible refine below_drewN ?_ _) | (with_reducible refine Below.drew ?_) | ((with_reducible refine Below.alloc ?_ ?_ _); rotate_left; focus (first | (with_reducible exact Nat.le_refl _) | omega | (simp; done) | (simp; omega))) | ((with_reducible refine Below.setCell (p := ⟨_, _, _⟩) ?_ ?_ _); rotate_left; focus (first | (with_reducible exact Nat.le_refl _) | omega | (simp; done) | (simp; omega)))))
  have g1 := g0.trans (hB1.mono g0.size)
  go_wp2_with fail
  refine (works_any W1).mono ?_
  rintro e W2 ⟨rfl, hB2⟩
  have g2 := g1.trans (hB2.mono g1.size)
  go_wp2
  go_ret
  exact ⟨rfl, g2⟩

set_option maxRecDepth 100000 in
set_option maxHeartbeats 8000000 in
theorem makes_ff (w : World) (v : Value) (l : Lk) (a1 a2 b1 b2 : Int) (nn : Int) (hn : nodesB nn = false) (ho : l.out.length ≤ 100) (hi : l.inn.length ≤ 100) (hr : rightB l = false) (hl : LkR w v l) :
    Calls Try.prog 3 #[.int .i64 nn, v, .agg #[.int .i64 a1, .int .i64 a2, .int .i64 b1, .int .i64 b2]] w fun e w' => e = .returned (.bool true) ∧ Below w.heap.size w w' := by
  have L0 := Lib.hid hl
  have HO := Lib.hid (show l.out.length ≤ 1099511627776 by omega)
  have HI := Lib.hid (show l.inn.length ≤ 1099511627776 by omega)
  have HF := Lib.hid (show (decide (l.out.length ≤ 100) && decide (l.inn.length ≤ 100)) = true by simp; omega)
  have hnn := hn
  obtain ⟨o, hO⟩ : ∃ o, o = ordS (a1, a2) (b1, b2) := ⟨_, rfl⟩
  have OA : ∀ W : World, Calls Try.prog 14 #[.agg #[.int .i64 a1, .int .i64 a2], .agg #[.int .i64 b1, .int .i64 b2]] W fun e w' => e = .returned (.int .i64 o) ∧ Below W.heap.size W w' := fun W => by rw [hO]; exact order_any a1 a2 b1 b2 W
  have OB : ∀ W : World, Calls Try.prog 15 #[.agg #[.int .i64 a1, .int .i64 a2], .agg #[.int .i64 b1, .int .i64 b2]] W fun e w' => e = .returned (.int .i64 o) ∧ Below W.heap.size W w' := fun W => by rw [hO]; exact refOrder_any a1 a2 b1 b2 W
  have OA := Lib.hid OA
  have OB := Lib.hid OB
  have NW : ∀ W : World, Calls Try.prog 10 #[.int .i64 nn] W (RestartPost W (noL, 2)) := fun W => by
    have := new_any W nn
    unfold newR at this
    rw [if_neg (by rw [hnn]; decide)] at this
    exact this
  have NW := Lib.hid NW
  have HN := Lib.hid hnn
  obtain ⟨s1, s2, rfl, h1, h2⟩ := hl
  obtain ⟨a0, ca0, rfl⟩ := h1.shape
  obtain ⟨d0, cb0, rfl⟩ := h2.shape
  have CK := Lib.hid (fun (W : World) (h : LkR W (.agg #[.int .i64 l.inc, .slice a0 l.out.length ca0, .slice d0 l.inn.length cb0]) l) => check_bad W _ l HO.out HI.out hr h)
  have CR := Lib.hid (fun (W : World) (h : LkR W (.agg #[.int .i64 l.inc, .slice a0 l.out.length ca0, .slice d0 l.inn.length cb0]) l) => refRight_is false W _ l HO.out HI.out hr h)
  have HX1 := Lib.hid (show noL.out.length ≤ 1099511627776 by simp [noL])
  have HX2 := Lib.hid (show noL.inn.length ≤ 1099511627776 by simp [noL])
  skip
  clear hO h1 h2 ho hi hr hnn hn
  go_enter Try.func3, Try.ntmps3
  go_wp2_with fail
  obtain ⟨V0, hV0⟩ : ∃ V, V = (w.alloc (.cells #[.int .i64 l.inc, .slice a0 l.out.length ca0, .slice d0 l.inn.length cb0] 25)).alloc (.cells #[.int .i64 a1, .int .i64 a2, .int .i64 b1, .int .i64 b2] 28) := ⟨_, rfl⟩
  rw [← hV0]
  have E : Below w.heap.size w V0 := by rw [hV0]; (repeat (first | (with_reducible exact Below.refl _ _) | (with_reducible assumption) | (with_reducible refine below_drewN ?_ _) | (with_reducible refine Below.drew ?_) | ((with_reducible refine Below.alloc ?_ ?_ _); rotate_left; focus (first | (with_reducible exact Nat.le_refl _) | omega | (simp; done) | (simp; omega))) | ((with_reducible refine Below.setCell (p := ⟨_, _, _⟩) ?_ ?_ _); rotate_left; focus (first | (with_reducible exact Nat.le_refl _) | omega | (simp; done) | (simp; omega)))))
  have b4 := Lib.hid (by have := blk_old (.cells #[.int .i64 a1, .int .i64 a2, .int .i64 b1, .int .i64 b2] 28) (blk_new w (.cells #[.int .i64 l.inc, .slice a0 l.out.length ca0, .slice d0 l.inn.length cb0] 25)); rw [← hV0] at this; exact this)
  have b5 := Lib.hid (by have := (show ((w.alloc (.cells #[.int .i64 l.inc, .slice a0 l.out.length ca0, .slice d0 l.inn.length cb0] 25)).alloc (.cells #[.int .i64 a1, .int .i64 a2, .int .i64 b1, .int .i64 b2] 28)).heap[w.heap.size + 1]? = some (.cells #[.int .i64 a1, .int .i64 a2, .int .i64 b1, .int .i64 b2] 28) from by have := blk_new (w.alloc (.cells #[.int .i64 l.inc, .slice a0 l.out.length ca0, .slice d0 l.inn.length cb0] 25)) (.cells #[.int .i64 a1, .int .i64 a2, .int .i64 b1, .int .i64 b2] 28); rw [World.size_alloc] at this; exact this); rw [← hV0] at this; exact this)
  have HL := Lib.hid (LkR.below L0.out E)
  clear hV0 L0
  have kk := few_any V0 (.int .i64 l.inc) a0 d0 l.out.length l.inn.length ca0 cb0
  rw [HF.out] at kk
  refine kk.mono ?_
  clear kk
  rintro e W1 ⟨rfl, hB1⟩
  have HL := Lib.hid (LkR.below HL.out hB1)
  have b4 := Lib.hid (blk_keep b4.out hB1)
  have b5 := Lib.hid (blk_keep b5.out hB1)
  have E1 := E.trans (hB1.mono E.size)
  clear hB1
  go_wp2_with fail
  refine (NW.out W1).mono ?_
  rintro e W2 ⟨r, rfl, hOw, hB2⟩
  obtain ⟨sa, sb, rfl, oa, ob⟩ := hOw
  obtain ⟨ax, cax, rfl⟩ := owns_shape oa
  obtain ⟨dx, cbx, rfl⟩ := owns_shape ob
  have LX := Lib.hid (LkOwn.reads (l := noL) ⟨_, _, rfl, oa, ob⟩)
  clear oa ob
  have hs2 := hB2.size
  go_wp2_with fail
  obtain ⟨V2, hV2⟩ : ∃ V, V = W2.alloc (.cells #[.int .i64 noL.inc, .slice ax noL.out.length cax, .slice dx noL.inn.length cbx] 25) := ⟨_, rfl⟩
  rw [← hV2]
  have f2 : Below W2.heap.size W2 V2 := by rw [hV2]; (repeat (first | (with_reducible exact Below.refl _ _) | (with_reducible assumption) | (with_reducible refine below_drewN ?_ _) | (with_reducible refine Below.drew ?_) | ((with_reducible refine Below.alloc ?_ ?_ _); rotate_left; focus (first | (with_reducible exact Nat.le_refl _) | omega | (simp; done) | (simp; omega))) | ((with_reducible refine Below.setCell (p := ⟨_, _, _⟩) ?_ ?_ _); rotate_left; focus (first | (with_reducible exact Nat.le_refl _) | omega | (simp; done) | (simp; omega)))))
  have g2 : Below W1.heap.size W1 V2 := hB2.trans (f2.mono hs2)
  have b7 := Lib.hid (by have := blk_new W2 (.cells #[.int .i64 noL.inc, .slice ax noL.out.length cax, .slice dx noL.inn.length cbx] 25); rw [← hV2] at this; exact this)
  have dr : Below V2.heap.size V2 V2.drew := Below.drew (Below.refl _ _)
  have b4 := Lib.hid (blk_keep b4.out g2)
  have b5 := Lib.hid (blk_keep b5.out g2)
  have p4 := cells3 b4.out
  have p5 := cells4 b5.out
  have b4 := Lib.hid (blk_keep b4.out dr)
  have b5 := Lib.hid (blk_keep b5.out dr)
  have b7 := Lib.hid (blk_keep b7.out dr)
  have HL := Lib.hid (LkR.below (LkR.below HL.out g2) dr)
  have LX := Lib.hid (LkR.below (LkR.below LX.out f2) dr)
  have E := Below.drew (E1.trans (g2.mono E1.size))
  have ES := Lib.hid E
  obtain ⟨Z, hZ⟩ : ∃ Z, Z = W2.heap.size := ⟨_, rfl⟩
  rw [← hZ] at b7 ⊢
  clear hV2 f2 g2 dr E E1 hB2 hs2 hZ
  go_region_held3 (fun w' => w'.cell? ⟨w.heap.size, 0, none⟩ = some (.int .i64 l.inc) ∧ w'.cell? ⟨w.heap.size, 1, none⟩ = some (.slice a0 l.out.length ca0) ∧ w'.cell? ⟨w.heap.size, 2, none⟩ = some (.slice d0 l.inn.length cb0) ∧ w'.cell? ⟨w.heap.size + 1, 0, none⟩ = some (.int .i64 a1) ∧ w'.cell? ⟨w.heap.size + 1, 1, none⟩ = some (.int .i64 a2) ∧ w'.cell? ⟨w.heap.size + 1, 2, none⟩ = some (.int .i64 b1) ∧ w'.cell? ⟨w.heap.size + 1, 3, none⟩ = some (.int .i64 b2)) (go_keep)
    (first
      | (go_at_call 12
         refine (CK.out _ HL.out).mono ?_
         rintro e W' ⟨rfl, hB⟩
         have HL := Lib.hid (LkR.below HL.out hB)
         have LX := Lib.hid (LkR.below LX.out hB)
         have b4 := Lib.hid (blk_keep b4.out hB)
         have b5 := Lib.hid (blk_keep b5.out hB)
         have b7 := Lib.hid (blk_keep b7.out hB)
         have p4 := cells3 b4.out
         have p5 := cells4 b5.out
         have ES := Lib.hid (ES.out.trans (hB.mono ES.out.size))
         clear hB)
      | (go_at_call 13
         refine (CR.out _ HL.out).mono ?_
         rintro e W' ⟨rfl, hB⟩
         have HL := Lib.hid (LkR.below HL.out hB)
         have LX := Lib.hid (LkR.below LX.out hB)
         have b4 := Lib.hid (blk_keep b4.out hB)
         have b5 := Lib.hid (blk_keep b5.out hB)
         have b7 := Lib.hid (blk_keep b7.out hB)
         have p4 := cells3 b4.out
         have p5 := cells4 b5.out
         have ES := Lib.hid (ES.out.trans (hB.mono ES.out.size))
         clear hB)
      | (go_at_call 14
         refine (OA.out _).mono ?_
         rintro e W' ⟨rfl, hB⟩
         have HL := Lib.hid (LkR.below HL.out hB)
         have LX := Lib.hid (LkR.below LX.out hB)
         have b4 := Lib.hid (blk_keep b4.out hB)
         have b5 := Lib.hid (blk_keep b5.out hB)
         have b7 := Lib.hid (blk_keep b7.out hB)
         have p4 := cells3 b4.out
         have p5 := cells4 b5.out
         have ES := Lib.hid (ES.out.trans (hB.mono ES.out.size))
         clear hB)
      | (go_at_call 15
         refine (OB.out _).mono ?_
         rintro e W' ⟨rfl, hB⟩
         have HL := Lib.hid (LkR.below HL.out hB)
         have LX := Lib.hid (LkR.below LX.out hB)
         have b4 := Lib.hid (blk_keep b4.out hB)
         have b5 := Lib.hid (blk_keep b5.out hB)
         have b7 := Lib.hid (blk_keep b7.out hB)
         have p4 := cells3 b4.out
         have p5 := cells4 b5.out
         have ES := Lib.hid (ES.out.trans (hB.mono ES.out.size))
         clear hB)
      | (go_at_call 11; refine (num_any _ _).mono ?_; rintro e w' ⟨rfl, rfl⟩))
  all_goals
    clear p4 p5
    have p7 := cells3 b7.out
    go_wp2_with (go_at_call 16; refine (nodes_any _ _).mono ?_; rintro e w' ⟨rfl, rfl⟩; rw [HN.out])
    refine (same_any _ _ _ noL noL HX1.out HX2.out LX.out (noL_reads _)).mono ?_
    rintro e W6 ⟨rfl, hB⟩
    rw [sameB_refl]
    have ES := Lib.hid (ES.out.trans (hB.mono ES.out.size))
    clear p7 hB
    go_wp2_with (go_at_call 11; refine (num_any _ _).mono ?_; rintro e w' ⟨rfl, rfl⟩)
    refine (works_any _).mono ?_
    rintro e W7 ⟨rfl, hB⟩
    have ES := Lib.hid (ES.out.trans (hB.mono ES.out.size))
    clear hB
    go_wp2
    go_light
    go_ret
    exact ⟨rfl, ES.out⟩

set_option maxRecDepth 100000 in
set_option maxHeartbeats 8000000 in
theorem makes_tf (w : World) (v : Value) (l : Lk) (a1 a2 b1 b2 : Int) (nn : Int) (hn : nodesB nn = false) (ho : l.out.length ≤ 100) (hi : l.inn.length ≤ 100) (hr : rightB l = true) (hl : LkR w v l) :
    Calls Try.prog 3 #[.int .i64 nn, v, .agg #[.int .i64 a1, .int .i64 a2, .int .i64 b1, .int .i64 b2]] w fun e w' => e = .returned (.bool true) ∧ Below w.heap.size w w' := by
  have L0 := Lib.hid hl
  have HO := Lib.hid (show l.out.length ≤ 1099511627776 by omega)
  have HI := Lib.hid (show l.inn.length ≤ 1099511627776 by omega)
  have HF := Lib.hid (show (decide (l.out.length ≤ 100) && decide (l.inn.length ≤ 100)) = true by simp; omega)
  have hnn := hn
  obtain ⟨o, hO⟩ : ∃ o, o = ordS (a1, a2) (b1, b2) := ⟨_, rfl⟩
  have OA : ∀ W : World, Calls Try.prog 14 #[.agg #[.int .i64 a1, .int .i64 a2], .agg #[.int .i64 b1, .int .i64 b2]] W fun e w' => e = .returned (.int .i64 o) ∧ Below W.heap.size W w' := fun W => by rw [hO]; exact order_any a1 a2 b1 b2 W
  have OB : ∀ W : World, Calls Try.prog 15 #[.agg #[.int .i64 a1, .int .i64 a2], .agg #[.int .i64 b1, .int .i64 b2]] W fun e w' => e = .returned (.int .i64 o) ∧ Below W.heap.size W w' := fun W => by rw [hO]; exact refOrder_any a1 a2 b1 b2 W
  have OA := Lib.hid OA
  have OB := Lib.hid OB
  have NW : ∀ W : World, Calls Try.prog 10 #[.int .i64 nn] W (RestartPost W (noL, 2)) := fun W => by
    have := new_any W nn
    unfold newR at this
    rw [if_neg (by rw [hnn]; decide)] at this
    exact this
  have NW := Lib.hid NW
  have HN := Lib.hid hnn
  obtain ⟨s1, s2, rfl, h1, h2⟩ := hl
  obtain ⟨a0, ca0, rfl⟩ := h1.shape
  obtain ⟨d0, cb0, rfl⟩ := h2.shape
  have CK := Lib.hid (fun (W : World) (h : LkR W (.agg #[.int .i64 l.inc, .slice a0 l.out.length ca0, .slice d0 l.inn.length cb0]) l) => check_good W _ l HO.out HI.out hr h)
  have CR := Lib.hid (fun (W : World) (h : LkR W (.agg #[.int .i64 l.inc, .slice a0 l.out.length ca0, .slice d0 l.inn.length cb0]) l) => refRight_is true W _ l HO.out HI.out hr h)
  have HX1 := Lib.hid (show noL.out.length ≤ 1099511627776 by simp [noL])
  have HX2 := Lib.hid (show noL.inn.length ≤ 1099511627776 by simp [noL])
  skip
  clear hO h1 h2 ho hi hr hnn hn
  go_enter Try.func3, Try.ntmps3
  go_wp2_with fail
  obtain ⟨V0, hV0⟩ : ∃ V, V = (w.alloc (.cells #[.int .i64 l.inc, .slice a0 l.out.length ca0, .slice d0 l.inn.length cb0] 25)).alloc (.cells #[.int .i64 a1, .int .i64 a2, .int .i64 b1, .int .i64 b2] 28) := ⟨_, rfl⟩
  rw [← hV0]
  have E : Below w.heap.size w V0 := by rw [hV0]; (repeat (first | (with_reducible exact Below.refl _ _) | (with_reducible assumption) | (with_reducible refine below_drewN ?_ _) | (with_reducible refine Below.drew ?_) | ((with_reducible refine Below.alloc ?_ ?_ _); rotate_left; focus (first | (with_reducible exact Nat.le_refl _) | omega | (simp; done) | (simp; omega))) | ((with_reducible refine Below.setCell (p := ⟨_, _, _⟩) ?_ ?_ _); rotate_left; focus (first | (with_reducible exact Nat.le_refl _) | omega | (simp; done) | (simp; omega)))))
  have b4 := Lib.hid (by have := blk_old (.cells #[.int .i64 a1, .int .i64 a2, .int .i64 b1, .int .i64 b2] 28) (blk_new w (.cells #[.int .i64 l.inc, .slice a0 l.out.length ca0, .slice d0 l.inn.length cb0] 25)); rw [← hV0] at this; exact this)
  have b5 := Lib.hid (by have := (show ((w.alloc (.cells #[.int .i64 l.inc, .slice a0 l.out.length ca0, .slice d0 l.inn.length cb0] 25)).alloc (.cells #[.int .i64 a1, .int .i64 a2, .int .i64 b1, .int .i64 b2] 28)).heap[w.heap.size + 1]? = some (.cells #[.int .i64 a1, .int .i64 a2, .int .i64 b1, .int .i64 b2] 28) from by have := blk_new (w.alloc (.cells #[.int .i64 l.inc, .slice a0 l.out.length ca0, .slice d0 l.inn.length cb0] 25)) (.cells #[.int .i64 a1, .int .i64 a2, .int .i64 b1, .int .i64 b2] 28); rw [World.size_alloc] at this; exact this); rw [← hV0] at this; exact this)
  have HL := Lib.hid (LkR.below L0.out E)
  clear hV0 L0
  have kk := few_any V0 (.int .i64 l.inc) a0 d0 l.out.length l.inn.length ca0 cb0
  rw [HF.out] at kk
  refine kk.mono ?_
  clear kk
  rintro e W1 ⟨rfl, hB1⟩
  have HL := Lib.hid (LkR.below HL.out hB1)
  have b4 := Lib.hid (blk_keep b4.out hB1)
  have b5 := Lib.hid (blk_keep b5.out hB1)
  have E1 := E.trans (hB1.mono E.size)
  clear hB1
  go_wp2_with fail
  refine (NW.out W1).mono ?_
  rintro e W2 ⟨r, rfl, hOw, hB2⟩
  obtain ⟨sa, sb, rfl, oa, ob⟩ := hOw
  obtain ⟨ax, cax, rfl⟩ := owns_shape oa
  obtain ⟨dx, cbx, rfl⟩ := owns_shape ob
  have LX := Lib.hid (LkOwn.reads (l := noL) ⟨_, _, rfl, oa, ob⟩)
  clear oa ob
  have hs2 := hB2.size
  go_wp2_with fail
  obtain ⟨V2, hV2⟩ : ∃ V, V = W2.alloc (.cells #[.int .i64 noL.inc, .slice ax noL.out.length cax, .slice dx noL.inn.length cbx] 25) := ⟨_, rfl⟩
  rw [← hV2]
  have f2 : Below W2.heap.size W2 V2 := by rw [hV2]; (repeat (first | (with_reducible exact Below.refl _ _) | (with_reducible assumption) | (with_reducible refine below_drewN ?_ _) | (with_reducible refine Below.drew ?_) | ((with_reducible refine Below.alloc ?_ ?_ _); rotate_left; focus (first | (with_reducible exact Nat.le_refl _) | omega | (simp; done) | (simp; omega))) | ((with_reducible refine Below.setCell (p := ⟨_, _, _⟩) ?_ ?_ _); rotate_left; focus (first | (with_reducible exact Nat.le_refl _) | omega | (simp; done) | (simp; omega)))))
  have g2 : Below W1.heap.size W1 V2 := hB2.trans (f2.mono hs2)
  have b7 := Lib.hid (by have := blk_new W2 (.cells #[.int .i64 noL.inc, .slice ax noL.out.length cax, .slice dx noL.inn.length cbx] 25); rw [← hV2] at this; exact this)
  have dr : Below V2.heap.size V2 V2.drew := Below.drew (Below.refl _ _)
  have b4 := Lib.hid (blk_keep b4.out g2)
  have b5 := Lib.hid (blk_keep b5.out g2)
  have p4 := cells3 b4.out
  have p5 := cells4 b5.out
  have b4 := Lib.hid (blk_keep b4.out dr)
  have b5 := Lib.hid (blk_keep b5.out dr)
  have b7 := Lib.hid (blk_keep b7.out dr)
  have HL := Lib.hid (LkR.below (LkR.below HL.out g2) dr)
  have LX := Lib.hid (LkR.below (LkR.below LX.out f2) dr)
  have E := Below.drew (E1.trans (g2.mono E1.size))
  have ES := Lib.hid E
  obtain ⟨Z, hZ⟩ : ∃ Z, Z = W2.heap.size := ⟨_, rfl⟩
  rw [← hZ] at b7 ⊢
  clear hV2 f2 g2 dr E E1 hB2 hs2 hZ
  refine wp_region_held_drew (S := fun w' => w'.cell? ⟨w.heap.size, 0, none⟩ = some (.int .i64 l.inc) ∧ w'.cell? ⟨w.heap.size, 1, none⟩ = some (.slice a0 l.out.length ca0) ∧ w'.cell? ⟨w.heap.size, 2, none⟩ = some (.slice d0 l.inn.length cb0) ∧ w'.cell? ⟨w.heap.size + 1, 0, none⟩ = some (.int .i64 a1) ∧ w'.cell? ⟨w.heap.size + 1, 1, none⟩ = some (.int .i64 a2) ∧ w'.cell? ⟨w.heap.size + 1, 2, none⟩ = some (.int .i64 b1) ∧ w'.cell? ⟨w.heap.size + 1, 3, none⟩ = some (.int .i64 b2)) (by kernel_rfl) (by go_keep) (fun hHeld => ?_)
  refine held_take (i := 0) (d := 18) (v := .agg #[.int .i64 l.inc, .slice a0 l.out.length ca0, .slice d0 l.inn.length cb0]) (by kernel_rfl) (by kernel_rfl) (by kernel_rfl) (by kernel_rfl) (fun _ _ _ h => h) ?_ (by assumption) ?_
  · intro oi ho
    simp at ho
    subst ho
    refine ⟨by rfl, fun w hSw => ?_⟩
    (try dsimp only at hSw)
    go_simp
  simp only [Act.put, List.setIfInBounds_toArray, List.set_cons_zero, List.set_cons_succ]
  refine held_call (i := 1) (by kernel_rfl) (by kernel_rfl) ?_
  intro oi ho
  simp at ho
  subst ho
  intro K' hK
  go_simp
  refine (CK.out _ HL.out).mono ?_
  rintro e W' ⟨rfl, hB⟩
  have HL := Lib.hid (LkR.below HL.out hB)
  have LX := Lib.hid (LkR.below LX.out hB)
  have b4 := Lib.hid (blk_keep b4.out hB)
  have b5 := Lib.hid (blk_keep b5.out hB)
  have b7 := Lib.hid (blk_keep b7.out hB)
  have p4 := cells3 b4.out
  have p5 := cells4 b5.out
  have ES := Lib.hid (ES.out.trans (hB.mono ES.out.size))
  clear hB
  try go_simp
  refine hK.out _ _ ?_ (fun hHeld => ?_)
  · go_keep
  try simp only [Act.put, List.setIfInBounds_toArray, List.set_cons_zero, List.set_cons_succ]
  clear hK K'
  refine held_call (i := 2) (by kernel_rfl) (by kernel_rfl) ?_
  intro oi ho
  simp at ho
  subst ho
  intro K' hK
  go_simp
  refine (num_any _ _).mono ?_
  rintro e w' ⟨rfl, rfl⟩
  try go_simp
  refine hK.out _ _ ?_ (fun hHeld => ?_)
  · go_keep
  try simp only [Act.put, List.setIfInBounds_toArray, List.set_cons_zero, List.set_cons_succ]
  clear hK K'
  refine held_take (i := 3) (d := 21) (v := .bool false) (by kernel_rfl) (by kernel_rfl) (by kernel_rfl) (by kernel_rfl) (fun _ _ _ h => h) ?_ (by assumption) ?_
  · intro oi ho
    simp at ho
    subst ho
    refine ⟨by rfl, fun w hSw => ?_⟩
    (try dsimp only at hSw)
    go_simp
  simp only [Act.put, List.setIfInBounds_toArray, List.set_cons_zero, List.set_cons_succ]
  refine held_take (i := 4) (d := 22) (v := .bool false) (by kernel_rfl) (by kernel_rfl) (by kernel_rfl) (by kernel_rfl) (fun _ _ _ h => h) ?_ (by assumption) ?_
  · intro oi ho
    simp at ho
    subst ho
    refine ⟨by rfl, fun w hSw => ?_⟩
    (try dsimp only at hSw)
    go_simp
  simp only [Act.put, List.setIfInBounds_toArray, List.set_cons_zero, List.set_cons_succ]
  refine held_skip (i := 5) (d := 23) (by kernel_rfl) (by kernel_rfl) (by kernel_rfl) (by kernel_rfl) (fun _ _ _ h => h) ?_ (by assumption) ?_
  · intro oi ho
    simp at ho
    subst ho
    rfl
  simp only [Act.put, List.setIfInBounds_toArray, List.set_cons_zero, List.set_cons_succ]
  refine held_skip (i := 6) (d := 24) (by kernel_rfl) (by kernel_rfl) (by kernel_rfl) (by kernel_rfl) (fun _ _ _ h => h) ?_ (by assumption) ?_
  · intro oi ho
    simp at ho
    subst ho
    rfl
  simp only [Act.put, List.setIfInBounds_toArray, List.set_cons_zero, List.set_cons_succ]
  refine held_skip (i := 7) (d := 25) (by kernel_rfl) (by kernel_rfl) (by kernel_rfl) (by kernel_rfl) (fun _ _ _ h => h) ?_ (by assumption) ?_
  · intro oi ho
    simp at ho
    subst ho
    rfl
  simp only [Act.put, List.setIfInBounds_toArray, List.set_cons_zero, List.set_cons_succ]
  refine held_skip (i := 8) (d := 26) (by kernel_rfl) (by kernel_rfl) (by kernel_rfl) (by kernel_rfl) (fun _ _ _ h => h) ?_ (by assumption) ?_
  · intro oi ho
    simp at ho
    subst ho
    rfl
  simp only [Act.put, List.setIfInBounds_toArray, List.set_cons_zero, List.set_cons_succ]
  refine held_take (i := 9) (d := 27) (v := .bool false) (by kernel_rfl) (by kernel_rfl) (by kernel_rfl) (by kernel_rfl) (fun _ _ _ h => h) ?_ (by assumption) ?_
  · intro oi ho
    simp at ho
    subst ho
    refine ⟨by rfl, fun w hSw => ?_⟩
    (try dsimp only at hSw)
    go_simp
  simp only [Act.put, List.setIfInBounds_toArray, List.set_cons_zero, List.set_cons_succ]
  refine held_take (i := 10) (d := 28) (v := .bool false) (by kernel_rfl) (by kernel_rfl) (by kernel_rfl) (by kernel_rfl) (fun _ _ _ h => h) ?_ (by assumption) ?_
  · intro oi ho
    simp at ho
    subst ho
    refine ⟨by rfl, fun w hSw => ?_⟩
    (try dsimp only at hSw)
    go_simp
  simp only [Act.put, List.setIfInBounds_toArray, List.set_cons_zero, List.set_cons_succ]
  refine held_take (i := 11) (d := 29) (v := .agg #[.int .i64 l.inc, .slice a0 l.out.length ca0, .slice d0 l.inn.length cb0]) (by kernel_rfl) (by kernel_rfl) (by kernel_rfl) (by kernel_rfl) (fun _ _ _ h => h) ?_ (by assumption) ?_
  · intro oi ho
    simp at ho
    subst ho
    refine ⟨by rfl, fun w hSw => ?_⟩
    (try dsimp only at hSw)
    go_simp
  simp only [Act.put, List.setIfInBounds_toArray, List.set_cons_zero, List.set_cons_succ]
  refine held_take (i := 15) (d := 33) (v := .agg #[.int .i64 l.inc, .slice a0 l.out.length ca0, .slice d0 l.inn.length cb0]) (by kernel_rfl) (by kernel_rfl) (by kernel_rfl) (by kernel_rfl) (fun _ _ _ h => h) ?_ (by assumption) ?_
  · intro oi ho
    simp at ho
    subst ho
    refine ⟨by rfl, fun w hSw => ?_⟩
    (try dsimp only at hSw)
    go_simp
  simp only [Act.put, List.setIfInBounds_toArray, List.set_cons_zero, List.set_cons_succ]
  refine held_call (i := 12) (by kernel_rfl) (by kernel_rfl) ?_
  intro oi ho
  simp at ho
  subst ho
  intro K' hK
  go_simp
  refine (CK.out _ HL.out).mono ?_
  rintro e W' ⟨rfl, hB⟩
  have HL := Lib.hid (LkR.below HL.out hB)
  have LX := Lib.hid (LkR.below LX.out hB)
  have b4 := Lib.hid (blk_keep b4.out hB)
  have b5 := Lib.hid (blk_keep b5.out hB)
  have b7 := Lib.hid (blk_keep b7.out hB)
  have p4 := cells3 b4.out
  have p5 := cells4 b5.out
  have ES := Lib.hid (ES.out.trans (hB.mono ES.out.size))
  clear hB
  try go_simp
  refine hK.out _ _ ?_ (fun hHeld => ?_)
  · go_keep
  try simp only [Act.put, List.setIfInBounds_toArray, List.set_cons_zero, List.set_cons_succ]
  clear hK K'
  refine held_call (i := 13) (by kernel_rfl) (by kernel_rfl) ?_
  intro oi ho
  simp at ho
  subst ho
  intro K' hK
  go_simp
  refine (num_any _ _).mono ?_
  rintro e w' ⟨rfl, rfl⟩
  try go_simp
  refine hK.out _ _ ?_ (fun hHeld => ?_)
  · go_keep
  try simp only [Act.put, List.setIfInBounds_toArray, List.set_cons_zero, List.set_cons_succ]
  clear hK K'
  refine held_take (i := 14) (d := 32) (v := .bool true) (by kernel_rfl) (by kernel_rfl) (by kernel_rfl) (by kernel_rfl) (fun _ _ _ h => h) ?_ (by assumption) ?_
  · intro oi ho
    simp at ho
    subst ho
    refine ⟨by rfl, fun w hSw => ?_⟩
    (try dsimp only at hSw)
    go_simp
  simp only [Act.put, List.setIfInBounds_toArray, List.set_cons_zero, List.set_cons_succ]
  refine held_call (i := 16) (by kernel_rfl) (by kernel_rfl) ?_
  intro oi ho
  simp at ho
  subst ho
  intro K' hK
  go_simp
  refine (CR.out _ HL.out).mono ?_
  rintro e W' ⟨rfl, hB⟩
  have HL := Lib.hid (LkR.below HL.out hB)
  have LX := Lib.hid (LkR.below LX.out hB)
  have b4 := Lib.hid (blk_keep b4.out hB)
  have b5 := Lib.hid (blk_keep b5.out hB)
  have b7 := Lib.hid (blk_keep b7.out hB)
  have p4 := cells3 b4.out
  have p5 := cells4 b5.out
  have ES := Lib.hid (ES.out.trans (hB.mono ES.out.size))
  clear hB
  try go_simp
  refine hK.out _ _ ?_ (fun hHeld => ?_)
  · go_keep
  try simp only [Act.put, List.setIfInBounds_toArray, List.set_cons_zero, List.set_cons_succ]
  clear hK K'
  refine held_take (i := 17) (d := 35) (v := .bool false) (by kernel_rfl) (by kernel_rfl) (by kernel_rfl) (by kernel_rfl) (fun _ _ _ h => h) ?_ (by assumption) ?_
  · intro oi ho
    simp at ho
    subst ho
    refine ⟨by rfl, fun w hSw => ?_⟩
    (try dsimp only at hSw)
    go_simp
  simp only [Act.put, List.setIfInBounds_toArray, List.set_cons_zero, List.set_cons_succ]
  refine held_take (i := 18) (d := 36) (v := .bool false) (by kernel_rfl) (by kernel_rfl) (by kernel_rfl) (by kernel_rfl) (fun _ _ _ h => h) ?_ (by assumption) ?_
  · intro oi ho
    simp at ho
    subst ho
    refine ⟨by rfl, fun w hSw => ?_⟩
    (try dsimp only at hSw)
    go_simp
  simp only [Act.put, List.setIfInBounds_toArray, List.set_cons_zero, List.set_cons_succ]
  refine held_take (i := 19) (d := 37) (v := .bool false) (by kernel_rfl) (by kernel_rfl) (by kernel_rfl) (by kernel_rfl) (fun _ _ _ h => h) ?_ (by assumption) ?_
  · intro oi ho
    simp at ho
    subst ho
    refine ⟨by rfl, fun w hSw => ?_⟩
    (try dsimp only at hSw)
    go_simp
  simp only [Act.put, List.setIfInBounds_toArray, List.set_cons_zero, List.set_cons_succ]
  refine held_take (i := 20) (d := 38) (v := .pointer (some ⟨w.heap.size + 1, 0, none⟩)) (by kernel_rfl) (by kernel_rfl) (by kernel_rfl) (by kernel_rfl) (fun _ _ _ h => h) ?_ (by assumption) ?_
  · intro oi ho
    simp at ho
    subst ho
    refine ⟨by rfl, fun w hSw => ?_⟩
    (try dsimp only at hSw)
    go_simp
  simp only [Act.put, List.setIfInBounds_toArray, List.set_cons_zero, List.set_cons_succ]
  refine held_take (i := 22) (d := 40) (v := .pointer (some ⟨w.heap.size + 1, 2, none⟩)) (by kernel_rfl) (by kernel_rfl) (by kernel_rfl) (by kernel_rfl) (fun _ _ _ h => h) ?_ (by assumption) ?_
  · intro oi ho
    simp at ho
    subst ho
    refine ⟨by rfl, fun w hSw => ?_⟩
    (try dsimp only at hSw)
    go_simp
  simp only [Act.put, List.setIfInBounds_toArray, List.set_cons_zero, List.set_cons_succ]
  refine held_take (i := 25) (d := 43) (v := .pointer (some ⟨w.heap.size + 1, 0, none⟩)) (by kernel_rfl) (by kernel_rfl) (by kernel_rfl) (by kernel_rfl) (fun _ _ _ h => h) ?_ (by assumption) ?_
  · intro oi ho
    simp at ho
    subst ho
    refine ⟨by rfl, fun w hSw => ?_⟩
    (try dsimp only at hSw)
    go_simp
  simp only [Act.put, List.setIfInBounds_toArray, List.set_cons_zero, List.set_cons_succ]
  refine held_take (i := 27) (d := 45) (v := .pointer (some ⟨w.heap.size + 1, 2, none⟩)) (by kernel_rfl) (by kernel_rfl) (by kernel_rfl) (by kernel_rfl) (fun _ _ _ h => h) ?_ (by assumption) ?_
  · intro oi ho
    simp at ho
    subst ho
    refine ⟨by rfl, fun w hSw => ?_⟩
    (try dsimp only at hSw)
    go_simp
  simp only [Act.put, List.setIfInBounds_toArray, List.set_cons_zero, List.set_cons_succ]
  refine held_take (i := 21) (d := 39) (v := .agg #[.int .i64 a1, .int .i64 a2]) (by kernel_rfl) (by kernel_rfl) (by kernel_rfl) (by kernel_rfl) (fun _ _ _ h => h) ?_ (by assumption) ?_
  · intro oi ho
    simp at ho
    subst ho
    refine ⟨by rfl, fun w hSw => ?_⟩
    (try dsimp only at hSw)
    go_simp
  simp only [Act.put, List.setIfInBounds_toArray, List.set_cons_zero, List.set_cons_succ]
  refine held_take (i := 23) (d := 41) (v := .agg #[.int .i64 b1, .int .i64 b2]) (by kernel_rfl) (by kernel_rfl) (by kernel_rfl) (by kernel_rfl) (fun _ _ _ h => h) ?_ (by assumption) ?_
  · intro oi ho
    simp at ho
    subst ho
    refine ⟨by rfl, fun w hSw => ?_⟩
    (try dsimp only at hSw)
    go_simp
  simp only [Act.put, List.setIfInBounds_toArray, List.set_cons_zero, List.set_cons_succ]
  refine held_take (i := 26) (d := 44) (v := .agg #[.int .i64 a1, .int .i64 a2]) (by kernel_rfl) (by kernel_rfl) (by kernel_rfl) (by kernel_rfl) (fun _ _ _ h => h) ?_ (by assumption) ?_
  · intro oi ho
    simp at ho
    subst ho
    refine ⟨by rfl, fun w hSw => ?_⟩
    (try dsimp only at hSw)
    go_simp
  simp only [Act.put, List.setIfInBounds_toArray, List.set_cons_zero, List.set_cons_succ]
  refine held_take (i := 28) (d := 46) (v := .agg #[.int .i64 b1, .int .i64 b2]) (by kernel_rfl) (by kernel_rfl) (by kernel_rfl) (by kernel_rfl) (fun _ _ _ h => h) ?_ (by assumption) ?_
  · intro oi ho
    simp at ho
    subst ho
    refine ⟨by rfl, fun w hSw => ?_⟩
    (try dsimp only at hSw)
    go_simp
  simp only [Act.put, List.setIfInBounds_toArray, List.set_cons_zero, List.set_cons_succ]
  refine held_call (i := 24) (by kernel_rfl) (by kernel_rfl) ?_
  intro oi ho
  simp at ho
  subst ho
  intro K' hK
  go_simp
  refine (OA.out _).mono ?_
  rintro e W' ⟨rfl, hB⟩
  have HL := Lib.hid (LkR.below HL.out hB)
  have LX := Lib.hid (LkR.below LX.out hB)
  have b4 := Lib.hid (blk_keep b4.out hB)
  have b5 := Lib.hid (blk_keep b5.out hB)
  have b7 := Lib.hid (blk_keep b7.out hB)
  have p4 := cells3 b4.out
  have p5 := cells4 b5.out
  have ES := Lib.hid (ES.out.trans (hB.mono ES.out.size))
  clear hB
  try go_simp
  refine hK.out _ _ ?_ (fun hHeld => ?_)
  · go_keep
  try simp only [Act.put, List.setIfInBounds_toArray, List.set_cons_zero, List.set_cons_succ]
  clear hK K'
  refine held_call (i := 29) (by kernel_rfl) (by kernel_rfl) ?_
  intro oi ho
  simp at ho
  subst ho
  intro K' hK
  go_simp
  refine (OB.out _).mono ?_
  rintro e W' ⟨rfl, hB⟩
  have HL := Lib.hid (LkR.below HL.out hB)
  have LX := Lib.hid (LkR.below LX.out hB)
  have b4 := Lib.hid (blk_keep b4.out hB)
  have b5 := Lib.hid (blk_keep b5.out hB)
  have b7 := Lib.hid (blk_keep b7.out hB)
  have p4 := cells3 b4.out
  have p5 := cells4 b5.out
  have ES := Lib.hid (ES.out.trans (hB.mono ES.out.size))
  clear hB
  try go_simp
  refine hK.out _ _ ?_ (fun hHeld => ?_)
  · go_keep
  try simp only [Act.put, List.setIfInBounds_toArray, List.set_cons_zero, List.set_cons_succ]
  clear hK K'
  refine held_take (i := 30) (d := 48) (v := .bool false) (by kernel_rfl) (by kernel_rfl) (by kernel_rfl) (by kernel_rfl) (fun _ _ _ h => h) ?_ (by assumption) ?_
  · intro oi ho
    simp at ho
    subst ho
    refine ⟨by rfl, fun w hSw => ?_⟩
    (try dsimp only at hSw)
    go_simp
  simp only [Act.put, List.setIfInBounds_toArray, List.set_cons_zero, List.set_cons_succ]
  refine held_take (i := 31) (d := 49) (v := .bool false) (by kernel_rfl) (by kernel_rfl) (by kernel_rfl) (by kernel_rfl) (fun _ _ _ h => h) ?_ (by assumption) ?_
  · intro oi ho
    simp at ho
    subst ho
    refine ⟨by rfl, fun w hSw => ?_⟩
    (try dsimp only at hSw)
    go_simp
  simp only [Act.put, List.setIfInBounds_toArray, List.set_cons_zero, List.set_cons_succ]
  refine wpAnyH_done (by kernel_rfl) ?_ _
  all_goals
    clear p4 p5
    have p7 := cells3 b7.out
    go_wp2_with (go_at_call 16; refine (nodes_any _ _).mono ?_; rintro e w' ⟨rfl, rfl⟩; rw [HN.out])
    refine (same_any _ _ _ noL noL HX1.out HX2.out LX.out (noL_reads _)).mono ?_
    rintro e W6 ⟨rfl, hB⟩
    rw [sameB_refl]
    have ES := Lib.hid (ES.out.trans (hB.mono ES.out.size))
    clear p7 hB
    go_wp2_with (go_at_call 11; refine (num_any _ _).mono ?_; rintro e w' ⟨rfl, rfl⟩)
    refine (works_any _).mono ?_
    rintro e W7 ⟨rfl, hB⟩
    have ES := Lib.hid (ES.out.trans (hB.mono ES.out.size))
    clear hB
    go_wp2
    go_light
    go_ret
    exact ⟨rfl, ES.out⟩

set_option maxRecDepth 100000 in
set_option maxHeartbeats 8000000 in
theorem makes_ft (w : World) (v : Value) (l : Lk) (a1 a2 b1 b2 : Int) (k : Nat) (hk1 : 1 ≤ k) (hk2 : k ≤ 64) (ho : l.out.length ≤ 100) (hi : l.inn.length ≤ 100) (hr : rightB l = false) (hl : LkR w v l) :
    Calls Try.prog 3 #[.int .i64 k, v, .agg #[.int .i64 a1, .int .i64 a2, .int .i64 b1, .int .i64 b2]] w fun e w' => e = .returned (.bool true) ∧ Below w.heap.size w w' := by
  have L0 := Lib.hid hl
  have HO := Lib.hid (show l.out.length ≤ 1099511627776 by omega)
  have HI := Lib.hid (show l.inn.length ≤ 1099511627776 by omega)
  have HF := Lib.hid (show (decide (l.out.length ≤ 100) && decide (l.inn.length ≤ 100)) = true by simp; omega)
  have hnn := (show nodesB (k : Int) = true by unfold nodesB; simp; omega)
  obtain ⟨o, hO⟩ : ∃ o, o = ordS (a1, a2) (b1, b2) := ⟨_, rfl⟩
  have OA : ∀ W : World, Calls Try.prog 14 #[.agg #[.int .i64 a1, .int .i64 a2], .agg #[.int .i64 b1, .int .i64 b2]] W fun e w' => e = .returned (.int .i64 o) ∧ Below W.heap.size W w' := fun W => by rw [hO]; exact order_any a1 a2 b1 b2 W
  have OB : ∀ W : World, Calls Try.prog 15 #[.agg #[.int .i64 a1, .int .i64 a2], .agg #[.int .i64 b1, .int .i64 b2]] W fun e w' => e = .returned (.int .i64 o) ∧ Below W.heap.size W w' := fun W => by rw [hO]; exact refOrder_any a1 a2 b1 b2 W
  have OA := Lib.hid OA
  have OB := Lib.hid OB
  have NW : ∀ W : World, Calls Try.prog 10 #[.int .i64 k] W (RestartPost W ((newL k), 0)) := fun W => by
    have := new_any W (k : Int)
    unfold newR at this
    rw [if_pos hnn, Int.toNat_natCast] at this
    exact this
  have NW := Lib.hid NW
  have HN := Lib.hid hnn
  obtain ⟨s1, s2, rfl, h1, h2⟩ := hl
  obtain ⟨a0, ca0, rfl⟩ := h1.shape
  obtain ⟨d0, cb0, rfl⟩ := h2.shape
  have CK := Lib.hid (fun (W : World) (h : LkR W (.agg #[.int .i64 l.inc, .slice a0 l.out.length ca0, .slice d0 l.inn.length cb0]) l) => check_bad W _ l HO.out HI.out hr h)
  have CR := Lib.hid (fun (W : World) (h : LkR W (.agg #[.int .i64 l.inc, .slice a0 l.out.length ca0, .slice d0 l.inn.length cb0]) l) => refRight_is false W _ l HO.out HI.out hr h)
  have HX1 := Lib.hid (show (newL k).out.length ≤ 1099511627776 by simp [newL]; omega)
  have HX2 := Lib.hid (show (newL k).inn.length ≤ 1099511627776 by simp [newL]; omega)
  have RN := Lib.hid (fun (W : World) => refNew_good W k hk1 hk2)
  clear hO h1 h2 ho hi hr hnn hk1 hk2
  go_enter Try.func3, Try.ntmps3
  go_wp2_with fail
  obtain ⟨V0, hV0⟩ : ∃ V, V = (w.alloc (.cells #[.int .i64 l.inc, .slice a0 l.out.length ca0, .slice d0 l.inn.length cb0] 25)).alloc (.cells #[.int .i64 a1, .int .i64 a2, .int .i64 b1, .int .i64 b2] 28) := ⟨_, rfl⟩
  rw [← hV0]
  have E : Below w.heap.size w V0 := by rw [hV0]; (repeat (first | (with_reducible exact Below.refl _ _) | (with_reducible assumption) | (with_reducible refine below_drewN ?_ _) | (with_reducible refine Below.drew ?_) | ((with_reducible refine Below.alloc ?_ ?_ _); rotate_left; focus (first | (with_reducible exact Nat.le_refl _) | omega | (simp; done) | (simp; omega))) | ((with_reducible refine Below.setCell (p := ⟨_, _, _⟩) ?_ ?_ _); rotate_left; focus (first | (with_reducible exact Nat.le_refl _) | omega | (simp; done) | (simp; omega)))))
  have b4 := Lib.hid (by have := blk_old (.cells #[.int .i64 a1, .int .i64 a2, .int .i64 b1, .int .i64 b2] 28) (blk_new w (.cells #[.int .i64 l.inc, .slice a0 l.out.length ca0, .slice d0 l.inn.length cb0] 25)); rw [← hV0] at this; exact this)
  have b5 := Lib.hid (by have := (show ((w.alloc (.cells #[.int .i64 l.inc, .slice a0 l.out.length ca0, .slice d0 l.inn.length cb0] 25)).alloc (.cells #[.int .i64 a1, .int .i64 a2, .int .i64 b1, .int .i64 b2] 28)).heap[w.heap.size + 1]? = some (.cells #[.int .i64 a1, .int .i64 a2, .int .i64 b1, .int .i64 b2] 28) from by have := blk_new (w.alloc (.cells #[.int .i64 l.inc, .slice a0 l.out.length ca0, .slice d0 l.inn.length cb0] 25)) (.cells #[.int .i64 a1, .int .i64 a2, .int .i64 b1, .int .i64 b2] 28); rw [World.size_alloc] at this; exact this); rw [← hV0] at this; exact this)
  have HL := Lib.hid (LkR.below L0.out E)
  clear hV0 L0
  have kk := few_any V0 (.int .i64 l.inc) a0 d0 l.out.length l.inn.length ca0 cb0
  rw [HF.out] at kk
  refine kk.mono ?_
  clear kk
  rintro e W1 ⟨rfl, hB1⟩
  have HL := Lib.hid (LkR.below HL.out hB1)
  have b4 := Lib.hid (blk_keep b4.out hB1)
  have b5 := Lib.hid (blk_keep b5.out hB1)
  have E1 := E.trans (hB1.mono E.size)
  clear hB1
  go_wp2_with fail
  refine (NW.out W1).mono ?_
  rintro e W2 ⟨r, rfl, hOw, hB2⟩
  obtain ⟨sa, sb, rfl, oa, ob⟩ := hOw
  obtain ⟨ax, cax, rfl⟩ := owns_shape oa
  obtain ⟨dx, cbx, rfl⟩ := owns_shape ob
  have LX := Lib.hid (LkOwn.reads (l := (newL k)) ⟨_, _, rfl, oa, ob⟩)
  clear oa ob
  have hs2 := hB2.size
  go_wp2_with fail
  obtain ⟨V2, hV2⟩ : ∃ V, V = W2.alloc (.cells #[.int .i64 (newL k).inc, .slice ax (newL k).out.length cax, .slice dx (newL k).inn.length cbx] 25) := ⟨_, rfl⟩
  rw [← hV2]
  have f2 : Below W2.heap.size W2 V2 := by rw [hV2]; (repeat (first | (with_reducible exact Below.refl _ _) | (with_reducible assumption) | (with_reducible refine below_drewN ?_ _) | (with_reducible refine Below.drew ?_) | ((with_reducible refine Below.alloc ?_ ?_ _); rotate_left; focus (first | (with_reducible exact Nat.le_refl _) | omega | (simp; done) | (simp; omega))) | ((with_reducible refine Below.setCell (p := ⟨_, _, _⟩) ?_ ?_ _); rotate_left; focus (first | (with_reducible exact Nat.le_refl _) | omega | (simp; done) | (simp; omega)))))
  have g2 : Below W1.heap.size W1 V2 := hB2.trans (f2.mono hs2)
  have b7 := Lib.hid (by have := blk_new W2 (.cells #[.int .i64 (newL k).inc, .slice ax (newL k).out.length cax, .slice dx (newL k).inn.length cbx] 25); rw [← hV2] at this; exact this)
  have dr : Below V2.heap.size V2 V2.drew := Below.drew (Below.refl _ _)
  have b4 := Lib.hid (blk_keep b4.out g2)
  have b5 := Lib.hid (blk_keep b5.out g2)
  have p4 := cells3 b4.out
  have p5 := cells4 b5.out
  have b4 := Lib.hid (blk_keep b4.out dr)
  have b5 := Lib.hid (blk_keep b5.out dr)
  have b7 := Lib.hid (blk_keep b7.out dr)
  have HL := Lib.hid (LkR.below (LkR.below HL.out g2) dr)
  have LX := Lib.hid (LkR.below (LkR.below LX.out f2) dr)
  have E := Below.drew (E1.trans (g2.mono E1.size))
  have ES := Lib.hid E
  obtain ⟨Z, hZ⟩ : ∃ Z, Z = W2.heap.size := ⟨_, rfl⟩
  rw [← hZ] at b7 ⊢
  clear hV2 f2 g2 dr E E1 hB2 hs2 hZ
  go_region_held3 (fun w' => w'.cell? ⟨w.heap.size, 0, none⟩ = some (.int .i64 l.inc) ∧ w'.cell? ⟨w.heap.size, 1, none⟩ = some (.slice a0 l.out.length ca0) ∧ w'.cell? ⟨w.heap.size, 2, none⟩ = some (.slice d0 l.inn.length cb0) ∧ w'.cell? ⟨w.heap.size + 1, 0, none⟩ = some (.int .i64 a1) ∧ w'.cell? ⟨w.heap.size + 1, 1, none⟩ = some (.int .i64 a2) ∧ w'.cell? ⟨w.heap.size + 1, 2, none⟩ = some (.int .i64 b1) ∧ w'.cell? ⟨w.heap.size + 1, 3, none⟩ = some (.int .i64 b2)) (go_keep)
    (first
      | (go_at_call 12
         refine (CK.out _ HL.out).mono ?_
         rintro e W' ⟨rfl, hB⟩
         have HL := Lib.hid (LkR.below HL.out hB)
         have LX := Lib.hid (LkR.below LX.out hB)
         have b4 := Lib.hid (blk_keep b4.out hB)
         have b5 := Lib.hid (blk_keep b5.out hB)
         have b7 := Lib.hid (blk_keep b7.out hB)
         have p4 := cells3 b4.out
         have p5 := cells4 b5.out
         have ES := Lib.hid (ES.out.trans (hB.mono ES.out.size))
         clear hB)
      | (go_at_call 13
         refine (CR.out _ HL.out).mono ?_
         rintro e W' ⟨rfl, hB⟩
         have HL := Lib.hid (LkR.below HL.out hB)
         have LX := Lib.hid (LkR.below LX.out hB)
         have b4 := Lib.hid (blk_keep b4.out hB)
         have b5 := Lib.hid (blk_keep b5.out hB)
         have b7 := Lib.hid (blk_keep b7.out hB)
         have p4 := cells3 b4.out
         have p5 := cells4 b5.out
         have ES := Lib.hid (ES.out.trans (hB.mono ES.out.size))
         clear hB)
      | (go_at_call 14
         refine (OA.out _).mono ?_
         rintro e W' ⟨rfl, hB⟩
         have HL := Lib.hid (LkR.below HL.out hB)
         have LX := Lib.hid (LkR.below LX.out hB)
         have b4 := Lib.hid (blk_keep b4.out hB)
         have b5 := Lib.hid (blk_keep b5.out hB)
         have b7 := Lib.hid (blk_keep b7.out hB)
         have p4 := cells3 b4.out
         have p5 := cells4 b5.out
         have ES := Lib.hid (ES.out.trans (hB.mono ES.out.size))
         clear hB)
      | (go_at_call 15
         refine (OB.out _).mono ?_
         rintro e W' ⟨rfl, hB⟩
         have HL := Lib.hid (LkR.below HL.out hB)
         have LX := Lib.hid (LkR.below LX.out hB)
         have b4 := Lib.hid (blk_keep b4.out hB)
         have b5 := Lib.hid (blk_keep b5.out hB)
         have b7 := Lib.hid (blk_keep b7.out hB)
         have p4 := cells3 b4.out
         have p5 := cells4 b5.out
         have ES := Lib.hid (ES.out.trans (hB.mono ES.out.size))
         clear hB)
      | (go_at_call 11; refine (num_any _ _).mono ?_; rintro e w' ⟨rfl, rfl⟩))
  all_goals
    clear p4 p5
    have p7 := cells3 b7.out
    go_wp2_with (go_at_call 16; refine (nodes_any _ _).mono ?_; rintro e w' ⟨rfl, rfl⟩; rw [HN.out])
    have dr := fun W : World => Below.drew (Below.refl W.heap.size W)
    have LX := Lib.hid (LkR.below LX.out (dr _))
    have b7 := Lib.hid (blk_keep b7.out (dr _))
    have ES := Lib.hid (Below.drew ES.out)
    clear dr
    go_region_held3 (fun w' => w'.cell? ⟨Z, 0, none⟩ = some (.int .i64 (newL k).inc) ∧ w'.cell? ⟨Z, 1, none⟩ = some (.slice ax (newL k).out.length cax) ∧ w'.cell? ⟨Z, 2, none⟩ = some (.slice dx (newL k).inn.length cbx)) (go_keep)
      (first
        | (go_at_call 18
           refine (RN.out _).mono ?_
           rintro e W' ⟨r, rfl, hOw, hB⟩
           obtain ⟨sy, sz, rfl, oy, oz⟩ := hOw
           obtain ⟨ay, cay, rfl⟩ := owns_shape oy
           obtain ⟨dy, cby, rfl⟩ := owns_shape oz
           have LY := Lib.hid (LkOwn.reads (l := newL k) ⟨_, _, rfl, oy, oz⟩)
           clear oy oz
           have LX := Lib.hid (LkR.below LX.out hB)
           have b7 := Lib.hid (blk_keep b7.out hB)
           have p7 := cells3 b7.out
           have ES := Lib.hid (ES.out.trans (hB.mono ES.out.size))
           clear hB)
        | (go_at_call 17
           refine (same_any _ _ _ (newL k) (newL k) HX1.out HX2.out LX.out LY.out).mono ?_
           rintro e W' ⟨rfl, hB⟩
           rw [sameB_refl]
           have LX := Lib.hid (LkR.below LX.out hB)
           have b7 := Lib.hid (blk_keep b7.out hB)
           have p7 := cells3 b7.out
           have ES := Lib.hid (ES.out.trans (hB.mono ES.out.size))
           clear hB)
        | (go_at_call 9
           refine (works_any _).mono ?_
           rintro e W' ⟨rfl, hB⟩
           have LX := Lib.hid (LkR.below LX.out hB)
           have b7 := Lib.hid (blk_keep b7.out hB)
           have p7 := cells3 b7.out
           have ES := Lib.hid (ES.out.trans (hB.mono ES.out.size))
           clear hB)
        | (go_at_call 11; refine (num_any _ _).mono ?_; rintro e w' ⟨rfl, rfl⟩))
  all_goals
    clear p7
    go_wp2
    go_light
    go_ret
    exact ⟨rfl, ES.out⟩

set_option maxRecDepth 100000 in
set_option maxHeartbeats 8000000 in
theorem makes_tt (w : World) (v : Value) (l : Lk) (a1 a2 b1 b2 : Int) (k : Nat) (hk1 : 1 ≤ k) (hk2 : k ≤ 64) (ho : l.out.length ≤ 100) (hi : l.inn.length ≤ 100) (hr : rightB l = true) (hl : LkR w v l) :
    Calls Try.prog 3 #[.int .i64 k, v, .agg #[.int .i64 a1, .int .i64 a2, .int .i64 b1, .int .i64 b2]] w fun e w' => e = .returned (.bool true) ∧ Below w.heap.size w w' := by
  have L0 := Lib.hid hl
  have HO := Lib.hid (show l.out.length ≤ 1099511627776 by omega)
  have HI := Lib.hid (show l.inn.length ≤ 1099511627776 by omega)
  have HF := Lib.hid (show (decide (l.out.length ≤ 100) && decide (l.inn.length ≤ 100)) = true by simp; omega)
  have hnn := (show nodesB (k : Int) = true by unfold nodesB; simp; omega)
  obtain ⟨o, hO⟩ : ∃ o, o = ordS (a1, a2) (b1, b2) := ⟨_, rfl⟩
  have OA : ∀ W : World, Calls Try.prog 14 #[.agg #[.int .i64 a1, .int .i64 a2], .agg #[.int .i64 b1, .int .i64 b2]] W fun e w' => e = .returned (.int .i64 o) ∧ Below W.heap.size W w' := fun W => by rw [hO]; exact order_any a1 a2 b1 b2 W
  have OB : ∀ W : World, Calls Try.prog 15 #[.agg #[.int .i64 a1, .int .i64 a2], .agg #[.int .i64 b1, .int .i64 b2]] W fun e w' => e = .returned (.int .i64 o) ∧ Below W.heap.size W w' := fun W => by rw [hO]; exact refOrder_any a1 a2 b1 b2 W
  have OA := Lib.hid OA
  have OB := Lib.hid OB
  have NW : ∀ W : World, Calls Try.prog 10 #[.int .i64 k] W (RestartPost W ((newL k), 0)) := fun W => by
    have := new_any W (k : Int)
    unfold newR at this
    rw [if_pos hnn, Int.toNat_natCast] at this
    exact this
  have NW := Lib.hid NW
  have HN := Lib.hid hnn
  obtain ⟨s1, s2, rfl, h1, h2⟩ := hl
  obtain ⟨a0, ca0, rfl⟩ := h1.shape
  obtain ⟨d0, cb0, rfl⟩ := h2.shape
  have CK := Lib.hid (fun (W : World) (h : LkR W (.agg #[.int .i64 l.inc, .slice a0 l.out.length ca0, .slice d0 l.inn.length cb0]) l) => check_good W _ l HO.out HI.out hr h)
  have CR := Lib.hid (fun (W : World) (h : LkR W (.agg #[.int .i64 l.inc, .slice a0 l.out.length ca0, .slice d0 l.inn.length cb0]) l) => refRight_is true W _ l HO.out HI.out hr h)
  have HX1 := Lib.hid (show (newL k).out.length ≤ 1099511627776 by simp [newL]; omega)
  have HX2 := Lib.hid (show (newL k).inn.length ≤ 1099511627776 by simp [newL]; omega)
  have RN := Lib.hid (fun (W : World) => refNew_good W k hk1 hk2)
  clear hO h1 h2 ho hi hr hnn hk1 hk2
  go_enter Try.func3, Try.ntmps3
  go_wp2_with fail
  obtain ⟨V0, hV0⟩ : ∃ V, V = (w.alloc (.cells #[.int .i64 l.inc, .slice a0 l.out.length ca0, .slice d0 l.inn.length cb0] 25)).alloc (.cells #[.int .i64 a1, .int .i64 a2, .int .i64 b1, .int .i64 b2] 28) := ⟨_, rfl⟩
  rw [← hV0]
  have E : Below w.heap.size w V0 := by rw [hV0]; (repeat (first | (with_reducible exact Below.refl _ _) | (with_reducible assumption) | (with_reducible refine below_drewN ?_ _) | (with_reducible refine Below.drew ?_) | ((with_reducible refine Below.alloc ?_ ?_ _); rotate_left; focus (first | (with_reducible exact Nat.le_refl _) | omega | (simp; done) | (simp; omega))) | ((with_reducible refine Below.setCell (p := ⟨_, _, _⟩) ?_ ?_ _); rotate_left; focus (first | (with_reducible exact Nat.le_refl _) | omega | (simp; done) | (simp; omega)))))
  have b4 := Lib.hid (by have := blk_old (.cells #[.int .i64 a1, .int .i64 a2, .int .i64 b1, .int .i64 b2] 28) (blk_new w (.cells #[.int .i64 l.inc, .slice a0 l.out.length ca0, .slice d0 l.inn.length cb0] 25)); rw [← hV0] at this; exact this)
  have b5 := Lib.hid (by have := (show ((w.alloc (.cells #[.int .i64 l.inc, .slice a0 l.out.length ca0, .slice d0 l.inn.length cb0] 25)).alloc (.cells #[.int .i64 a1, .int .i64 a2, .int .i64 b1, .int .i64 b2] 28)).heap[w.heap.size + 1]? = some (.cells #[.int .i64 a1, .int .i64 a2, .int .i64 b1, .int .i64 b2] 28) from by have := blk_new (w.alloc (.cells #[.int .i64 l.inc, .slice a0 l.out.length ca0, .slice d0 l.inn.length cb0] 25)) (.cells #[.int .i64 a1, .int .i64 a2, .int .i64 b1, .int .i64 b2] 28); rw [World.size_alloc] at this; exact this); rw [← hV0] at this; exact this)
  have HL := Lib.hid (LkR.below L0.out E)
  clear hV0 L0
  have kk := few_any V0 (.int .i64 l.inc) a0 d0 l.out.length l.inn.length ca0 cb0
  rw [HF.out] at kk
  refine kk.mono ?_
  clear kk
  rintro e W1 ⟨rfl, hB1⟩
  have HL := Lib.hid (LkR.below HL.out hB1)
  have b4 := Lib.hid (blk_keep b4.out hB1)
  have b5 := Lib.hid (blk_keep b5.out hB1)
  have E1 := E.trans (hB1.mono E.size)
  clear hB1
  go_wp2_with fail
  refine (NW.out W1).mono ?_
  rintro e W2 ⟨r, rfl, hOw, hB2⟩
  obtain ⟨sa, sb, rfl, oa, ob⟩ := hOw
  obtain ⟨ax, cax, rfl⟩ := owns_shape oa
  obtain ⟨dx, cbx, rfl⟩ := owns_shape ob
  have LX := Lib.hid (LkOwn.reads (l := (newL k)) ⟨_, _, rfl, oa, ob⟩)
  clear oa ob
  have hs2 := hB2.size
  go_wp2_with fail
  obtain ⟨V2, hV2⟩ : ∃ V, V = W2.alloc (.cells #[.int .i64 (newL k).inc, .slice ax (newL k).out.length cax, .slice dx (newL k).inn.length cbx] 25) := ⟨_, rfl⟩
  rw [← hV2]
  have f2 : Below W2.heap.size W2 V2 := by rw [hV2]; (repeat (first | (with_reducible exact Below.refl _ _) | (with_reducible assumption) | (with_reducible refine below_drewN ?_ _) | (with_reducible refine Below.drew ?_) | ((with_reducible refine Below.alloc ?_ ?_ _); rotate_left; focus (first | (with_reducible exact Nat.le_refl _) | omega | (simp; done) | (simp; omega))) | ((with_reducible refine Below.setCell (p := ⟨_, _, _⟩) ?_ ?_ _); rotate_left; focus (first | (with_reducible exact Nat.le_refl _) | omega | (simp; done) | (simp; omega)))))
  have g2 : Below W1.heap.size W1 V2 := hB2.trans (f2.mono hs2)
  have b7 := Lib.hid (by have := blk_new W2 (.cells #[.int .i64 (newL k).inc, .slice ax (newL k).out.length cax, .slice dx (newL k).inn.length cbx] 25); rw [← hV2] at this; exact this)
  have dr : Below V2.heap.size V2 V2.drew := Below.drew (Below.refl _ _)
  have b4 := Lib.hid (blk_keep b4.out g2)
  have b5 := Lib.hid (blk_keep b5.out g2)
  have p4 := cells3 b4.out
  have p5 := cells4 b5.out
  have b4 := Lib.hid (blk_keep b4.out dr)
  have b5 := Lib.hid (blk_keep b5.out dr)
  have b7 := Lib.hid (blk_keep b7.out dr)
  have HL := Lib.hid (LkR.below (LkR.below HL.out g2) dr)
  have LX := Lib.hid (LkR.below (LkR.below LX.out f2) dr)
  have E := Below.drew (E1.trans (g2.mono E1.size))
  have ES := Lib.hid E
  obtain ⟨Z, hZ⟩ : ∃ Z, Z = W2.heap.size := ⟨_, rfl⟩
  rw [← hZ] at b7 ⊢
  clear hV2 f2 g2 dr E E1 hB2 hs2 hZ
  refine wp_region_held_drew (S := fun w' => w'.cell? ⟨w.heap.size, 0, none⟩ = some (.int .i64 l.inc) ∧ w'.cell? ⟨w.heap.size, 1, none⟩ = some (.slice a0 l.out.length ca0) ∧ w'.cell? ⟨w.heap.size, 2, none⟩ = some (.slice d0 l.inn.length cb0) ∧ w'.cell? ⟨w.heap.size + 1, 0, none⟩ = some (.int .i64 a1) ∧ w'.cell? ⟨w.heap.size + 1, 1, none⟩ = some (.int .i64 a2) ∧ w'.cell? ⟨w.heap.size + 1, 2, none⟩ = some (.int .i64 b1) ∧ w'.cell? ⟨w.heap.size + 1, 3, none⟩ = some (.int .i64 b2)) (by kernel_rfl) (by go_keep) (fun hHeld => ?_)
  refine held_take (i := 0) (d := 18) (v := .agg #[.int .i64 l.inc, .slice a0 l.out.length ca0, .slice d0 l.inn.length cb0]) (by kernel_rfl) (by kernel_rfl) (by kernel_rfl) (by kernel_rfl) (fun _ _ _ h => h) ?_ (by assumption) ?_
  · intro oi ho
    simp at ho
    subst ho
    refine ⟨by rfl, fun w hSw => ?_⟩
    (try dsimp only at hSw)
    go_simp
  simp only [Act.put, List.setIfInBounds_toArray, List.set_cons_zero, List.set_cons_succ]
  refine held_call (i := 1) (by kernel_rfl) (by kernel_rfl) ?_
  intro oi ho
  simp at ho
  subst ho
  intro K' hK
  go_simp
  refine (CK.out _ HL.out).mono ?_
  rintro e W' ⟨rfl, hB⟩
  have HL := Lib.hid (LkR.below HL.out hB)
  have LX := Lib.hid (LkR.below LX.out hB)
  have b4 := Lib.hid (blk_keep b4.out hB)
  have b5 := Lib.hid (blk_keep b5.out hB)
  have b7 := Lib.hid (blk_keep b7.out hB)
  have p4 := cells3 b4.out
  have p5 := cells4 b5.out
  have ES := Lib.hid (ES.out.trans (hB.mono ES.out.size))
  clear hB
  try go_simp
  refine hK.out _ _ ?_ (fun hHeld => ?_)
  · go_keep
  try simp only [Act.put, List.setIfInBounds_toArray, List.set_cons_zero, List.set_cons_succ]
  clear hK K'
  refine held_call (i := 2) (by kernel_rfl) (by kernel_rfl) ?_
  intro oi ho
  simp at ho
  subst ho
  intro K' hK
  go_simp
  refine (num_any _ _).mono ?_
  rintro e w' ⟨rfl, rfl⟩
  try go_simp
  refine hK.out _ _ ?_ (fun hHeld => ?_)
  · go_keep
  try simp only [Act.put, List.setIfInBounds_toArray, List.set_cons_zero, List.set_cons_succ]
  clear hK K'
  refine held_take (i := 3) (d := 21) (v := .bool false) (by kernel_rfl) (by kernel_rfl) (by kernel_rfl) (by kernel_rfl) (fun _ _ _ h => h) ?_ (by assumption) ?_
  · intro oi ho
    simp at ho
    subst ho
    refine ⟨by rfl, fun w hSw => ?_⟩
    (try dsimp only at hSw)
    go_simp
  simp only [Act.put, List.setIfInBounds_toArray, List.set_cons_zero, List.set_cons_succ]
  refine held_take (i := 4) (d := 22) (v := .bool false) (by kernel_rfl) (by kernel_rfl) (by kernel_rfl) (by kernel_rfl) (fun _ _ _ h => h) ?_ (by assumption) ?_
  · intro oi ho
    simp at ho
    subst ho
    refine ⟨by rfl, fun w hSw => ?_⟩
    (try dsimp only at hSw)
    go_simp
  simp only [Act.put, List.setIfInBounds_toArray, List.set_cons_zero, List.set_cons_succ]
  refine held_skip (i := 5) (d := 23) (by kernel_rfl) (by kernel_rfl) (by kernel_rfl) (by kernel_rfl) (fun _ _ _ h => h) ?_ (by assumption) ?_
  · intro oi ho
    simp at ho
    subst ho
    rfl
  simp only [Act.put, List.setIfInBounds_toArray, List.set_cons_zero, List.set_cons_succ]
  refine held_skip (i := 6) (d := 24) (by kernel_rfl) (by kernel_rfl) (by kernel_rfl) (by kernel_rfl) (fun _ _ _ h => h) ?_ (by assumption) ?_
  · intro oi ho
    simp at ho
    subst ho
    rfl
  simp only [Act.put, List.setIfInBounds_toArray, List.set_cons_zero, List.set_cons_succ]
  refine held_skip (i := 7) (d := 25) (by kernel_rfl) (by kernel_rfl) (by kernel_rfl) (by kernel_rfl) (fun _ _ _ h => h) ?_ (by assumption) ?_
  · intro oi ho
    simp at ho
    subst ho
    rfl
  simp only [Act.put, List.setIfInBounds_toArray, List.set_cons_zero, List.set_cons_succ]
  refine held_skip (i := 8) (d := 26) (by kernel_rfl) (by kernel_rfl) (by kernel_rfl) (by kernel_rfl) (fun _ _ _ h => h) ?_ (by assumption) ?_
  · intro oi ho
    simp at ho
    subst ho
    rfl
  simp only [Act.put, List.setIfInBounds_toArray, List.set_cons_zero, List.set_cons_succ]
  refine held_take (i := 9) (d := 27) (v := .bool false) (by kernel_rfl) (by kernel_rfl) (by kernel_rfl) (by kernel_rfl) (fun _ _ _ h => h) ?_ (by assumption) ?_
  · intro oi ho
    simp at ho
    subst ho
    refine ⟨by rfl, fun w hSw => ?_⟩
    (try dsimp only at hSw)
    go_simp
  simp only [Act.put, List.setIfInBounds_toArray, List.set_cons_zero, List.set_cons_succ]
  refine held_take (i := 10) (d := 28) (v := .bool false) (by kernel_rfl) (by kernel_rfl) (by kernel_rfl) (by kernel_rfl) (fun _ _ _ h => h) ?_ (by assumption) ?_
  · intro oi ho
    simp at ho
    subst ho
    refine ⟨by rfl, fun w hSw => ?_⟩
    (try dsimp only at hSw)
    go_simp
  simp only [Act.put, List.setIfInBounds_toArray, List.set_cons_zero, List.set_cons_succ]
  refine held_take (i := 11) (d := 29) (v := .agg #[.int .i64 l.inc, .slice a0 l.out.length ca0, .slice d0 l.inn.length cb0]) (by kernel_rfl) (by kernel_rfl) (by kernel_rfl) (by kernel_rfl) (fun _ _ _ h => h) ?_ (by assumption) ?_
  · intro oi ho
    simp at ho
    subst ho
    refine ⟨by rfl, fun w hSw => ?_⟩
    (try dsimp only at hSw)
    go_simp
  simp only [Act.put, List.setIfInBounds_toArray, List.set_cons_zero, List.set_cons_succ]
  refine held_take (i := 15) (d := 33) (v := .agg #[.int .i64 l.inc, .slice a0 l.out.length ca0, .slice d0 l.inn.length cb0]) (by kernel_rfl) (by kernel_rfl) (by kernel_rfl) (by kernel_rfl) (fun _ _ _ h => h) ?_ (by assumption) ?_
  · intro oi ho
    simp at ho
    subst ho
    refine ⟨by rfl, fun w hSw => ?_⟩
    (try dsimp only at hSw)
    go_simp
  simp only [Act.put, List.setIfInBounds_toArray, List.set_cons_zero, List.set_cons_succ]
  refine held_call (i := 12) (by kernel_rfl) (by kernel_rfl) ?_
  intro oi ho
  simp at ho
  subst ho
  intro K' hK
  go_simp
  refine (CK.out _ HL.out).mono ?_
  rintro e W' ⟨rfl, hB⟩
  have HL := Lib.hid (LkR.below HL.out hB)
  have LX := Lib.hid (LkR.below LX.out hB)
  have b4 := Lib.hid (blk_keep b4.out hB)
  have b5 := Lib.hid (blk_keep b5.out hB)
  have b7 := Lib.hid (blk_keep b7.out hB)
  have p4 := cells3 b4.out
  have p5 := cells4 b5.out
  have ES := Lib.hid (ES.out.trans (hB.mono ES.out.size))
  clear hB
  try go_simp
  refine hK.out _ _ ?_ (fun hHeld => ?_)
  · go_keep
  try simp only [Act.put, List.setIfInBounds_toArray, List.set_cons_zero, List.set_cons_succ]
  clear hK K'
  refine held_call (i := 13) (by kernel_rfl) (by kernel_rfl) ?_
  intro oi ho
  simp at ho
  subst ho
  intro K' hK
  go_simp
  refine (num_any _ _).mono ?_
  rintro e w' ⟨rfl, rfl⟩
  try go_simp
  refine hK.out _ _ ?_ (fun hHeld => ?_)
  · go_keep
  try simp only [Act.put, List.setIfInBounds_toArray, List.set_cons_zero, List.set_cons_succ]
  clear hK K'
  refine held_take (i := 14) (d := 32) (v := .bool true) (by kernel_rfl) (by kernel_rfl) (by kernel_rfl) (by kernel_rfl) (fun _ _ _ h => h) ?_ (by assumption) ?_
  · intro oi ho
    simp at ho
    subst ho
    refine ⟨by rfl, fun w hSw => ?_⟩
    (try dsimp only at hSw)
    go_simp
  simp only [Act.put, List.setIfInBounds_toArray, List.set_cons_zero, List.set_cons_succ]
  refine held_call (i := 16) (by kernel_rfl) (by kernel_rfl) ?_
  intro oi ho
  simp at ho
  subst ho
  intro K' hK
  go_simp
  refine (CR.out _ HL.out).mono ?_
  rintro e W' ⟨rfl, hB⟩
  have HL := Lib.hid (LkR.below HL.out hB)
  have LX := Lib.hid (LkR.below LX.out hB)
  have b4 := Lib.hid (blk_keep b4.out hB)
  have b5 := Lib.hid (blk_keep b5.out hB)
  have b7 := Lib.hid (blk_keep b7.out hB)
  have p4 := cells3 b4.out
  have p5 := cells4 b5.out
  have ES := Lib.hid (ES.out.trans (hB.mono ES.out.size))
  clear hB
  try go_simp
  refine hK.out _ _ ?_ (fun hHeld => ?_)
  · go_keep
  try simp only [Act.put, List.setIfInBounds_toArray, List.set_cons_zero, List.set_cons_succ]
  clear hK K'
  refine held_take (i := 17) (d := 35) (v := .bool false) (by kernel_rfl) (by kernel_rfl) (by kernel_rfl) (by kernel_rfl) (fun _ _ _ h => h) ?_ (by assumption) ?_
  · intro oi ho
    simp at ho
    subst ho
    refine ⟨by rfl, fun w hSw => ?_⟩
    (try dsimp only at hSw)
    go_simp
  simp only [Act.put, List.setIfInBounds_toArray, List.set_cons_zero, List.set_cons_succ]
  refine held_take (i := 18) (d := 36) (v := .bool false) (by kernel_rfl) (by kernel_rfl) (by kernel_rfl) (by kernel_rfl) (fun _ _ _ h => h) ?_ (by assumption) ?_
  · intro oi ho
    simp at ho
    subst ho
    refine ⟨by rfl, fun w hSw => ?_⟩
    (try dsimp only at hSw)
    go_simp
  simp only [Act.put, List.setIfInBounds_toArray, List.set_cons_zero, List.set_cons_succ]
  refine held_take (i := 19) (d := 37) (v := .bool false) (by kernel_rfl) (by kernel_rfl) (by kernel_rfl) (by kernel_rfl) (fun _ _ _ h => h) ?_ (by assumption) ?_
  · intro oi ho
    simp at ho
    subst ho
    refine ⟨by rfl, fun w hSw => ?_⟩
    (try dsimp only at hSw)
    go_simp
  simp only [Act.put, List.setIfInBounds_toArray, List.set_cons_zero, List.set_cons_succ]
  refine held_take (i := 20) (d := 38) (v := .pointer (some ⟨w.heap.size + 1, 0, none⟩)) (by kernel_rfl) (by kernel_rfl) (by kernel_rfl) (by kernel_rfl) (fun _ _ _ h => h) ?_ (by assumption) ?_
  · intro oi ho
    simp at ho
    subst ho
    refine ⟨by rfl, fun w hSw => ?_⟩
    (try dsimp only at hSw)
    go_simp
  simp only [Act.put, List.setIfInBounds_toArray, List.set_cons_zero, List.set_cons_succ]
  refine held_take (i := 22) (d := 40) (v := .pointer (some ⟨w.heap.size + 1, 2, none⟩)) (by kernel_rfl) (by kernel_rfl) (by kernel_rfl) (by kernel_rfl) (fun _ _ _ h => h) ?_ (by assumption) ?_
  · intro oi ho
    simp at ho
    subst ho
    refine ⟨by rfl, fun w hSw => ?_⟩
    (try dsimp only at hSw)
    go_simp
  simp only [Act.put, List.setIfInBounds_toArray, List.set_cons_zero, List.set_cons_succ]
  refine held_take (i := 25) (d := 43) (v := .pointer (some ⟨w.heap.size + 1, 0, none⟩)) (by kernel_rfl) (by kernel_rfl) (by kernel_rfl) (by kernel_rfl) (fun _ _ _ h => h) ?_ (by assumption) ?_
  · intro oi ho
    simp at ho
    subst ho
    refine ⟨by rfl, fun w hSw => ?_⟩
    (try dsimp only at hSw)
    go_simp
  simp only [Act.put, List.setIfInBounds_toArray, List.set_cons_zero, List.set_cons_succ]
  refine held_take (i := 27) (d := 45) (v := .pointer (some ⟨w.heap.size + 1, 2, none⟩)) (by kernel_rfl) (by kernel_rfl) (by kernel_rfl) (by kernel_rfl) (fun _ _ _ h => h) ?_ (by assumption) ?_
  · intro oi ho
    simp at ho
    subst ho
    refine ⟨by rfl, fun w hSw => ?_⟩
    (try dsimp only at hSw)
    go_simp
  simp only [Act.put, List.setIfInBounds_toArray, List.set_cons_zero, List.set_cons_succ]
  refine held_take (i := 21) (d := 39) (v := .agg #[.int .i64 a1, .int .i64 a2]) (by kernel_rfl) (by kernel_rfl) (by kernel_rfl) (by kernel_rfl) (fun _ _ _ h => h) ?_ (by assumption) ?_
  · intro oi ho
    simp at ho
    subst ho
    refine ⟨by rfl, fun w hSw => ?_⟩
    (try dsimp only at hSw)
    go_simp
  simp only [Act.put, List.setIfInBounds_toArray, List.set_cons_zero, List.set_cons_succ]
  refine held_take (i := 23) (d := 41) (v := .agg #[.int .i64 b1, .int .i64 b2]) (by kernel_rfl) (by kernel_rfl) (by kernel_rfl) (by kernel_rfl) (fun _ _ _ h => h) ?_ (by assumption) ?_
  · intro oi ho
    simp at ho
    subst ho
    refine ⟨by rfl, fun w hSw => ?_⟩
    (try dsimp only at hSw)
    go_simp
  simp only [Act.put, List.setIfInBounds_toArray, List.set_cons_zero, List.set_cons_succ]
  refine held_take (i := 26) (d := 44) (v := .agg #[.int .i64 a1, .int .i64 a2]) (by kernel_rfl) (by kernel_rfl) (by kernel_rfl) (by kernel_rfl) (fun _ _ _ h => h) ?_ (by assumption) ?_
  · intro oi ho
    simp at ho
    subst ho
    refine ⟨by rfl, fun w hSw => ?_⟩
    (try dsimp only at hSw)
    go_simp
  simp only [Act.put, List.setIfInBounds_toArray, List.set_cons_zero, List.set_cons_succ]
  refine held_take (i := 28) (d := 46) (v := .agg #[.int .i64 b1, .int .i64 b2]) (by kernel_rfl) (by kernel_rfl) (by kernel_rfl) (by kernel_rfl) (fun _ _ _ h => h) ?_ (by assumption) ?_
  · intro oi ho
    simp at ho
    subst ho
    refine ⟨by rfl, fun w hSw => ?_⟩
    (try dsimp only at hSw)
    go_simp
  simp only [Act.put, List.setIfInBounds_toArray, List.set_cons_zero, List.set_cons_succ]
  refine held_call (i := 24) (by kernel_rfl) (by kernel_rfl) ?_
  intro oi ho
  simp at ho
  subst ho
  intro K' hK
  go_simp
  refine (OA.out _).mono ?_
  rintro e W' ⟨rfl, hB⟩
  have HL := Lib.hid (LkR.below HL.out hB)
  have LX := Lib.hid (LkR.below LX.out hB)
  have b4 := Lib.hid (blk_keep b4.out hB)
  have b5 := Lib.hid (blk_keep b5.out hB)
  have b7 := Lib.hid (blk_keep b7.out hB)
  have p4 := cells3 b4.out
  have p5 := cells4 b5.out
  have ES := Lib.hid (ES.out.trans (hB.mono ES.out.size))
  clear hB
  try go_simp
  refine hK.out _ _ ?_ (fun hHeld => ?_)
  · go_keep
  try simp only [Act.put, List.setIfInBounds_toArray, List.set_cons_zero, List.set_cons_succ]
  clear hK K'
  refine held_call (i := 29) (by kernel_rfl) (by kernel_rfl) ?_
  intro oi ho
  simp at ho
  subst ho
  intro K' hK
  go_simp
  refine (OB.out _).mono ?_
  rintro e W' ⟨rfl, hB⟩
  have HL := Lib.hid (LkR.below HL.out hB)
  have LX := Lib.hid (LkR.below LX.out hB)
  have b4 := Lib.hid (blk_keep b4.out hB)
  have b5 := Lib.hid (blk_keep b5.out hB)
  have b7 := Lib.hid (blk_keep b7.out hB)
  have p4 := cells3 b4.out
  have p5 := cells4 b5.out
  have ES := Lib.hid (ES.out.trans (hB.mono ES.out.size))
  clear hB
  try go_simp
  refine hK.out _ _ ?_ (fun hHeld => ?_)
  · go_keep
  try simp only [Act.put, List.setIfInBounds_toArray, List.set_cons_zero, List.set_cons_succ]
  clear hK K'
  refine held_take (i := 30) (d := 48) (v := .bool false) (by kernel_rfl) (by kernel_rfl) (by kernel_rfl) (by kernel_rfl) (fun _ _ _ h => h) ?_ (by assumption) ?_
  · intro oi ho
    simp at ho
    subst ho
    refine ⟨by rfl, fun w hSw => ?_⟩
    (try dsimp only at hSw)
    go_simp
  simp only [Act.put, List.setIfInBounds_toArray, List.set_cons_zero, List.set_cons_succ]
  refine held_take (i := 31) (d := 49) (v := .bool false) (by kernel_rfl) (by kernel_rfl) (by kernel_rfl) (by kernel_rfl) (fun _ _ _ h => h) ?_ (by assumption) ?_
  · intro oi ho
    simp at ho
    subst ho
    refine ⟨by rfl, fun w hSw => ?_⟩
    (try dsimp only at hSw)
    go_simp
  simp only [Act.put, List.setIfInBounds_toArray, List.set_cons_zero, List.set_cons_succ]
  refine wpAnyH_done (by kernel_rfl) ?_ _
  all_goals
    clear p4 p5
    have p7 := cells3 b7.out
    go_wp2_with (go_at_call 16; refine (nodes_any _ _).mono ?_; rintro e w' ⟨rfl, rfl⟩; rw [HN.out])
    have dr := fun W : World => Below.drew (Below.refl W.heap.size W)
    have LX := Lib.hid (LkR.below LX.out (dr _))
    have b7 := Lib.hid (blk_keep b7.out (dr _))
    have ES := Lib.hid (Below.drew ES.out)
    clear dr
    go_region_held3 (fun w' => w'.cell? ⟨Z, 0, none⟩ = some (.int .i64 (newL k).inc) ∧ w'.cell? ⟨Z, 1, none⟩ = some (.slice ax (newL k).out.length cax) ∧ w'.cell? ⟨Z, 2, none⟩ = some (.slice dx (newL k).inn.length cbx)) (go_keep)
      (first
        | (go_at_call 18
           refine (RN.out _).mono ?_
           rintro e W' ⟨r, rfl, hOw, hB⟩
           obtain ⟨sy, sz, rfl, oy, oz⟩ := hOw
           obtain ⟨ay, cay, rfl⟩ := owns_shape oy
           obtain ⟨dy, cby, rfl⟩ := owns_shape oz
           have LY := Lib.hid (LkOwn.reads (l := newL k) ⟨_, _, rfl, oy, oz⟩)
           clear oy oz
           have LX := Lib.hid (LkR.below LX.out hB)
           have b7 := Lib.hid (blk_keep b7.out hB)
           have p7 := cells3 b7.out
           have ES := Lib.hid (ES.out.trans (hB.mono ES.out.size))
           clear hB)
        | (go_at_call 17
           refine (same_any _ _ _ (newL k) (newL k) HX1.out HX2.out LX.out LY.out).mono ?_
           rintro e W' ⟨rfl, hB⟩
           rw [sameB_refl]
           have LX := Lib.hid (LkR.below LX.out hB)
           have b7 := Lib.hid (blk_keep b7.out hB)
           have p7 := cells3 b7.out
           have ES := Lib.hid (ES.out.trans (hB.mono ES.out.size))
           clear hB)
        | (go_at_call 9
           refine (works_any _).mono ?_
           rintro e W' ⟨rfl, hB⟩
           have LX := Lib.hid (LkR.below LX.out hB)
           have b7 := Lib.hid (blk_keep b7.out hB)
           have p7 := cells3 b7.out
           have ES := Lib.hid (ES.out.trans (hB.mono ES.out.size))
           clear hB)
        | (go_at_call 11; refine (num_any _ _).mono ?_; rintro e w' ⟨rfl, rfl⟩))
  all_goals
    clear p7
    go_wp2
    go_light
    go_ret
    exact ⟨rfl, ES.out⟩

end Go.Proofs.Ytijifbkikgooiaa
