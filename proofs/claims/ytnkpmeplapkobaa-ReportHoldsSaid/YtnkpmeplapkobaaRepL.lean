/- Reports: Decide whole; Add that was told already. -/
import Derived.Test.YtnkpmeplapkobaaRepK
namespace Go.Proofs.Ytnkpmeplapkobaa
open Go.RowKit Go.Shelf

theorem decide_any (n l s : Int) (w : World) (v : Value) (t : List (List (Bool × Int))) (hv : Rows2 w v t) (hlen : ∀ r ∈ t, r.length ≤ 1099511627776) :
    Calls Try.prog 15 #[.agg #[.int .i64 n, .int .i64 l, .int .i64 s], .agg #[v]] w (DecPost w (decX n l s t)) := by
  unfold decX
  cases ht : tallyB n l s t
  · rw [if_pos rfl]; exact dec_bad n l s w v t hv hlen ht
  · cases hm : (missN 0 t).isEmpty
    · rw [if_neg (by simp), if_pos rfl]; exact dec_few n l s w v t hv hlen ht hm
    · rw [if_neg (by simp), if_neg (by simp)]; exact dec_main n l s w v t hv hlen ht hm

set_option maxHeartbeats 400000 in
theorem clearA_any (X Y : Nat) (w : World) (v u : Value) (hXY : X ≠ Y) (h : w.heap[X]? = some (.cells #[v] 26 (0, 0))) (h2 : w.heap[Y]? = some (.cells #[u] 4 (0, 0))) : Calls Try.prog 34 #[.pointer (some ⟨X, 0, none⟩), .pointer (some ⟨Y, 0, none⟩)] w fun e w' => e = .returned (.tuple #[]) ∧ w' = (w.setCell ⟨X, 0, none⟩ (.slice none 0 0)).setCell ⟨Y, 0, none⟩ (.bool false) := by
  have p := cells1 h
  have q := cells1 h2
  have lx := lt_of_block h
  have ly := lt_of_block h2
  have hYX : ¬ Y = X := fun e => hXY e.symm
  go_enter Try.func34, Try.ntmps34
  go_wp2
  go_end0
  exact ⟨rfl, rfl⟩

theorem upA_tail (w W : World) (Z : Nat) (m : Int) (v u v3 : Value) (hZ : w.heap.size ≤ Z) (hB : Below w.heap.size w W) (Q2 : W.heap[Z + 1 + 1]? = some (.cells #[v] 26 (0, 0))) (Q3 : W.heap[Z + 1 + 1 + 1]? = some (.cells #[u] 4 (0, 0))) (Q4 : W.heap[Z + 1 + 1 + 1 + 1]? = some (.cells #[v3] 45 (0, 0))) :
    let W' := (((W.setCell ⟨Z + 1 + 1, 0, none⟩ (.slice none 0 0)).setCell ⟨Z + 1 + 1 + 1, 0, none⟩ (.bool false)).setCell ⟨Z + 1 + 1 + 1 + 1, 0, none⟩ (.int .i64 m))
    W'.cell? ⟨Z + 1 + 1, 0, none⟩ = some (.slice none 0 0) ∧ W'.cell? ⟨Z + 1 + 1 + 1, 0, none⟩ = some (.bool false) ∧ W'.cell? ⟨Z + 1 + 1 + 1 + 1, 0, none⟩ = some (.int .i64 m) ∧ Below w.heap.size w W' := by
  intro W'
  have h2 : (W.setCell ⟨Z + 1 + 1, 0, none⟩ (.slice none 0 0)).heap[Z + 1 + 1]? = some (.cells #[.slice none 0 0] 26 (0, 0)) := by have := blk_set (i := 0) (.slice none 0 0) Q2; simpa using this
  have h3 : ((W.setCell ⟨Z + 1 + 1, 0, none⟩ (.slice none 0 0)).setCell ⟨Z + 1 + 1 + 1, 0, none⟩ (.bool false)).heap[Z + 1 + 1 + 1]? = some (.cells #[.bool false] 4 (0, 0)) := by
    have := blk_set (i := 0) (.bool false) (blk_set_other (a := ⟨Z + 1 + 1, 0, none⟩) (.slice none 0 0) Q3 (by dsimp only; omega)); simpa using this
  have h4 : W'.heap[Z + 1 + 1 + 1 + 1]? = some (.cells #[.int .i64 m] 45 (0, 0)) := by
    have := blk_set (i := 0) (.int .i64 m) (blk_set_other (a := ⟨Z + 1 + 1 + 1, 0, none⟩) (.bool false) (blk_set_other (a := ⟨Z + 1 + 1, 0, none⟩) (.slice none 0 0) Q4 (by dsimp only; omega)) (by dsimp only; omega)); simpa using this
  exact ⟨(cells1 (blk_set_other _ (blk_set_other _ h2 (by dsimp only; omega)) (by dsimp only; omega))).1, (cells1 (blk_set_other _ h3 (by dsimp only; omega))).1, (cells1 h4).1,
    ((hB.setCell (p := ⟨_, _, _⟩) (by dsimp only; omega) _).setCell (p := ⟨_, _, _⟩) (by dsimp only; omega) _).setCell (p := ⟨_, _, _⟩) (by dsimp only; omega) _⟩

set_option maxRecDepth 100000 in
set_option maxHeartbeats 4000000 in
theorem add_told (n l s : Int) (fr : Nat) (w : World) (v sv : Value) (t : List (List (Bool × Int))) (r x : List (Bool × Int)) (hv : Rows2 w v t) (hlen : ∀ r ∈ t, r.length ≤ 1099511627776) (hr : Sl encR 2 w sv r) (hrl : r.length ≤ 1099511627776)
    (ht : tallyB n l s t = true) (hrep : repB n l s r = true) (hfr : (fr : Int) < n) (hx : t[fr]? = some x) (hxe : x.isEmpty = false) :
    Calls Try.prog 14 #[.agg #[.int .i64 n, .int .i64 l, .int .i64 s], .agg #[v], .int .i64 fr, sv] w fun e w' => e = .returned (.tuple #[.agg #[.slice none 0 0], .bool false, .int .i64 270]) ∧ Below w.heap.size w w' := by
  obtain ⟨a, cap, rfl⟩ := hv.shape
  obtain ⟨ra, rcap, rfl⟩ := hr.shape
  have KO := Lib.hid (fun (W : World) (h : Rows2 W (.slice a t.length cap) t) => of_any n l s W _ t h hlen)
  have KR := Lib.hid (fun (W : World) (h : Sl encR 2 W (.slice ra r.length rcap) r) => right_is hrep hrl W _ h)
  have KM := Lib.hid (fun (W : World) (h : Rows2 W (.slice a t.length cap) t) => missing_any t fr x W _ h hx)
  have HV := Lib.hid hv
  have HT := Lib.hid ht
  have HR := Lib.hid hr
  have HE := Lib.hid hxe
  have f0 : (0 : Int) ≤ (fr : Int) := by omega
  clear hv ht hlen hr hrep hx hxe
  go_enter_defers Try.func14, Try.ntmps14
  go_wp2_with fail
  obtain ⟨q0, q1, q2, q3⟩ := alloc4s w (.cells #[.int .i64 n, .int .i64 l, .int .i64 s] 23) (.cells #[.slice a t.length cap] 26) (.cells #[.slice none 0 0] 26) (.cells #[.bool false] 4)
  have E0 := below_alloc4s w (.cells #[.int .i64 n, .int .i64 l, .int .i64 s] 23) (.cells #[.slice a t.length cap] 26) (.cells #[.slice none 0 0] 26) (.cells #[.bool false] 4)
  obtain ⟨V4, hV4⟩ : ∃ V, V = ((((w.alloc (.cells #[.int .i64 n, .int .i64 l, .int .i64 s] 23)).alloc (.cells #[.slice a t.length cap] 26)).alloc (.cells #[.slice none 0 0] 26)).alloc (.cells #[.bool false] 4)) := ⟨_, rfl⟩
  rw [← hV4] at q0 q1 q2 q3 E0 ⊢
  have hs4 : V4.heap.size = w.heap.size + 1 + 1 + 1 + 1 := by rw [hV4]; simp
  have E : Below w.heap.size w (V4.alloc (.cells #[.int .i64 0] 45)) := by have := E0; have := E0.size; (repeat (first | (with_reducible exact Below.refl _ _) | (with_reducible assumption) | (with_reducible refine below_drewN ?_ _) | (with_reducible refine Below.drew ?_) | ((with_reducible refine Below.alloc ?_ ?_ _); rotate_left; focus (first | (with_reducible exact Nat.le_refl _) | omega | (simp; done) | (simp; omega))) | ((with_reducible refine Below.setCell (p := ⟨_, _, _⟩) ?_ ?_ _); rotate_left; focus (first | (with_reducible exact Nat.le_refl _) | omega | (simp; done) | (simp; omega)))))
  have q4 : (V4.alloc (.cells #[.int .i64 0] 45)).heap[w.heap.size + 1 + 1 + 1 + 1]? = some (.cells #[.int .i64 0] 45 (0, 0)) := by rw [← hs4]; exact blk_new _ _
  have q0 := blk_old (.cells #[.int .i64 0] 45) q0
  have q2 := blk_old (.cells #[.int .i64 0] 45) q2
  have q3 := blk_old (.cells #[.int .i64 0] 45) q3
  refine (KO.out _ (HV.out.below E)).mono ?_
  rintro e W1 ⟨⟨_, rfl⟩ | ⟨h, _⟩, hB⟩
  rotate_left
  · rw [HT.out] at h; cases h
  have E1 := Lib.hid (E.trans (hB.mono E.size))
  have Q0 := Lib.hid (blk_keep q0 hB)
  have Q2 := Lib.hid (blk_keep q2 hB)
  have Q3 := Lib.hid (blk_keep q3 hB)
  have Q4 := Lib.hid (blk_keep q4 hB)
  have p0 := cells3 Q0.out
  have l0 := lt_of_block Q0.out
  clear q0 q1 q2 q3 q4 hB E E0 hV4 hs4
  go_wp2_with fail
  obtain ⟨U, hU⟩ : ∃ U, U = W1.heap.size := ⟨_, rfl⟩
  obtain ⟨V, hV⟩ : ∃ V, V = W1.alloc (.cells #[.slice a t.length cap, .int .i64 n, .int .i64 l, .int .i64 s] 74) := ⟨_, rfl⟩
  rw [← hV, ← hU]
  have hg : Below W1.heap.size W1 V := by rw [hV]; (repeat (first | (with_reducible exact Below.refl _ _) | (with_reducible assumption) | (with_reducible refine below_drewN ?_ _) | (with_reducible refine Below.drew ?_) | ((with_reducible refine Below.alloc ?_ ?_ _); rotate_left; focus (first | (with_reducible exact Nat.le_refl _) | omega | (simp; done) | (simp; omega))) | ((with_reducible refine Below.setCell (p := ⟨_, _, _⟩) ?_ ?_ _); rotate_left; focus (first | (with_reducible exact Nat.le_refl _) | omega | (simp; done) | (simp; omega)))))
  have E2 := Lib.hid (E1.out.trans (hg.mono E1.out.size))
  have QU := Lib.hid (show V.heap[U]? = some (.cells #[.slice a t.length cap, .int .i64 n, .int .i64 l, .int .i64 s] 74 (0, 0)) by rw [hV, hU]; exact blk_new _ _)
  have Q0 := Lib.hid (blk_keep Q0.out hg)
  have Q2 := Lib.hid (blk_keep Q2.out hg)
  have Q3 := Lib.hid (blk_keep Q3.out hg)
  have Q4 := Lib.hid (blk_keep Q4.out hg)
  clear hg hV hU p0 l0
  refine (KR.out V (HR.out.below E2.out)).mono ?_
  rintro e W3 ⟨rfl, hB3⟩
  have E3 := Lib.hid (E2.out.trans (hB3.mono E2.out.size))
  have Q0 := Lib.hid (blk_keep Q0.out hB3)
  have Q2 := Lib.hid (blk_keep Q2.out hB3)
  have Q3 := Lib.hid (blk_keep Q3.out hB3)
  have Q4 := Lib.hid (blk_keep Q4.out hB3)
  have QU := Lib.hid (blk_keep QU.out hB3)
  have p0 := cells3 Q0.out
  have l0 := lt_of_block Q0.out
  have pU := cells4b QU.out
  have lU := lt_of_block QU.out
  clear hB3
  go_wp2_with (go_at_call 35; (with_reducible refine (must_yes _ _).mono ?_); rintro e w' ⟨rfl, rfl⟩)
  refine (KM.out W3 (HV.out.below E3.out)).mono ?_
  rintro e W5 ⟨rfl, hB5⟩
  rw [HE.out]
  have E5 := Lib.hid (E3.out.trans (hB5.mono E3.out.size))
  have Q2 := blk_keep Q2.out hB5
  have Q3 := blk_keep Q3.out hB5
  have Q4 := blk_keep Q4.out hB5
  clear hB5 p0 pU
  go_wp2_with fail
  refine (must_no 270 W5).mono ?_
  rintro e W6 ⟨rfl, rfl⟩
  refine leaves_cons (f := 28) (args := #[.pointer (some ⟨w.heap.size + 1 + 1 + 1 + 1, 0, none⟩), .func (.func 34) #[] #[.pointer (some ⟨w.heap.size + 1 + 1, 0, none⟩), .pointer (some ⟨w.heap.size + 1 + 1 + 1, 0, none⟩)]]) (by simp) (by simp [go_sem]) ?_
  refine (caught_up (w.heap.size + 1 + 1 + 1 + 1) 34 _ 270 [] W5 (fun w' => w' = (W5.setCell ⟨w.heap.size + 1 + 1, 0, none⟩ (.slice none 0 0)).setCell ⟨w.heap.size + 1 + 1 + 1, 0, none⟩ (.bool false)) (enters_of Try.func34 (by kernel_rfl) rfl) (clearA_any _ _ W5 _ _ (by omega) Q2 Q3) (fun w' h => by rw [h]; exact ⟨_, blk_set_other _ (blk_set_other _ Q4 (by dsimp only; omega)) (by dsimp only; omega)⟩)).mono ?_
  rintro e u' w'' ⟨rfl, rfl, w1, rfl, rfl⟩
  obtain ⟨c2, c3, c4, B⟩ := upA_tail w W5 w.heap.size 270 _ _ _ (Nat.le_refl _) E5.out Q2 Q3 Q4
  have key := B
  simpa [Leaves, settle, results, Try.results14, go_sem, c2, c3, c4] using key

end Go.Proofs.Ytnkpmeplapkobaa
