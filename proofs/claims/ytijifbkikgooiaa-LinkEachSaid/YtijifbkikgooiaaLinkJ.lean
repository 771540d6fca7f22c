/- Link: Send, the other cases. -/
import Derived.Test.YtijifbkikgooiaaLinkI
import Derived.Deep.AppendLies
namespace Go.Proofs.Ytijifbkikgooiaa
open Go.RowKit Go.Shelf

theorem jump_ret {l : Nat} {J : Act → World → Prop} {Q : Exit → Act → World → Prop} {a : Act} {w : World} : Exit.jump l J Q .ret a w = Q .ret a w := rfl

set_option maxRecDepth 100000 in
set_option maxHeartbeats 1000000 in
theorem send_210 (w : World) (v : Value) (l : Lk) (k : Nat) (x : Int) (ho : l.out.length ≤ 1099511627776) (hi : l.inn.length ≤ 1099511627776) (hl : LkR w v l) (hr : rightB l = true) (hx : l.out[k]? = some x) (hge : 1099511627776 ≤ x) :
    Calls Try.prog 20 #[v, .int .i64 k] w (SendPost w (noL, (0, 0), 210)) := by
  have hl' := hl
  have hlt : k < l.out.length := (List.getElem?_eq_some_iff.1 hx).1
  obtain ⟨s1, s2, rfl, h1, h2⟩ := hl
  obtain ⟨b, off, c1, rfl, hb, hcell⟩ := h1.atI hlt
  obtain ⟨a2, c2, rfl⟩ := h2.shape
  have hc : checkE l = 0 := by simp [checkE, hr]
  have hcx := hcell k x hx
  have HX := Lib.hid hx
  clear hcell hx hr h1 h2
  go_enter Try.func20, Try.ntmps20
  go_wp2_with fail
  refine wp_scope_fwd 0 rfl ?_
  go_wp2_with fail
  obtain ⟨W, hW⟩ : ∃ W', W' = ((w.alloc (.cells #[.int .i64 l.inc, .slice (some ⟨b, off, none⟩) l.out.length c1, .slice a2 l.inn.length c2] 25)).alloc (.cells #[.int .i64 0, .slice none 0 0, .slice none 0 0] 25)).alloc (.cells #[.int .i64 0, .int .i64 0] 27) := ⟨_, rfl⟩
  rw [← hW]
  have hB : Below w.heap.size w W := by rw [hW]; (repeat (first | (with_reducible exact Below.refl _ _) | (with_reducible assumption) | (with_reducible refine below_drewN ?_ _) | (with_reducible refine Below.drew ?_) | ((with_reducible refine Below.alloc ?_ ?_ _); rotate_left; focus (first | (with_reducible exact Nat.le_refl _) | omega | (simp; done) | (simp; omega))) | ((with_reducible refine Below.setCell (p := ⟨_, _, _⟩) ?_ ?_ _); rotate_left; focus (first | (with_reducible exact Nat.le_refl _) | omega | (simp; done) | (simp; omega)))))
  have hsz : w.heap.size + 2 < W.heap.size := by rw [hW]; simp
  have q0 : W.heap[w.heap.size]? = some (.cells #[.int .i64 l.inc, .slice (some ⟨b, off, none⟩) l.out.length c1, .slice a2 l.inn.length c2] 25 (0, 0)) := by rw [hW]; exact blk_old _ (blk_old _ (blk_new _ _))
  have q1 : W.heap[w.heap.size + 1]? = some (.cells #[.int .i64 0, .slice none 0 0, .slice none 0 0] 25 (0, 0)) := by rw [hW]; have := blk_new (w.alloc (.cells #[.int .i64 l.inc, .slice (some ⟨b, off, none⟩) l.out.length c1, .slice a2 l.inn.length c2] 25)) (.cells #[.int .i64 0, .slice none 0 0, .slice none 0 0] 25); rw [World.size_alloc] at this; exact blk_old _ this
  have q2 : W.heap[w.heap.size + 1 + 1]? = some (.cells #[.int .i64 0, .int .i64 0] 27 (0, 0)) := by rw [hW]; have := blk_new ((w.alloc (.cells #[.int .i64 l.inc, .slice (some ⟨b, off, none⟩) l.out.length c1, .slice a2 l.inn.length c2] 25)).alloc (.cells #[.int .i64 0, .slice none 0 0, .slice none 0 0] 25)) (.cells #[.int .i64 0, .int .i64 0] 27); rw [World.size_alloc, World.size_alloc] at this; exact this
  clear hW
  refine (check_any _ _ l ho hi (hl'.below hB)).mono ?_
  rintro e W1 ⟨rfl, hB1⟩
  rw [hc]
  have r0 := cells3 (blk_below q0 hB1 (by omega))
  have r1 := cells3 (blk_below q1 hB1 (by omega))
  have r2 := cells2 (blk_below q2 hB1 (by omega))
  have hD := hB.trans (hB1.mono (Nat.le_of_lt (by omega)))
  have hcy := (hD.cell (p := ⟨b, off + k, none⟩) hb).trans hcx
  have i0 : (0 : Int) ≤ (k : Int) := by omega
  clear q0 q1 q2 hc hcx
  go_wp2
  go_step3
  refine ⟨rfl, ?_⟩
  go_wp2
  rw [Exit.noGoto_ret]
  refine bodyPost_ret (v := .tuple #[.agg #[.int .i64 0, .slice none 0 0, .slice none 0 0], .agg #[.int .i64 0, .int .i64 0], .int .i64 210]) (by simp [results, Try.results20, go_sem, r1, r2]) rfl ⟨_, rfl, ⟨_, _, rfl, World.ownsRow_nil _ _ _ _, World.ownsRow_nil _ _ _ _⟩, ?_⟩
  (repeat (first | (with_reducible exact Below.refl _ _) | (with_reducible assumption) | (with_reducible refine below_drewN ?_ _) | (with_reducible refine Below.drew ?_) | ((with_reducible refine Below.alloc ?_ ?_ _); rotate_left; focus (first | (with_reducible exact Nat.le_refl _) | omega | (simp; done) | (simp; omega))) | ((with_reducible refine Below.setCell (p := ⟨_, _, _⟩) ?_ ?_ _); rotate_left; focus (first | (with_reducible exact Nat.le_refl _) | omega | (simp; done) | (simp; omega)))))

set_option maxRecDepth 100000 in
set_option maxHeartbeats 2000000 in
theorem send_ok (w : World) (v : Value) (l : Lk) (k : Nat) (x : Int) (ho : l.out.length ≤ 1099511627776) (hi : l.inn.length ≤ 1099511627776) (hl : LkR w v l) (hr : rightB l = true) (hx : l.out[k]? = some x) (hge : x < 1099511627776) (hx0 : 0 ≤ x) :
    Calls Try.prog 20 #[v, .int .i64 k] w (SendPost w (⟨l.inc, l.out.set k (x + 1), l.inn⟩, (l.inc, x + 1), 0)) := by
  have hl' := hl
  have hlt : k < l.out.length := (List.getElem?_eq_some_iff.1 hx).1
  obtain ⟨s1, s2, rfl, h1, h2⟩ := hl
  obtain ⟨b, off, c1, rfl, hb, hcell⟩ := h1.atI hlt
  obtain ⟨a2, c2, rfl⟩ := h2.shape
  have hc : checkE l = 0 := by simp [checkE, hr]
  have hcx := hcell k x hx
  have HX := Lib.hid hx
  clear hcell hx hr h1 h2
  go_enter Try.func20, Try.ntmps20
  go_wp2_with fail
  refine wp_scope_fwd 0 rfl ?_
  go_wp2_with fail
  obtain ⟨W, hW⟩ : ∃ W', W' = ((w.alloc (.cells #[.int .i64 l.inc, .slice (some ⟨b, off, none⟩) l.out.length c1, .slice a2 l.inn.length c2] 25)).alloc (.cells #[.int .i64 0, .slice none 0 0, .slice none 0 0] 25)).alloc (.cells #[.int .i64 0, .int .i64 0] 27) := ⟨_, rfl⟩
  rw [← hW]
  have hB : Below w.heap.size w W := by rw [hW]; (repeat (first | (with_reducible exact Below.refl _ _) | (with_reducible assumption) | (with_reducible refine below_drewN ?_ _) | (with_reducible refine Below.drew ?_) | ((with_reducible refine Below.alloc ?_ ?_ _); rotate_left; focus (first | (with_reducible exact Nat.le_refl _) | omega | (simp; done) | (simp; omega))) | ((with_reducible refine Below.setCell (p := ⟨_, _, _⟩) ?_ ?_ _); rotate_left; focus (first | (with_reducible exact Nat.le_refl _) | omega | (simp; done) | (simp; omega)))))
  have hsz : w.heap.size + 2 < W.heap.size := by rw [hW]; simp
  have q0 : W.heap[w.heap.size]? = some (.cells #[.int .i64 l.inc, .slice (some ⟨b, off, none⟩) l.out.length c1, .slice a2 l.inn.length c2] 25 (0, 0)) := by rw [hW]; exact blk_old _ (blk_old _ (blk_new _ _))
  have q1 : W.heap[w.heap.size + 1]? = some (.cells #[.int .i64 0, .slice none 0 0, .slice none 0 0] 25 (0, 0)) := by rw [hW]; have := blk_new (w.alloc (.cells #[.int .i64 l.inc, .slice (some ⟨b, off, none⟩) l.out.length c1, .slice a2 l.inn.length c2] 25)) (.cells #[.int .i64 0, .slice none 0 0, .slice none 0 0] 25); rw [World.size_alloc] at this; exact blk_old _ this
  have q2 : W.heap[w.heap.size + 1 + 1]? = some (.cells #[.int .i64 0, .int .i64 0] 27 (0, 0)) := by rw [hW]; have := blk_new ((w.alloc (.cells #[.int .i64 l.inc, .slice (some ⟨b, off, none⟩) l.out.length c1, .slice a2 l.inn.length c2] 25)).alloc (.cells #[.int .i64 0, .slice none 0 0, .slice none 0 0] 25)) (.cells #[.int .i64 0, .int .i64 0] 27); rw [World.size_alloc, World.size_alloc] at this; exact this
  clear hW
  refine (check_any _ _ l ho hi (hl'.below hB)).mono ?_
  rintro e W1 ⟨rfl, hB1⟩
  rw [hc]
  have q0 := blk_below q0 hB1 (by omega)
  have q1 := blk_below q1 hB1 (by omega)
  have q2 := blk_below q2 hB1 (by omega)
  have r0 := cells3 q0
  have hD := hB.trans (hB1.mono (Nat.le_of_lt (by omega)))
  have hcy := (hD.cell (p := ⟨b, off + k, none⟩) hb).trans hcx
  have i0 : (0 : Int) ≤ (k : Int) := by omega
  have hs1 := hB1.size
  clear hc hcx
  go_wp2_with fail
  refine (own_any _ _ l ho hi (hl'.below hD)).mono ?_
  rintro e W2 ⟨r, rfl, ⟨s1, s2, rfl, o1, o2⟩, hB2⟩
  have q0 := blk_below q0 hB2 (by omega)
  have q1 := blk_below q1 hB2 (by omega)
  have q2 := blk_below q2 hB2 (by omega)
  obtain ⟨g, cap, rfl, hg1, hg2⟩ := o1.form (by omega)
  obtain ⟨a3, c3, rfl⟩ := owns_shape o2
  have p0 := cells3 q0
  have p1 := cells3 q1
  have p2 := cells2 q2
  have gc : W2.cell? ⟨g, k, none⟩ = some (.int .i64 x) := by
    rw [o1.cellAt k (by omega), flat_encI, List.getElem?_map, HX.out]; rfl
  have gf := o1.frozenAt k
  have n0 : ¬ w.heap.size = g := by omega
  have n1 : ¬ w.heap.size + 1 = g := by omega
  have n2 : ¬ w.heap.size + 1 + 1 = g := by omega
  have n0' : ¬ g = w.heap.size := by omega
  have n1' : ¬ g = w.heap.size + 1 := by omega
  have n2' : ¬ g = w.heap.size + 1 + 1 := by omega
  have O1 := Lib.hid o1
  have O2 := Lib.hid o2
  clear o1 o2 r0
  go_wp2
  obtain ⟨W4, hW4⟩ : ∃ W', W' = ((((W2.setCell ⟨w.heap.size + 1, 0, none⟩ (.int .i64 l.inc)).setCell ⟨w.heap.size + 1, 1, none⟩ (.slice (some ⟨g, 0, none⟩) l.out.length cap)).setCell ⟨w.heap.size + 1, 2, none⟩ (.slice a3 l.inn.length c3)).setCell ⟨g, k, none⟩ (.int .i64 (x + 1))) := ⟨_, rfl⟩
  rw [← hW4]
  have q1 : W4.heap[w.heap.size + 1]? = some (.cells #[.int .i64 l.inc, .slice (some ⟨g, 0, none⟩) l.out.length cap, .slice a3 l.inn.length c3] 25 (0, 0)) := by
    rw [hW4]; exact blk_set_other _ (blk_set _ (blk_set _ (blk_set _ q1))) n1
  have q2 : W4.heap[w.heap.size + 1 + 1]? = some (.cells #[.int .i64 0, .int .i64 0] 27 (0, 0)) := by
    rw [hW4]; exact blk_set_other _ (blk_set_other _ (blk_set_other _ (blk_set_other _ q2 (by simp)) (by simp)) (by simp)) n2
  have b0 : (⟨w.heap.size + 1, 0, none⟩ : Addr).block < W1.heap.size := by show w.heap.size + 1 < _; omega
  have h4 := ownsRow_setCell_below (ownsRow_setCell_below (ownsRow_setCell_below O2.out (a := ⟨w.heap.size + 1, 0, none⟩) b0 (.int .i64 l.inc)) (a := ⟨w.heap.size + 1, 1, none⟩) b0 (.slice (some ⟨g, 0, none⟩) l.out.length cap)) (a := ⟨w.heap.size + 1, 2, none⟩) b0 (.slice a3 l.inn.length c3)
  have h5 := ownsRow_setCell_below (ownsRow_setCell_below (ownsRow_setCell_below O1.out (a := ⟨w.heap.size + 1, 0, none⟩) b0 (.int .i64 l.inc)) (a := ⟨w.heap.size + 1, 1, none⟩) b0 (.slice (some ⟨g, 0, none⟩) l.out.length cap)) (a := ⟨w.heap.size + 1, 2, none⟩) b0 (.slice a3 l.inn.length c3)
  have o1 : W4.ownsRow (w.heap.size + 3) 2 1 (.slice (some ⟨g, 0, none⟩) l.out.length cap) l.out.length ((l.out.set k (x + 1)).flatMap encI) := by
    rw [hW4, ← set_flatI]
    exact ((owns_base h5 (by omega)).stored k _).1
  have o2 : W4.ownsRow (w.heap.size + 3) 27 2 (.slice a3 l.inn.length c3) l.inn.length (l.inn.flatMap encP) := by
    rw [hW4]
    refine owns_base (base := W1.heap.size) ?_ (by omega)
    refine ownsRow_setCell_other h4 ?_ _
    rcases owns_ne h4 h5 (by decide) with h | h
    · rw [h]; simp
    · simpa [Value.ownBlock] using h
  clear h4 h5 b0
  have hE : Below w.heap.size w W4 := by
    rw [hW4]
    have hF := hD.trans (hB2.mono hD.size)
    exact (((hF.setCell (by simp) _).setCell (by simp) _).setCell (by simp) _).setCell (by simp; omega) _
  have gc4 : W4.cell? ⟨g, k, none⟩ = some (.int .i64 (x + 1)) := by
    rw [o1.cellAt k (by omega), flat_encI, List.getElem?_map, List.getElem?_set_self (by omega)]; rfl
  have O1' := Lib.hid o1
  have O2' := Lib.hid o2
  have Q1 := Lib.hid q1
  have Q2 := Lib.hid q2
  have p1 := cells3 q1
  have p2 := cells2 q2
  clear hW4 q1 q2 o1 o2 O1 O2 gc gf p0 hcy q0
  go_region_held3 (fun w' => w'.cell? ⟨w.heap.size + 1, 0, none⟩ = some (.int .i64 l.inc) ∧ w'.cell? ⟨w.heap.size + 1, 1, none⟩ = some (.slice (some ⟨g, 0, none⟩) l.out.length cap) ∧ w'.cell? ⟨w.heap.size + 1, 2, none⟩ = some (.slice a3 l.inn.length c3) ∧ w'.cell? ⟨g, k, none⟩ = some (.int .i64 (x + 1))) (refine ⟨?_, ?_, ?_, ?_⟩ <;> simp [go_sem, p1, gc4]) (fail)
  go_wp2
  rw [jump_ret]
  refine bodyPost_ret (v := .tuple #[.agg #[.int .i64 l.inc, .slice (some ⟨g, 0, none⟩) l.out.length cap, .slice a3 l.inn.length c3], .agg #[.int .i64 l.inc, .int .i64 (x + 1)], .int .i64 0]) (by simp [results, Try.results20, go_sem, p1, p2]) rfl ⟨_, rfl, ⟨_, _, rfl, ?_, ?_⟩, ?_⟩
  · simp only [List.length_set]
    refine owns_base (base := w.heap.size + 3) ?_ (by omega)
    repeat (first | (with_reducible refine World.ownsRow.drew ?_) | ((with_reducible refine ownsRow_setCell_below ?_ ?_ _); rotate_left; focus (first | (simp; done) | (simp; omega) | (dsimp only; omega))))
    exact O1'.out
  · refine owns_base (base := w.heap.size + 3) ?_ (by omega)
    repeat (first | (with_reducible refine World.ownsRow.drew ?_) | ((with_reducible refine ownsRow_setCell_below ?_ ?_ _); rotate_left; focus (first | (simp; done) | (simp; omega) | (dsimp only; omega))))
    exact O2'.out
  · (repeat (first | (with_reducible exact Below.refl _ _) | (with_reducible assumption) | (with_reducible refine below_drewN ?_ _) | (with_reducible refine Below.drew ?_) | ((with_reducible refine Below.alloc ?_ ?_ _); rotate_left; focus (first | (with_reducible exact Nat.le_refl _) | omega | (simp; done) | (simp; omega))) | ((with_reducible refine Below.setCell (p := ⟨_, _, _⟩) ?_ ?_ _); rotate_left; focus (first | (with_reducible exact Nat.le_refl _) | omega | (simp; done) | (simp; omega)))))

end Go.Proofs.Ytijifbkikgooiaa
