/- Link: the reference's Send. -/
import Derived.Test.YtijifbkikgooiaaLinkI
import Derived.Deep.AppendLies
import Derived.Deep.Light
namespace Go.Proofs.Ytijifbkikgooiaa
open Go.RowKit Go.Shelf

set_option maxRecDepth 100000 in
set_option maxHeartbeats 1000000 in
theorem refSend_bad1 (w : World) (v : Value) (l : Lk) (to : Int) (ho : l.out.length ≤ 1099511627776) (hi : l.inn.length ≤ 1099511627776) (hl : LkR w v l) (hr : rightB l = false) :
    Calls Try.prog 21 #[v, .int .i64 to] w (SendPost w (noL, (0, 0), 2)) := by
  have hl' := hl
  obtain ⟨s1, s2, rfl, h1, h2⟩ := hl
  obtain ⟨a1, c1, rfl⟩ := h1.shape
  obtain ⟨a2, c2, rfl⟩ := h2.shape
  have HR := Lib.hid hr
  clear hr
  go_enter Try.func21, Try.ntmps21
  go_wp2_with fail
  obtain ⟨W, hW⟩ : ∃ W', W' = ((w.alloc (.cells #[.int .i64 l.inc, .slice a1 l.out.length c1, .slice a2 l.inn.length c2] 25)).alloc (.cells #[.int .i64 0, .slice none 0 0, .slice none 0 0] 25)).alloc (.cells #[.int .i64 0, .int .i64 0] 27) := ⟨_, rfl⟩
  rw [← hW]
  have hB : Below w.heap.size w W := by rw [hW]; (repeat (first | (with_reducible exact Below.refl _ _) | (with_reducible assumption) | (with_reducible refine below_drewN ?_ _) | (with_reducible refine Below.drew ?_) | ((with_reducible refine Below.alloc ?_ ?_ _); rotate_left; focus (first | (with_reducible exact Nat.le_refl _) | omega | (simp; done) | (simp; omega))) | ((with_reducible refine Below.setCell (p := ⟨_, _, _⟩) ?_ ?_ _); rotate_left; focus (first | (with_reducible exact Nat.le_refl _) | omega | (simp; done) | (simp; omega)))))
  have hsz : w.heap.size + 2 < W.heap.size := by rw [hW]; simp
  have q0 : W.heap[w.heap.size]? = some (.cells #[.int .i64 l.inc, .slice a1 l.out.length c1, .slice a2 l.inn.length c2] 25 (0, 0)) := by rw [hW]; exact blk_old _ (blk_old _ (blk_new _ _))
  have q1 : W.heap[w.heap.size + 1]? = some (.cells #[.int .i64 0, .slice none 0 0, .slice none 0 0] 25 (0, 0)) := by rw [hW]; have := blk_new (w.alloc (.cells #[.int .i64 l.inc, .slice a1 l.out.length c1, .slice a2 l.inn.length c2] 25)) (.cells #[.int .i64 0, .slice none 0 0, .slice none 0 0] 25); rw [World.size_alloc] at this; exact blk_old _ this
  have q2 : W.heap[w.heap.size + 1 + 1]? = some (.cells #[.int .i64 0, .int .i64 0] 27 (0, 0)) := by rw [hW]; have := blk_new ((w.alloc (.cells #[.int .i64 l.inc, .slice a1 l.out.length c1, .slice a2 l.inn.length c2] 25)).alloc (.cells #[.int .i64 0, .slice none 0 0, .slice none 0 0] 25)) (.cells #[.int .i64 0, .int .i64 0] 27); rw [World.size_alloc, World.size_alloc] at this; exact this
  clear hW
  refine (refRight_any _ _ l ho hi (hl'.below hB)).mono ?_
  rintro e W1 ⟨rfl, hB1⟩
  rw [HR.out]
  have r0 := cells3 (blk_below q0 hB1 (by omega))
  have r1 := cells3 (blk_below q1 hB1 (by omega))
  have r2 := cells2 (blk_below q2 hB1 (by omega))
  clear q0 q1 q2
  go_wp2
  go_light
  refine bodyPost_ret (v := .tuple #[.agg #[.int .i64 0, .slice none 0 0, .slice none 0 0], .agg #[.int .i64 0, .int .i64 0], .int .i64 2]) (by simp [results, Try.results21, go_sem, r1, r2]) rfl ⟨_, rfl, ⟨_, _, rfl, World.ownsRow_nil _ _ _ _, World.ownsRow_nil _ _ _ _⟩, ?_⟩
  have hD := hB.trans (hB1.mono (Nat.le_of_lt (by omega)))
  clear r0 r1 r2 hl' h1 h2
  (repeat (first | (with_reducible exact Below.refl _ _) | (with_reducible assumption) | (with_reducible refine below_drewN ?_ _) | (with_reducible refine Below.drew ?_) | ((with_reducible refine Below.alloc ?_ ?_ _); rotate_left; focus (first | (with_reducible exact Nat.le_refl _) | omega | (simp; done) | (simp; omega))) | ((with_reducible refine Below.setCell (p := ⟨_, _, _⟩) ?_ ?_ _); rotate_left; focus (first | (with_reducible exact Nat.le_refl _) | omega | (simp; done) | (simp; omega)))))

set_option maxRecDepth 100000 in
set_option maxHeartbeats 1000000 in
theorem refSend_bad2 (w : World) (v : Value) (l : Lk) (to : Int) (ho : l.out.length ≤ 1099511627776) (hi : l.inn.length ≤ 1099511627776) (hl : LkR w v l) (hr : rightB l = true) (hlt : to < 0) :
    Calls Try.prog 21 #[v, .int .i64 to] w (SendPost w (noL, (0, 0), 4)) := by
  have hl' := hl
  obtain ⟨s1, s2, rfl, h1, h2⟩ := hl
  obtain ⟨a1, c1, rfl⟩ := h1.shape
  obtain ⟨a2, c2, rfl⟩ := h2.shape
  have HR := Lib.hid hr
  clear hr
  go_enter Try.func21, Try.ntmps21
  go_wp2_with fail
  obtain ⟨W, hW⟩ : ∃ W', W' = ((w.alloc (.cells #[.int .i64 l.inc, .slice a1 l.out.length c1, .slice a2 l.inn.length c2] 25)).alloc (.cells #[.int .i64 0, .slice none 0 0, .slice none 0 0] 25)).alloc (.cells #[.int .i64 0, .int .i64 0] 27) := ⟨_, rfl⟩
  rw [← hW]
  have hB : Below w.heap.size w W := by rw [hW]; (repeat (first | (with_reducible exact Below.refl _ _) | (with_reducible assumption) | (with_reducible refine below_drewN ?_ _) | (with_reducible refine Below.drew ?_) | ((with_reducible refine Below.alloc ?_ ?_ _); rotate_left; focus (first | (with_reducible exact Nat.le_refl _) | omega | (simp; done) | (simp; omega))) | ((with_reducible refine Below.setCell (p := ⟨_, _, _⟩) ?_ ?_ _); rotate_left; focus (first | (with_reducible exact Nat.le_refl _) | omega | (simp; done) | (simp; omega)))))
  have hsz : w.heap.size + 2 < W.heap.size := by rw [hW]; simp
  have q0 : W.heap[w.heap.size]? = some (.cells #[.int .i64 l.inc, .slice a1 l.out.length c1, .slice a2 l.inn.length c2] 25 (0, 0)) := by rw [hW]; exact blk_old _ (blk_old _ (blk_new _ _))
  have q1 : W.heap[w.heap.size + 1]? = some (.cells #[.int .i64 0, .slice none 0 0, .slice none 0 0] 25 (0, 0)) := by rw [hW]; have := blk_new (w.alloc (.cells #[.int .i64 l.inc, .slice a1 l.out.length c1, .slice a2 l.inn.length c2] 25)) (.cells #[.int .i64 0, .slice none 0 0, .slice none 0 0] 25); rw [World.size_alloc] at this; exact blk_old _ this
  have q2 : W.heap[w.heap.size + 1 + 1]? = some (.cells #[.int .i64 0, .int .i64 0] 27 (0, 0)) := by rw [hW]; have := blk_new ((w.alloc (.cells #[.int .i64 l.inc, .slice a1 l.out.length c1, .slice a2 l.inn.length c2] 25)).alloc (.cells #[.int .i64 0, .slice none 0 0, .slice none 0 0] 25)) (.cells #[.int .i64 0, .int .i64 0] 27); rw [World.size_alloc, World.size_alloc] at this; exact this
  clear hW
  refine (refRight_any _ _ l ho hi (hl'.below hB)).mono ?_
  rintro e W1 ⟨rfl, hB1⟩
  rw [HR.out]
  have r0 := cells3 (blk_below q0 hB1 (by omega))
  have r1 := cells3 (blk_below q1 hB1 (by omega))
  have r2 := cells2 (blk_below q2 hB1 (by omega))
  clear q0 q1 q2
  go_wp2
  go_light
  refine bodyPost_ret (v := .tuple #[.agg #[.int .i64 0, .slice none 0 0, .slice none 0 0], .agg #[.int .i64 0, .int .i64 0], .int .i64 4]) (by simp [results, Try.results21, go_sem, r1, r2]) rfl ⟨_, rfl, ⟨_, _, rfl, World.ownsRow_nil _ _ _ _, World.ownsRow_nil _ _ _ _⟩, ?_⟩
  have hD := hB.trans (hB1.mono (Nat.le_of_lt (by omega)))
  clear r0 r1 r2 hl' h1 h2
  (repeat (first | (with_reducible exact Below.refl _ _) | (with_reducible assumption) | (with_reducible refine below_drewN ?_ _) | (with_reducible refine Below.drew ?_) | ((with_reducible refine Below.alloc ?_ ?_ _); rotate_left; focus (first | (with_reducible exact Nat.le_refl _) | omega | (simp; done) | (simp; omega))) | ((with_reducible refine Below.setCell (p := ⟨_, _, _⟩) ?_ ?_ _); rotate_left; focus (first | (with_reducible exact Nat.le_refl _) | omega | (simp; done) | (simp; omega)))))

set_option maxRecDepth 100000 in
set_option maxHeartbeats 1000000 in
theorem refSend_bad3 (w : World) (v : Value) (l : Lk) (to : Int) (ho : l.out.length ≤ 1099511627776) (hi : l.inn.length ≤ 1099511627776) (hl : LkR w v l) (hr : rightB l = true) (h0 : 0 ≤ to) (hge : (l.out.length : Int) ≤ to) :
    Calls Try.prog 21 #[v, .int .i64 to] w (SendPost w (noL, (0, 0), 4)) := by
  have hl' := hl
  obtain ⟨s1, s2, rfl, h1, h2⟩ := hl
  obtain ⟨a1, c1, rfl⟩ := h1.shape
  obtain ⟨a2, c2, rfl⟩ := h2.shape
  have HR := Lib.hid hr
  clear hr
  go_enter Try.func21, Try.ntmps21
  go_wp2_with fail
  obtain ⟨W, hW⟩ : ∃ W', W' = ((w.alloc (.cells #[.int .i64 l.inc, .slice a1 l.out.length c1, .slice a2 l.inn.length c2] 25)).alloc (.cells #[.int .i64 0, .slice none 0 0, .slice none 0 0] 25)).alloc (.cells #[.int .i64 0, .int .i64 0] 27) := ⟨_, rfl⟩
  rw [← hW]
  have hB : Below w.heap.size w W := by rw [hW]; (repeat (first | (with_reducible exact Below.refl _ _) | (with_reducible assumption) | (with_reducible refine below_drewN ?_ _) | (with_reducible refine Below.drew ?_) | ((with_reducible refine Below.alloc ?_ ?_ _); rotate_left; focus (first | (with_reducible exact Nat.le_refl _) | omega | (simp; done) | (simp; omega))) | ((with_reducible refine Below.setCell (p := ⟨_, _, _⟩) ?_ ?_ _); rotate_left; focus (first | (with_reducible exact Nat.le_refl _) | omega | (simp; done) | (simp; omega)))))
  have hsz : w.heap.size + 2 < W.heap.size := by rw [hW]; simp
  have q0 : W.heap[w.heap.size]? = some (.cells #[.int .i64 l.inc, .slice a1 l.out.length c1, .slice a2 l.inn.length c2] 25 (0, 0)) := by rw [hW]; exact blk_old _ (blk_old _ (blk_new _ _))
  have q1 : W.heap[w.heap.size + 1]? = some (.cells #[.int .i64 0, .slice none 0 0, .slice none 0 0] 25 (0, 0)) := by rw [hW]; have := blk_new (w.alloc (.cells #[.int .i64 l.inc, .slice a1 l.out.length c1, .slice a2 l.inn.length c2] 25)) (.cells #[.int .i64 0, .slice none 0 0, .slice none 0 0] 25); rw [World.size_alloc] at this; exact blk_old _ this
  have q2 : W.heap[w.heap.size + 1 + 1]? = some (.cells #[.int .i64 0, .int .i64 0] 27 (0, 0)) := by rw [hW]; have := blk_new ((w.alloc (.cells #[.int .i64 l.inc, .slice a1 l.out.length c1, .slice a2 l.inn.length c2] 25)).alloc (.cells #[.int .i64 0, .slice none 0 0, .slice none 0 0] 25)) (.cells #[.int .i64 0, .int .i64 0] 27); rw [World.size_alloc, World.size_alloc] at this; exact this
  clear hW
  refine (refRight_any _ _ l ho hi (hl'.below hB)).mono ?_
  rintro e W1 ⟨rfl, hB1⟩
  rw [HR.out]
  have r0 := cells3 (blk_below q0 hB1 (by omega))
  have r1 := cells3 (blk_below q1 hB1 (by omega))
  have r2 := cells2 (blk_below q2 hB1 (by omega))
  clear q0 q1 q2
  go_wp2
  go_light
  refine bodyPost_ret (v := .tuple #[.agg #[.int .i64 0, .slice none 0 0, .slice none 0 0], .agg #[.int .i64 0, .int .i64 0], .int .i64 4]) (by simp [results, Try.results21, go_sem, r1, r2]) rfl ⟨_, rfl, ⟨_, _, rfl, World.ownsRow_nil _ _ _ _, World.ownsRow_nil _ _ _ _⟩, ?_⟩
  have hD := hB.trans (hB1.mono (Nat.le_of_lt (by omega)))
  clear r0 r1 r2 hl' h1 h2
  (repeat (first | (with_reducible exact Below.refl _ _) | (with_reducible assumption) | (with_reducible refine below_drewN ?_ _) | (with_reducible refine Below.drew ?_) | ((with_reducible refine Below.alloc ?_ ?_ _); rotate_left; focus (first | (with_reducible exact Nat.le_refl _) | omega | (simp; done) | (simp; omega))) | ((with_reducible refine Below.setCell (p := ⟨_, _, _⟩) ?_ ?_ _); rotate_left; focus (first | (with_reducible exact Nat.le_refl _) | omega | (simp; done) | (simp; omega)))))

set_option maxRecDepth 100000 in
set_option maxHeartbeats 1000000 in
theorem refSend_210 (w : World) (v : Value) (l : Lk) (k : Nat) (x : Int) (ho : l.out.length ≤ 1099511627776) (hi : l.inn.length ≤ 1099511627776) (hl : LkR w v l) (hr : rightB l = true) (hx : l.out[k]? = some x) (hge : x = 1099511627776) :
    Calls Try.prog 21 #[v, .int .i64 k] w (SendPost w (noL, (0, 0), 210)) := by
  have hl' := hl
  have hlt : k < l.out.length := (List.getElem?_eq_some_iff.1 hx).1
  obtain ⟨s1, s2, rfl, h1, h2⟩ := hl
  obtain ⟨b, off, c1, rfl, hb, hcell⟩ := h1.atI hlt
  obtain ⟨a2, c2, rfl⟩ := h2.shape
  have hcx := hcell k x hx
  have HX := Lib.hid hx
  have HR := Lib.hid hr
  clear hcell hx hr h1 h2
  subst hge
  go_enter Try.func21, Try.ntmps21
  go_wp2_with fail
  obtain ⟨W, hW⟩ : ∃ W', W' = ((w.alloc (.cells #[.int .i64 l.inc, .slice (some ⟨b, off, none⟩) l.out.length c1, .slice a2 l.inn.length c2] 25)).alloc (.cells #[.int .i64 0, .slice none 0 0, .slice none 0 0] 25)).alloc (.cells #[.int .i64 0, .int .i64 0] 27) := ⟨_, rfl⟩
  rw [← hW]
  have hB : Below w.heap.size w W := by rw [hW]; (repeat (first | (with_reducible exact Below.refl _ _) | (with_reducible assumption) | (with_reducible refine below_drewN ?_ _) | (with_reducible refine Below.drew ?_) | ((with_reducible refine Below.alloc ?_ ?_ _); rotate_left; focus (first | (with_reducible exact Nat.le_refl _) | omega | (simp; done) | (simp; omega))) | ((with_reducible refine Below.setCell (p := ⟨_, _, _⟩) ?_ ?_ _); rotate_left; focus (first | (with_reducible exact Nat.le_refl _) | omega | (simp; done) | (simp; omega)))))
  have hsz : w.heap.size + 2 < W.heap.size := by rw [hW]; simp
  have q0 : W.heap[w.heap.size]? = some (.cells #[.int .i64 l.inc, .slice (some ⟨b, off, none⟩) l.out.length c1, .slice a2 l.inn.length c2] 25 (0, 0)) := by rw [hW]; exact blk_old _ (blk_old _ (blk_new _ _))
  have q1 : W.heap[w.heap.size + 1]? = some (.cells #[.int .i64 0, .slice none 0 0, .slice none 0 0] 25 (0, 0)) := by rw [hW]; have := blk_new (w.alloc (.cells #[.int .i64 l.inc, .slice (some ⟨b, off, none⟩) l.out.length c1, .slice a2 l.inn.length c2] 25)) (.cells #[.int .i64 0, .slice none 0 0, .slice none 0 0] 25); rw [World.size_alloc] at this; exact blk_old _ this
  have q2 : W.heap[w.heap.size + 1 + 1]? = some (.cells #[.int .i64 0, .int .i64 0] 27 (0, 0)) := by rw [hW]; have := blk_new ((w.alloc (.cells #[.int .i64 l.inc, .slice (some ⟨b, off, none⟩) l.out.length c1, .slice a2 l.inn.length c2] 25)).alloc (.cells #[.int .i64 0, .slice none 0 0, .slice none 0 0] 25)) (.cells #[.int .i64 0, .int .i64 0] 27); rw [World.size_alloc, World.size_alloc] at this; exact this
  clear hW
  refine (refRight_any _ _ l ho hi (hl'.below hB)).mono ?_
  rintro e W1 ⟨rfl, hB1⟩
  rw [HR.out]
  have r0 := cells3 (blk_below q0 hB1 (by omega))
  have r1 := cells3 (blk_below q1 hB1 (by omega))
  have r2 := cells2 (blk_below q2 hB1 (by omega))
  have hD := hB.trans (hB1.mono (Nat.le_of_lt (by omega)))
  have hcy := (hD.cell (p := ⟨b, off + k, none⟩) hb).trans hcx
  have i0 : (0 : Int) ≤ (k : Int) := by omega
  clear q0 q1 q2 hcx
  go_wp2
  go_light
  refine bodyPost_ret (v := .tuple #[.agg #[.int .i64 0, .slice none 0 0, .slice none 0 0], .agg #[.int .i64 0, .int .i64 0], .int .i64 210]) (by simp [results, Try.results21, go_sem, r1, r2]) rfl ⟨_, rfl, ⟨_, _, rfl, World.ownsRow_nil _ _ _ _, World.ownsRow_nil _ _ _ _⟩, ?_⟩
  clear r0 r1 r2 hl'
  (repeat (first | (with_reducible exact Below.refl _ _) | (with_reducible assumption) | (with_reducible refine below_drewN ?_ _) | (with_reducible refine Below.drew ?_) | ((with_reducible refine Below.alloc ?_ ?_ _); rotate_left; focus (first | (with_reducible exact Nat.le_refl _) | omega | (simp; done) | (simp; omega))) | ((with_reducible refine Below.setCell (p := ⟨_, _, _⟩) ?_ ?_ _); rotate_left; focus (first | (with_reducible exact Nat.le_refl _) | omega | (simp; done) | (simp; omega)))))

set_option maxRecDepth 100000 in
set_option maxHeartbeats 2000000 in
theorem refSend_ok (w : World) (v : Value) (l : Lk) (k : Nat) (x : Int) (ho : l.out.length ≤ 1099511627776) (hi : l.inn.length ≤ 1099511627776) (hl : LkR w v l) (hr : rightB l = true) (hx : l.out[k]? = some x) (hge : x < 1099511627776) (hx0 : 0 ≤ x) :
    Calls Try.prog 21 #[v, .int .i64 k] w (SendPost w (⟨l.inc, l.out.set k (x + 1), l.inn⟩, (l.inc, x + 1), 0)) := by
  have hl' := hl
  have hlt : k < l.out.length := (List.getElem?_eq_some_iff.1 hx).1
  obtain ⟨s1, s2, rfl, h1, h2⟩ := hl
  obtain ⟨b, off, c1, rfl, hb, hcell⟩ := h1.atI hlt
  obtain ⟨a2, c2, rfl⟩ := h2.shape
  have hcx := hcell k x hx
  have HX := Lib.hid hx
  have HR := Lib.hid hr
  clear hcell hx hr h1 h2
  have hxe : (x == 1099511627776) = false := by simp; omega
  go_enter Try.func21, Try.ntmps21
  go_wp2_with fail
  obtain ⟨W, hW⟩ : ∃ W', W' = ((w.alloc (.cells #[.int .i64 l.inc, .slice (some ⟨b, off, none⟩) l.out.length c1, .slice a2 l.inn.length c2] 25)).alloc (.cells #[.int .i64 0, .slice none 0 0, .slice none 0 0] 25)).alloc (.cells #[.int .i64 0, .int .i64 0] 27) := ⟨_, rfl⟩
  rw [← hW]
  have hB : Below w.heap.size w W := by rw [hW]; (repeat (first | (with_reducible exact Below.refl _ _) | (with_reducible assumption) | (with_reducible refine below_drewN ?_ _) | (with_reducible refine Below.drew ?_) | ((with_reducible refine Below.alloc ?_ ?_ _); rotate_left; focus (first | (with_reducible exact Nat.le_refl _) | omega | (simp; done) | (simp; omega))) | ((with_reducible refine Below.setCell (p := ⟨_, _, _⟩) ?_ ?_ _); rotate_left; focus (first | (with_reducible exact Nat.le_refl _) | omega | (simp; done) | (simp; omega)))))
  have hsz : w.heap.size + 2 < W.heap.size := by rw [hW]; simp
  have q0 : W.heap[w.heap.size]? = some (.cells #[.int .i64 l.inc, .slice (some ⟨b, off, none⟩) l.out.length c1, .slice a2 l.inn.length c2] 25 (0, 0)) := by rw [hW]; exact blk_old _ (blk_old _ (blk_new _ _))
  have q1 : W.heap[w.heap.size + 1]? = some (.cells #[.int .i64 0, .slice none 0 0, .slice none 0 0] 25 (0, 0)) := by rw [hW]; have := blk_new (w.alloc (.cells #[.int .i64 l.inc, .slice (some ⟨b, off, none⟩) l.out.length c1, .slice a2 l.inn.length c2] 25)) (.cells #[.int .i64 0, .slice none 0 0, .slice none 0 0] 25); rw [World.size_alloc] at this; exact blk_old _ this
  have q2 : W.heap[w.heap.size + 1 + 1]? = some (.cells #[.int .i64 0, .int .i64 0] 27 (0, 0)) := by rw [hW]; have := blk_new ((w.alloc (.cells #[.int .i64 l.inc, .slice (some ⟨b, off, none⟩) l.out.length c1, .slice a2 l.inn.length c2] 25)).alloc (.cells #[.int .i64 0, .slice none 0 0, .slice none 0 0] 25)) (.cells #[.int .i64 0, .int .i64 0] 27); rw [World.size_alloc, World.size_alloc] at this; exact this
  clear hW
  refine (refRight_any _ _ l ho hi (hl'.below hB)).mono ?_
  rintro e W1 ⟨rfl, hB1⟩
  rw [HR.out]
  have q0 := blk_below q0 hB1 (by omega)
  have q1 := blk_below q1 hB1 (by omega)
  have q2 := blk_below q2 hB1 (by omega)
  have r0 := cells3 q0
  have hD := hB.trans (hB1.mono (Nat.le_of_lt (by omega)))
  have hcy := (hD.cell (p := ⟨b, off + k, none⟩) hb).trans hcx
  have i0 : (0 : Int) ≤ (k : Int) := by omega
  have hs1 := hB1.size
  clear hcx
  go_wp2_with fail
  refine (copy_any _ _ l ho hi (hl'.below hD)).mono ?_
  rintro e W2 ⟨r, rfl, ⟨s1, s2, rfl, o1, o2⟩, hB2⟩
  have q0 := blk_below q0 hB2 (by omega)
  have q1 := blk_below q1 hB2 (by omega)
  have q2 := blk_below q2 hB2 (by omega)
  obtain ⟨g, cap, rfl, hg1, hg2⟩ := o1.form (by omega)
  obtain ⟨a3, c3, rfl⟩ := owns_shape o2
  have p0 := cells3 q0
  have gc : W2.cell? ⟨g, k, none⟩ = some (.int .i64 x) := by
    rw [o1.cellAt k (by omega), flat_encI, List.getElem?_map, HX.out]; rfl
  have gf := o1.frozenAt k
  have O1 := Lib.hid o1
  have O2 := Lib.hid o2
  have hs2 := hB2.size
  clear o1 o2 r0 hxe
  go_wp2
  obtain ⟨W4, hW4⟩ : ∃ W', W' = ((W2.setCell ⟨g, k, none⟩ (.int .i64 (x + 1))).alloc (.cells #[.int .i64 l.inc, .slice (some ⟨g, 0, none⟩) l.out.length cap, .slice a3 l.inn.length c3] 25)) := ⟨_, rfl⟩
  rw [← hW4]
  have n1 : w.heap.size + 1 ≠ g := by omega
  have n2 : w.heap.size + 1 + 1 ≠ g := by omega
  have q1 : W4.heap[w.heap.size + 1]? = some (.cells #[.int .i64 0, .slice none 0 0, .slice none 0 0] 25 (0, 0)) := by
    rw [hW4]; exact blk_old _ (blk_set_other _ q1 n1)
  have q2 : W4.heap[w.heap.size + 1 + 1]? = some (.cells #[.int .i64 0, .int .i64 0] 27 (0, 0)) := by
    rw [hW4]; exact blk_old _ (blk_set_other _ q2 n2)
  have q7 : W4.heap[W2.heap.size]? = some (.cells #[.int .i64 l.inc, .slice (some ⟨g, 0, none⟩) l.out.length cap, .slice a3 l.inn.length c3] 25 (0, 0)) := by
    have := blk_new (W2.setCell ⟨g, k, none⟩ (.int .i64 (x + 1))) (.cells #[.int .i64 l.inc, .slice (some ⟨g, 0, none⟩) l.out.length cap, .slice a3 l.inn.length c3] 25)
    rw [hW4]; simpa using this
  have o1 : W4.ownsRow (w.heap.size + 3) 2 1 (.slice (some ⟨g, 0, none⟩) l.out.length cap) l.out.length ((l.out.set k (x + 1)).flatMap encI) := by
    rw [hW4, ← set_flatI]
    exact (((owns_base O1.out (by omega)).stored k _).1).alloc _
  have o2 : W4.ownsRow (w.heap.size + 3) 27 2 (.slice a3 l.inn.length c3) l.inn.length (l.inn.flatMap encP) := by
    rw [hW4]
    refine owns_base (base := W1.heap.size) ?_ (by omega)
    refine (ownsRow_setCell_other O2.out ?_ _).alloc _
    rcases owns_ne O2.out O1.out (by decide) with h | h
    · rw [h]; simp
    · simpa [Value.ownBlock] using h
  have hE : Below w.heap.size w W4 := by
    rw [hW4]
    exact ((hD.trans (hB2.mono hD.size)).setCell (by simp; omega) _).alloc (by simp; omega) _
  have gc4 : W4.cell? ⟨g, k, none⟩ = some (.int .i64 (x + 1)) := by
    rw [o1.cellAt k (by omega), flat_encI, List.getElem?_map, List.getElem?_set_self (by omega)]; rfl
  have O1' := Lib.hid o1
  have O2' := Lib.hid o2
  have p1 := cells3 q1
  have p2 := cells2 q2
  have p7 := cells3 q7
  obtain ⟨Z, hZ⟩ : ∃ Z, Z = W2.heap.size := ⟨_, rfl⟩
  rw [← hZ] at p7 ⊢
  have m1 : ¬ w.heap.size + 1 = Z := by omega
  have m2 : ¬ w.heap.size + 1 + 1 = Z := by omega
  have m1' : ¬ Z = w.heap.size + 1 := by omega
  have m2' : ¬ Z = w.heap.size + 1 + 1 := by omega
  have n1' : ¬ g = w.heap.size + 1 := by omega
  have n2' : ¬ g = w.heap.size + 1 + 1 := by omega
  clear hW4 q1 q2 q7 o1 o2 O1 O2 gc gf p0 hcy q0 hZ hs1 hs2 hl' hB hB1 hB2 hD
  go_region_held3 (fun w' => w'.cell? ⟨Z, 0, none⟩ = some (.int .i64 l.inc) ∧ w'.cell? ⟨Z, 1, none⟩ = some (.slice (some ⟨g, 0, none⟩) l.out.length cap) ∧ w'.cell? ⟨Z, 2, none⟩ = some (.slice a3 l.inn.length c3) ∧ w'.cell? ⟨g, k, none⟩ = some (.int .i64 (x + 1))) (refine ⟨?_, ?_, ?_, ?_⟩ <;> simp [go_sem, p7, gc4]) (fail)
  go_wp2
  go_light
  refine bodyPost_ret (v := .tuple #[.agg #[.int .i64 l.inc, .slice (some ⟨g, 0, none⟩) l.out.length cap, .slice a3 l.inn.length c3], .agg #[.int .i64 l.inc, .int .i64 (x + 1)], .int .i64 0]) (by simp [results, Try.results21, go_sem, p1, p2]) rfl ⟨_, rfl, ⟨_, _, rfl, ?_, ?_⟩, ?_⟩
  · simp only [List.length_set]
    refine owns_base (base := w.heap.size + 3) ?_ (by omega)
    repeat (first | (with_reducible refine World.ownsRow.drew ?_) | ((with_reducible refine ownsRow_setCell_below ?_ ?_ _); rotate_left; focus (first | (simp; done) | (simp; omega) | (dsimp only; omega))))
    exact O1'.out
  · refine owns_base (base := w.heap.size + 3) ?_ (by omega)
    repeat (first | (with_reducible refine World.ownsRow.drew ?_) | ((with_reducible refine ownsRow_setCell_below ?_ ?_ _); rotate_left; focus (first | (simp; done) | (simp; omega) | (dsimp only; omega))))
    exact O2'.out
  · (repeat (first | (with_reducible exact Below.refl _ _) | (with_reducible assumption) | (with_reducible refine below_drewN ?_ _) | (with_reducible refine Below.drew ?_) | ((with_reducible refine Below.alloc ?_ ?_ _); rotate_left; focus (first | (with_reducible exact Nat.le_refl _) | omega | (simp; done) | (simp; omega))) | ((with_reducible refine Below.setCell (p := ⟨_, _, _⟩) ?_ ?_ _); rotate_left; focus (first | (with_reducible exact Nat.le_refl _) | omega | (simp; done) | (simp; omega)))))

end Go.Proofs.Ytijifbkikgooiaa
