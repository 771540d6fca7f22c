/- Link: Take, where nothing is taken. -/
import Derived.Test.YtijifbkikgooiaaLinkG
import Derived.Test.YtijifbkikgooiaaLinkI
import Derived.Deep.AppendLies
import Derived.Deep.Light
namespace Go.Proofs.Ytijifbkikgooiaa
open Go.RowKit Go.Shelf

/-- What Take answers. -/
def takeR (l : Lk) (fr : Int) (s : Int × Int) : Lk × Bool × Int :=
  if rightB l = false ∨ mayB s = false then (noL, false, 2)
  else if fr < 0 ∨ (l.inn.length : Int) ≤ fr then (noL, false, 4)
  else if 0 < ordS s (l.inn.getD fr.toNat (0, 0)) then (⟨l.inc, l.out, l.inn.set fr.toNat s⟩, true, 0) else (l, false, 0)
def TakePost (w : World) (q : Lk × Bool × Int) (e : Ending) (w' : World) : Prop :=
  ∃ r, e = .returned (.tuple #[r, .bool q.2.1, .int .i64 q.2.2]) ∧ LkOwn w' w.heap.size r q.1 ∧ Below w.heap.size w w'

set_option maxRecDepth 100000 in
set_option maxHeartbeats 1000000 in
theorem take_bad1 (w : World) (v : Value) (l : Lk) (fr : Int) (x1 x2 : Int) (ho : l.out.length ≤ 1099511627776) (hi : l.inn.length ≤ 1099511627776) (hl : LkR w v l) (hr : rightB l = false) :
    Calls Try.prog 24 #[v, .int .i64 fr, .agg #[.int .i64 x1, .int .i64 x2]] w (TakePost w (noL, false, 2)) := by
  have hl' := hl
  obtain ⟨s1, s2, rfl, h1, h2⟩ := hl
  obtain ⟨a1, c1, rfl⟩ := h1.shape
  obtain ⟨a2, c2, rfl⟩ := h2.shape
  have HR := Lib.hid hr
  clear hr h1 h2
  go_enter Try.func24, Try.ntmps24
  go_wp2_with fail
  obtain ⟨W, hW⟩ : ∃ W', W' = ((w.alloc (.cells #[.int .i64 l.inc, .slice a1 l.out.length c1, .slice a2 l.inn.length c2] 25)).alloc (.cells #[.int .i64 x1, .int .i64 x2] 27)).alloc (.cells #[.int .i64 0, .slice none 0 0, .slice none 0 0] 25) := ⟨_, rfl⟩
  rw [← hW]
  have hB : Below w.heap.size w W := by rw [hW]; (repeat (first | (with_reducible exact Below.refl _ _) | (with_reducible assumption) | (with_reducible refine below_drewN ?_ _) | (with_reducible refine Below.drew ?_) | ((with_reducible refine Below.alloc ?_ ?_ _); rotate_left; focus (first | (with_reducible exact Nat.le_refl _) | omega | (simp; done) | (simp; omega))) | ((with_reducible refine Below.setCell (p := ⟨_, _, _⟩) ?_ ?_ _); rotate_left; focus (first | (with_reducible exact Nat.le_refl _) | omega | (simp; done) | (simp; omega)))))
  have hsz : w.heap.size + 2 < W.heap.size := by rw [hW]; simp
  have q0 : W.heap[w.heap.size]? = some (.cells #[.int .i64 l.inc, .slice a1 l.out.length c1, .slice a2 l.inn.length c2] 25 (0, 0)) := by rw [hW]; exact blk_old _ (blk_old _ (blk_new _ _))
  have q1 : W.heap[w.heap.size + 1]? = some (.cells #[.int .i64 x1, .int .i64 x2] 27 (0, 0)) := by rw [hW]; have := blk_new (w.alloc (.cells #[.int .i64 l.inc, .slice a1 l.out.length c1, .slice a2 l.inn.length c2] 25)) (.cells #[.int .i64 x1, .int .i64 x2] 27); rw [World.size_alloc] at this; exact blk_old _ this
  have q2 : W.heap[w.heap.size + 1 + 1]? = some (.cells #[.int .i64 0, .slice none 0 0, .slice none 0 0] 25 (0, 0)) := by rw [hW]; have := blk_new ((w.alloc (.cells #[.int .i64 l.inc, .slice a1 l.out.length c1, .slice a2 l.inn.length c2] 25)).alloc (.cells #[.int .i64 x1, .int .i64 x2] 27)) (.cells #[.int .i64 0, .slice none 0 0, .slice none 0 0] 25); rw [World.size_alloc, World.size_alloc] at this; exact this
  clear hW
  have hc := Lib.hid (show checkE l = 2 by simp [checkE, HR.out])
  refine (check_any _ _ l ho hi (hl'.below hB)).mono ?_
  rintro e W1 ⟨rfl, hB1⟩
  rw [hc.out]
  have r0 := cells3 (blk_below q0 hB1 (by omega))
  have r1 := cells2 (blk_below q1 hB1 (by omega))
  have r2 := cells3 (blk_below q2 hB1 (by omega))
  have hD := hB.trans (hB1.mono (Nat.le_of_lt (by omega)))
  clear hl'
  have hE := hD
  clear q0 q1 q2
  go_wp2
  go_light
  refine bodyPost_ret (v := .tuple #[.agg #[.int .i64 0, .slice none 0 0, .slice none 0 0], .bool false, .int .i64 2]) (by simp [results, Try.results24, go_sem, r2]) rfl ⟨_, rfl, ⟨_, _, rfl, World.ownsRow_nil _ _ _ _, World.ownsRow_nil _ _ _ _⟩, ?_⟩
  clear r0 r1 r2
  (repeat (first | (with_reducible exact Below.refl _ _) | (with_reducible assumption) | (with_reducible refine below_drewN ?_ _) | (with_reducible refine Below.drew ?_) | ((with_reducible refine Below.alloc ?_ ?_ _); rotate_left; focus (first | (with_reducible exact Nat.le_refl _) | omega | (simp; done) | (simp; omega))) | ((with_reducible refine Below.setCell (p := ⟨_, _, _⟩) ?_ ?_ _); rotate_left; focus (first | (with_reducible exact Nat.le_refl _) | omega | (simp; done) | (simp; omega)))))

set_option maxRecDepth 100000 in
set_option maxHeartbeats 1000000 in
theorem take_bad2 (w : World) (v : Value) (l : Lk) (fr : Int) (x1 x2 : Int) (ho : l.out.length ≤ 1099511627776) (hi : l.inn.length ≤ 1099511627776) (hl : LkR w v l) (hr : rightB l = true) (hm : mayB (x1, x2) = false) :
    Calls Try.prog 24 #[v, .int .i64 fr, .agg #[.int .i64 x1, .int .i64 x2]] w (TakePost w (noL, false, 2)) := by
  have hl' := hl
  obtain ⟨s1, s2, rfl, h1, h2⟩ := hl
  obtain ⟨a1, c1, rfl⟩ := h1.shape
  obtain ⟨a2, c2, rfl⟩ := h2.shape
  have HR := Lib.hid hr
  clear hr h1 h2
  go_enter Try.func24, Try.ntmps24
  go_wp2_with fail
  obtain ⟨W, hW⟩ : ∃ W', W' = ((w.alloc (.cells #[.int .i64 l.inc, .slice a1 l.out.length c1, .slice a2 l.inn.length c2] 25)).alloc (.cells #[.int .i64 x1, .int .i64 x2] 27)).alloc (.cells #[.int .i64 0, .slice none 0 0, .slice none 0 0] 25) := ⟨_, rfl⟩
  rw [← hW]
  have hB : Below w.heap.size w W := by rw [hW]; (repeat (first | (with_reducible exact Below.refl _ _) | (with_reducible assumption) | (with_reducible refine below_drewN ?_ _) | (with_reducible refine Below.drew ?_) | ((with_reducible refine Below.alloc ?_ ?_ _); rotate_left; focus (first | (with_reducible exact Nat.le_refl _) | omega | (simp; done) | (simp; omega))) | ((with_reducible refine Below.setCell (p := ⟨_, _, _⟩) ?_ ?_ _); rotate_left; focus (first | (with_reducible exact Nat.le_refl _) | omega | (simp; done) | (simp; omega)))))
  have hsz : w.heap.size + 2 < W.heap.size := by rw [hW]; simp
  have q0 : W.heap[w.heap.size]? = some (.cells #[.int .i64 l.inc, .slice a1 l.out.length c1, .slice a2 l.inn.length c2] 25 (0, 0)) := by rw [hW]; exact blk_old _ (blk_old _ (blk_new _ _))
  have q1 : W.heap[w.heap.size + 1]? = some (.cells #[.int .i64 x1, .int .i64 x2] 27 (0, 0)) := by rw [hW]; have := blk_new (w.alloc (.cells #[.int .i64 l.inc, .slice a1 l.out.length c1, .slice a2 l.inn.length c2] 25)) (.cells #[.int .i64 x1, .int .i64 x2] 27); rw [World.size_alloc] at this; exact blk_old _ this
  have q2 : W.heap[w.heap.size + 1 + 1]? = some (.cells #[.int .i64 0, .slice none 0 0, .slice none 0 0] 25 (0, 0)) := by rw [hW]; have := blk_new ((w.alloc (.cells #[.int .i64 l.inc, .slice a1 l.out.length c1, .slice a2 l.inn.length c2] 25)).alloc (.cells #[.int .i64 x1, .int .i64 x2] 27)) (.cells #[.int .i64 0, .slice none 0 0, .slice none 0 0] 25); rw [World.size_alloc, World.size_alloc] at this; exact this
  clear hW
  have hc := Lib.hid (show checkE l = 0 by simp [checkE, HR.out])
  refine (check_any _ _ l ho hi (hl'.below hB)).mono ?_
  rintro e W1 ⟨rfl, hB1⟩
  rw [hc.out]
  have r0 := cells3 (blk_below q0 hB1 (by omega))
  have r1 := cells2 (blk_below q1 hB1 (by omega))
  have r2 := cells3 (blk_below q2 hB1 (by omega))
  have hD := hB.trans (hB1.mono (Nat.le_of_lt (by omega)))
  clear hl'
  have hs1 := hB1.size
  go_wp2_with fail
  refine (may_any _ _ _).mono ?_
  rintro e W2 ⟨rfl, hB2⟩
  have r0 := cells3 (blk_below (blk_below q0 hB1 (by omega)) hB2 (by omega))
  have r1 := cells2 (blk_below (blk_below q1 hB1 (by omega)) hB2 (by omega))
  have r2 := cells3 (blk_below (blk_below q2 hB1 (by omega)) hB2 (by omega))
  have hE := hD.trans (hB2.mono (by omega))
  rw [hm]
  clear q0 q1 q2
  go_wp2
  go_light
  refine bodyPost_ret (v := .tuple #[.agg #[.int .i64 0, .slice none 0 0, .slice none 0 0], .bool false, .int .i64 2]) (by simp [results, Try.results24, go_sem, r2]) rfl ⟨_, rfl, ⟨_, _, rfl, World.ownsRow_nil _ _ _ _, World.ownsRow_nil _ _ _ _⟩, ?_⟩
  clear r0 r1 r2
  (repeat (first | (with_reducible exact Below.refl _ _) | (with_reducible assumption) | (with_reducible refine below_drewN ?_ _) | (with_reducible refine Below.drew ?_) | ((with_reducible refine Below.alloc ?_ ?_ _); rotate_left; focus (first | (with_reducible exact Nat.le_refl _) | omega | (simp; done) | (simp; omega))) | ((with_reducible refine Below.setCell (p := ⟨_, _, _⟩) ?_ ?_ _); rotate_left; focus (first | (with_reducible exact Nat.le_refl _) | omega | (simp; done) | (simp; omega)))))

set_option maxRecDepth 100000 in
set_option maxHeartbeats 1000000 in
theorem take_bad3 (w : World) (v : Value) (l : Lk) (fr : Int) (x1 x2 : Int) (ho : l.out.length ≤ 1099511627776) (hi : l.inn.length ≤ 1099511627776) (hl : LkR w v l) (hr : rightB l = true) (hm : mayB (x1, x2) = true) (hlt : fr < 0) :
    Calls Try.prog 24 #[v, .int .i64 fr, .agg #[.int .i64 x1, .int .i64 x2]] w (TakePost w (noL, false, 4)) := by
  have hl' := hl
  obtain ⟨s1, s2, rfl, h1, h2⟩ := hl
  obtain ⟨a1, c1, rfl⟩ := h1.shape
  obtain ⟨a2, c2, rfl⟩ := h2.shape
  have HR := Lib.hid hr
  clear hr h1 h2
  go_enter Try.func24, Try.ntmps24
  go_wp2_with fail
  obtain ⟨W, hW⟩ : ∃ W', W' = ((w.alloc (.cells #[.int .i64 l.inc, .slice a1 l.out.length c1, .slice a2 l.inn.length c2] 25)).alloc (.cells #[.int .i64 x1, .int .i64 x2] 27)).alloc (.cells #[.int .i64 0, .slice none 0 0, .slice none 0 0] 25) := ⟨_, rfl⟩
  rw [← hW]
  have hB : Below w.heap.size w W := by rw [hW]; (repeat (first | (with_reducible exact Below.refl _ _) | (with_reducible assumption) | (with_reducible refine below_drewN ?_ _) | (with_reducible refine Below.drew ?_) | ((with_reducible refine Below.alloc ?_ ?_ _); rotate_left; focus (first | (with_reducible exact Nat.le_refl _) | omega | (simp; done) | (simp; omega))) | ((with_reducible refine Below.setCell (p := ⟨_, _, _⟩) ?_ ?_ _); rotate_left; focus (first | (with_reducible exact Nat.le_refl _) | omega | (simp; done) | (simp; omega)))))
  have hsz : w.heap.size + 2 < W.heap.size := by rw [hW]; simp
  have q0 : W.heap[w.heap.size]? = some (.cells #[.int .i64 l.inc, .slice a1 l.out.length c1, .slice a2 l.inn.length c2] 25 (0, 0)) := by rw [hW]; exact blk_old _ (blk_old _ (blk_new _ _))
  have q1 : W.heap[w.heap.size + 1]? = some (.cells #[.int .i64 x1, .int .i64 x2] 27 (0, 0)) := by rw [hW]; have := blk_new (w.alloc (.cells #[.int .i64 l.inc, .slice a1 l.out.length c1, .slice a2 l.inn.length c2] 25)) (.cells #[.int .i64 x1, .int .i64 x2] 27); rw [World.size_alloc] at this; exact blk_old _ this
  have q2 : W.heap[w.heap.size + 1 + 1]? = some (.cells #[.int .i64 0, .slice none 0 0, .slice none 0 0] 25 (0, 0)) := by rw [hW]; have := blk_new ((w.alloc (.cells #[.int .i64 l.inc, .slice a1 l.out.length c1, .slice a2 l.inn.length c2] 25)).alloc (.cells #[.int .i64 x1, .int .i64 x2] 27)) (.cells #[.int .i64 0, .slice none 0 0, .slice none 0 0] 25); rw [World.size_alloc, World.size_alloc] at this; exact this
  clear hW
  have hc := Lib.hid (show checkE l = 0 by simp [checkE, HR.out])
  refine (check_any _ _ l ho hi (hl'.below hB)).mono ?_
  rintro e W1 ⟨rfl, hB1⟩
  rw [hc.out]
  have r0 := cells3 (blk_below q0 hB1 (by omega))
  have r1 := cells2 (blk_below q1 hB1 (by omega))
  have r2 := cells3 (blk_below q2 hB1 (by omega))
  have hD := hB.trans (hB1.mono (Nat.le_of_lt (by omega)))
  clear hl'
  have hs1 := hB1.size
  go_wp2_with fail
  refine (may_any _ _ _).mono ?_
  rintro e W2 ⟨rfl, hB2⟩
  have r0 := cells3 (blk_below (blk_below q0 hB1 (by omega)) hB2 (by omega))
  have r1 := cells2 (blk_below (blk_below q1 hB1 (by omega)) hB2 (by omega))
  have r2 := cells3 (blk_below (blk_below q2 hB1 (by omega)) hB2 (by omega))
  have hE := hD.trans (hB2.mono (by omega))
  rw [hm]
  clear q0 q1 q2
  go_wp2
  go_light
  refine bodyPost_ret (v := .tuple #[.agg #[.int .i64 0, .slice none 0 0, .slice none 0 0], .bool false, .int .i64 4]) (by simp [results, Try.results24, go_sem, r2]) rfl ⟨_, rfl, ⟨_, _, rfl, World.ownsRow_nil _ _ _ _, World.ownsRow_nil _ _ _ _⟩, ?_⟩
  clear r0 r1 r2
  (repeat (first | (with_reducible exact Below.refl _ _) | (with_reducible assumption) | (with_reducible refine below_drewN ?_ _) | (with_reducible refine Below.drew ?_) | ((with_reducible refine Below.alloc ?_ ?_ _); rotate_left; focus (first | (with_reducible exact Nat.le_refl _) | omega | (simp; done) | (simp; omega))) | ((with_reducible refine Below.setCell (p := ⟨_, _, _⟩) ?_ ?_ _); rotate_left; focus (first | (with_reducible exact Nat.le_refl _) | omega | (simp; done) | (simp; omega)))))

set_option maxRecDepth 100000 in
set_option maxHeartbeats 1000000 in
theorem take_bad4 (w : World) (v : Value) (l : Lk) (fr : Int) (x1 x2 : Int) (ho : l.out.length ≤ 1099511627776) (hi : l.inn.length ≤ 1099511627776) (hl : LkR w v l) (hr : rightB l = true) (hm : mayB (x1, x2) = true) (_h0 : 0 ≤ fr) (hge : (l.inn.length : Int) ≤ fr) :
    Calls Try.prog 24 #[v, .int .i64 fr, .agg #[.int .i64 x1, .int .i64 x2]] w (TakePost w (noL, false, 4)) := by
  have hl' := hl
  obtain ⟨s1, s2, rfl, h1, h2⟩ := hl
  obtain ⟨a1, c1, rfl⟩ := h1.shape
  obtain ⟨a2, c2, rfl⟩ := h2.shape
  have HR := Lib.hid hr
  clear hr h1 h2
  go_enter Try.func24, Try.ntmps24
  go_wp2_with fail
  obtain ⟨W, hW⟩ : ∃ W', W' = ((w.alloc (.cells #[.int .i64 l.inc, .slice a1 l.out.length c1, .slice a2 l.inn.length c2] 25)).alloc (.cells #[.int .i64 x1, .int .i64 x2] 27)).alloc (.cells #[.int .i64 0, .slice none 0 0, .slice none 0 0] 25) := ⟨_, rfl⟩
  rw [← hW]
  have hB : Below w.heap.size w W := by rw [hW]; (repeat (first | (with_reducible exact Below.refl _ _) | (with_reducible assumption) | (with_reducible refine below_drewN ?_ _) | (with_reducible refine Below.drew ?_) | ((with_reducible refine Below.alloc ?_ ?_ _); rotate_left; focus (first | (with_reducible exact Nat.le_refl _) | omega | (simp; done) | (simp; omega))) | ((with_reducible refine Below.setCell (p := ⟨_, _, _⟩) ?_ ?_ _); rotate_left; focus (first | (with_reducible exact Nat.le_refl _) | omega | (simp; done) | (simp; omega)))))
  have hsz : w.heap.size + 2 < W.heap.size := by rw [hW]; simp
  have q0 : W.heap[w.heap.size]? = some (.cells #[.int .i64 l.inc, .slice a1 l.out.length c1, .slice a2 l.inn.length c2] 25 (0, 0)) := by rw [hW]; exact blk_old _ (blk_old _ (blk_new _ _))
  have q1 : W.heap[w.heap.size + 1]? = some (.cells #[.int .i64 x1, .int .i64 x2] 27 (0, 0)) := by rw [hW]; have := blk_new (w.alloc (.cells #[.int .i64 l.inc, .slice a1 l.out.length c1, .slice a2 l.inn.length c2] 25)) (.cells #[.int .i64 x1, .int .i64 x2] 27); rw [World.size_alloc] at this; exact blk_old _ this
  have q2 : W.heap[w.heap.size + 1 + 1]? = some (.cells #[.int .i64 0, .slice none 0 0, .slice none 0 0] 25 (0, 0)) := by rw [hW]; have := blk_new ((w.alloc (.cells #[.int .i64 l.inc, .slice a1 l.out.length c1, .slice a2 l.inn.length c2] 25)).alloc (.cells #[.int .i64 x1, .int .i64 x2] 27)) (.cells #[.int .i64 0, .slice none 0 0, .slice none 0 0] 25); rw [World.size_alloc, World.size_alloc] at this; exact this
  clear hW
  have hc := Lib.hid (show checkE l = 0 by simp [checkE, HR.out])
  refine (check_any _ _ l ho hi (hl'.below hB)).mono ?_
  rintro e W1 ⟨rfl, hB1⟩
  rw [hc.out]
  have r0 := cells3 (blk_below q0 hB1 (by omega))
  have r1 := cells2 (blk_below q1 hB1 (by omega))
  have r2 := cells3 (blk_below q2 hB1 (by omega))
  have hD := hB.trans (hB1.mono (Nat.le_of_lt (by omega)))
  clear hl'
  have hs1 := hB1.size
  go_wp2_with fail
  refine (may_any _ _ _).mono ?_
  rintro e W2 ⟨rfl, hB2⟩
  have r0 := cells3 (blk_below (blk_below q0 hB1 (by omega)) hB2 (by omega))
  have r1 := cells2 (blk_below (blk_below q1 hB1 (by omega)) hB2 (by omega))
  have r2 := cells3 (blk_below (blk_below q2 hB1 (by omega)) hB2 (by omega))
  have hE := hD.trans (hB2.mono (by omega))
  rw [hm]
  clear q0 q1 q2
  go_wp2
  go_light
  refine bodyPost_ret (v := .tuple #[.agg #[.int .i64 0, .slice none 0 0, .slice none 0 0], .bool false, .int .i64 4]) (by simp [results, Try.results24, go_sem, r2]) rfl ⟨_, rfl, ⟨_, _, rfl, World.ownsRow_nil _ _ _ _, World.ownsRow_nil _ _ _ _⟩, ?_⟩
  clear r0 r1 r2
  (repeat (first | (with_reducible exact Below.refl _ _) | (with_reducible assumption) | (with_reducible refine below_drewN ?_ _) | (with_reducible refine Below.drew ?_) | ((with_reducible refine Below.alloc ?_ ?_ _); rotate_left; focus (first | (with_reducible exact Nat.le_refl _) | omega | (simp; done) | (simp; omega))) | ((with_reducible refine Below.setCell (p := ⟨_, _, _⟩) ?_ ?_ _); rotate_left; focus (first | (with_reducible exact Nat.le_refl _) | omega | (simp; done) | (simp; omega)))))

set_option maxRecDepth 100000 in
set_option maxHeartbeats 1000000 in
theorem refTake_bad1 (w : World) (v : Value) (l : Lk) (fr : Int) (x1 x2 : Int) (ho : l.out.length ≤ 1099511627776) (hi : l.inn.length ≤ 1099511627776) (hl : LkR w v l) (hr : rightB l = false) :
    Calls Try.prog 25 #[v, .int .i64 fr, .agg #[.int .i64 x1, .int .i64 x2]] w (TakePost w (noL, false, 2)) := by
  have hl' := hl
  obtain ⟨s1, s2, rfl, h1, h2⟩ := hl
  obtain ⟨a1, c1, rfl⟩ := h1.shape
  obtain ⟨a2, c2, rfl⟩ := h2.shape
  have HR := Lib.hid hr
  clear hr h1 h2
  go_enter Try.func25, Try.ntmps25
  go_wp2_with fail
  obtain ⟨W, hW⟩ : ∃ W', W' = ((w.alloc (.cells #[.int .i64 l.inc, .slice a1 l.out.length c1, .slice a2 l.inn.length c2] 25)).alloc (.cells #[.int .i64 x1, .int .i64 x2] 27)).alloc (.cells #[.int .i64 0, .slice none 0 0, .slice none 0 0] 25) := ⟨_, rfl⟩
  rw [← hW]
  have hB : Below w.heap.size w W := by rw [hW]; (repeat (first | (with_reducible exact Below.refl _ _) | (with_reducible assumption) | (with_reducible refine below_drewN ?_ _) | (with_reducible refine Below.drew ?_) | ((with_reducible refine Below.alloc ?_ ?_ _); rotate_left; focus (first | (with_reducible exact Nat.le_refl _) | omega | (simp; done) | (simp; omega))) | ((with_reducible refine Below.setCell (p := ⟨_, _, _⟩) ?_ ?_ _); rotate_left; focus (first | (with_reducible exact Nat.le_refl _) | omega | (simp; done) | (simp; omega)))))
  have hsz : w.heap.size + 2 < W.heap.size := by rw [hW]; simp
  have q0 : W.heap[w.heap.size]? = some (.cells #[.int .i64 l.inc, .slice a1 l.out.length c1, .slice a2 l.inn.length c2] 25 (0, 0)) := by rw [hW]; exact blk_old _ (blk_old _ (blk_new _ _))
  have q1 : W.heap[w.heap.size + 1]? = some (.cells #[.int .i64 x1, .int .i64 x2] 27 (0, 0)) := by rw [hW]; have := blk_new (w.alloc (.cells #[.int .i64 l.inc, .slice a1 l.out.length c1, .slice a2 l.inn.length c2] 25)) (.cells #[.int .i64 x1, .int .i64 x2] 27); rw [World.size_alloc] at this; exact blk_old _ this
  have q2 : W.heap[w.heap.size + 1 + 1]? = some (.cells #[.int .i64 0, .slice none 0 0, .slice none 0 0] 25 (0, 0)) := by rw [hW]; have := blk_new ((w.alloc (.cells #[.int .i64 l.inc, .slice a1 l.out.length c1, .slice a2 l.inn.length c2] 25)).alloc (.cells #[.int .i64 x1, .int .i64 x2] 27)) (.cells #[.int .i64 0, .slice none 0 0, .slice none 0 0] 25); rw [World.size_alloc, World.size_alloc] at this; exact this
  clear hW
  refine (refRight_any _ _ l ho hi (hl'.below hB)).mono ?_
  rintro e W1 ⟨rfl, hB1⟩
  rw [HR.out]
  have r0 := cells3 (blk_below q0 hB1 (by omega))
  have r1 := cells2 (blk_below q1 hB1 (by omega))
  have r2 := cells3 (blk_below q2 hB1 (by omega))
  have hD := hB.trans (hB1.mono (Nat.le_of_lt (by omega)))
  clear hl'
  have hE := hD
  clear q0 q1 q2
  go_wp2
  go_light
  refine bodyPost_ret (v := .tuple #[.agg #[.int .i64 0, .slice none 0 0, .slice none 0 0], .bool false, .int .i64 2]) (by simp [results, Try.results25, go_sem, r2]) rfl ⟨_, rfl, ⟨_, _, rfl, World.ownsRow_nil _ _ _ _, World.ownsRow_nil _ _ _ _⟩, ?_⟩
  clear r0 r1 r2
  (repeat (first | (with_reducible exact Below.refl _ _) | (with_reducible assumption) | (with_reducible refine below_drewN ?_ _) | (with_reducible refine Below.drew ?_) | ((with_reducible refine Below.alloc ?_ ?_ _); rotate_left; focus (first | (with_reducible exact Nat.le_refl _) | omega | (simp; done) | (simp; omega))) | ((with_reducible refine Below.setCell (p := ⟨_, _, _⟩) ?_ ?_ _); rotate_left; focus (first | (with_reducible exact Nat.le_refl _) | omega | (simp; done) | (simp; omega)))))

set_option maxRecDepth 100000 in
set_option maxHeartbeats 1000000 in
theorem refTake_bad2 (w : World) (v : Value) (l : Lk) (fr : Int) (x1 x2 : Int) (ho : l.out.length ≤ 1099511627776) (hi : l.inn.length ≤ 1099511627776) (hl : LkR w v l) (hr : rightB l = true) (hm : mayB (x1, x2) = false) :
    Calls Try.prog 25 #[v, .int .i64 fr, .agg #[.int .i64 x1, .int .i64 x2]] w (TakePost w (noL, false, 2)) := by
  have hl' := hl
  obtain ⟨s1, s2, rfl, h1, h2⟩ := hl
  obtain ⟨a1, c1, rfl⟩ := h1.shape
  obtain ⟨a2, c2, rfl⟩ := h2.shape
  have HR := Lib.hid hr
  clear hr h1 h2
  go_enter Try.func25, Try.ntmps25
  go_wp2_with fail
  obtain ⟨W, hW⟩ : ∃ W', W' = ((w.alloc (.cells #[.int .i64 l.inc, .slice a1 l.out.length c1, .slice a2 l.inn.length c2] 25)).alloc (.cells #[.int .i64 x1, .int .i64 x2] 27)).alloc (.cells #[.int .i64 0, .slice none 0 0, .slice none 0 0] 25) := ⟨_, rfl⟩
  rw [← hW]
  have hB : Below w.heap.size w W := by rw [hW]; (repeat (first | (with_reducible exact Below.refl _ _) | (with_reducible assumption) | (with_reducible refine below_drewN ?_ _) | (with_reducible refine Below.drew ?_) | ((with_reducible refine Below.alloc ?_ ?_ _); rotate_left; focus (first | (with_reducible exact Nat.le_refl _) | omega | (simp; done) | (simp; omega))) | ((with_reducible refine Below.setCell (p := ⟨_, _, _⟩) ?_ ?_ _); rotate_left; focus (first | (with_reducible exact Nat.le_refl _) | omega | (simp; done) | (simp; omega)))))
  have hsz : w.heap.size + 2 < W.heap.size := by rw [hW]; simp
  have q0 : W.heap[w.heap.size]? = some (.cells #[.int .i64 l.inc, .slice a1 l.out.length c1, .slice a2 l.inn.length c2] 25 (0, 0)) := by rw [hW]; exact blk_old _ (blk_old _ (blk_new _ _))
  have q1 : W.heap[w.heap.size + 1]? = some (.cells #[.int .i64 x1, .int .i64 x2] 27 (0, 0)) := by rw [hW]; have := blk_new (w.alloc (.cells #[.int .i64 l.inc, .slice a1 l.out.length c1, .slice a2 l.inn.length c2] 25)) (.cells #[.int .i64 x1, .int .i64 x2] 27); rw [World.size_alloc] at this; exact blk_old _ this
  have q2 : W.heap[w.heap.size + 1 + 1]? = some (.cells #[.int .i64 0, .slice none 0 0, .slice none 0 0] 25 (0, 0)) := by rw [hW]; have := blk_new ((w.alloc (.cells #[.int .i64 l.inc, .slice a1 l.out.length c1, .slice a2 l.inn.length c2] 25)).alloc (.cells #[.int .i64 x1, .int .i64 x2] 27)) (.cells #[.int .i64 0, .slice none 0 0, .slice none 0 0] 25); rw [World.size_alloc, World.size_alloc] at this; exact this
  clear hW
  refine (refRight_any _ _ l ho hi (hl'.below hB)).mono ?_
  rintro e W1 ⟨rfl, hB1⟩
  rw [HR.out]
  have r0 := cells3 (blk_below q0 hB1 (by omega))
  have r1 := cells2 (blk_below q1 hB1 (by omega))
  have r2 := cells3 (blk_below q2 hB1 (by omega))
  have hD := hB.trans (hB1.mono (Nat.le_of_lt (by omega)))
  clear hl'
  have hs1 := hB1.size
  go_wp2_with fail
  refine (stamp_any _ _ _).mono ?_
  rintro e W2 ⟨rfl, hB2⟩
  have r0 := cells3 (blk_below (blk_below q0 hB1 (by omega)) hB2 (by omega))
  have r1 := cells2 (blk_below (blk_below q1 hB1 (by omega)) hB2 (by omega))
  have r2 := cells3 (blk_below (blk_below q2 hB1 (by omega)) hB2 (by omega))
  have hE := hD.trans (hB2.mono (by omega))
  rw [hm]
  clear q0 q1 q2
  go_wp2
  go_light
  refine bodyPost_ret (v := .tuple #[.agg #[.int .i64 0, .slice none 0 0, .slice none 0 0], .bool false, .int .i64 2]) (by simp [results, Try.results25, go_sem, r2]) rfl ⟨_, rfl, ⟨_, _, rfl, World.ownsRow_nil _ _ _ _, World.ownsRow_nil _ _ _ _⟩, ?_⟩
  clear r0 r1 r2
  (repeat (first | (with_reducible exact Below.refl _ _) | (with_reducible assumption) | (with_reducible refine below_drewN ?_ _) | (with_reducible refine Below.drew ?_) | ((with_reducible refine Below.alloc ?_ ?_ _); rotate_left; focus (first | (with_reducible exact Nat.le_refl _) | omega | (simp; done) | (simp; omega))) | ((with_reducible refine Below.setCell (p := ⟨_, _, _⟩) ?_ ?_ _); rotate_left; focus (first | (with_reducible exact Nat.le_refl _) | omega | (simp; done) | (simp; omega)))))

set_option maxRecDepth 100000 in
set_option maxHeartbeats 1000000 in
theorem refTake_bad3 (w : World) (v : Value) (l : Lk) (fr : Int) (x1 x2 : Int) (ho : l.out.length ≤ 1099511627776) (hi : l.inn.length ≤ 1099511627776) (hl : LkR w v l) (hr : rightB l = true) (hm : mayB (x1, x2) = true) (hlt : fr < 0) :
    Calls Try.prog 25 #[v, .int .i64 fr, .agg #[.int .i64 x1, .int .i64 x2]] w (TakePost w (noL, false, 4)) := by
  have hl' := hl
  obtain ⟨s1, s2, rfl, h1, h2⟩ := hl
  obtain ⟨a1, c1, rfl⟩ := h1.shape
  obtain ⟨a2, c2, rfl⟩ := h2.shape
  have HR := Lib.hid hr
  clear hr h1 h2
  go_enter Try.func25, Try.ntmps25
  go_wp2_with fail
  obtain ⟨W, hW⟩ : ∃ W', W' = ((w.alloc (.cells #[.int .i64 l.inc, .slice a1 l.out.length c1, .slice a2 l.inn.length c2] 25)).alloc (.cells #[.int .i64 x1, .int .i64 x2] 27)).alloc (.cells #[.int .i64 0, .slice none 0 0, .slice none 0 0] 25) := ⟨_, rfl⟩
  rw [← hW]
  have hB : Below w.heap.size w W := by rw [hW]; (repeat (first | (with_reducible exact Below.refl _ _) | (with_reducible assumption) | (with_reducible refine below_drewN ?_ _) | (with_reducible refine Below.drew ?_) | ((with_reducible refine Below.alloc ?_ ?_ _); rotate_left; focus (first | (with_reducible exact Nat.le_refl _) | omega | (simp; done) | (simp; omega))) | ((with_reducible refine Below.setCell (p := ⟨_, _, _⟩) ?_ ?_ _); rotate_left; focus (first | (with_reducible exact Nat.le_refl _) | omega | (simp; done) | (simp; omega)))))
  have hsz : w.heap.size + 2 < W.heap.size := by rw [hW]; simp
  have q0 : W.heap[w.heap.size]? = some (.cells #[.int .i64 l.inc, .slice a1 l.out.length c1, .slice a2 l.inn.length c2] 25 (0, 0)) := by rw [hW]; exact blk_old _ (blk_old _ (blk_new _ _))
  have q1 : W.heap[w.heap.size + 1]? = some (.cells #[.int .i64 x1, .int .i64 x2] 27 (0, 0)) := by rw [hW]; have := blk_new (w.alloc (.cells #[.int .i64 l.inc, .slice a1 l.out.length c1, .slice a2 l.inn.length c2] 25)) (.cells #[.int .i64 x1, .int .i64 x2] 27); rw [World.size_alloc] at this; exact blk_old _ this
  have q2 : W.heap[w.heap.size + 1 + 1]? = some (.cells #[.int .i64 0, .slice none 0 0, .slice none 0 0] 25 (0, 0)) := by rw [hW]; have := blk_new ((w.alloc (.cells #[.int .i64 l.inc, .slice a1 l.out.length c1, .slice a2 l.inn.length c2] 25)).alloc (.cells #[.int .i64 x1, .int .i64 x2] 27)) (.cells #[.int .i64 0, .slice none 0 0, .slice none 0 0] 25); rw [World.size_alloc, World.size_alloc] at this; exact this
  clear hW
  refine (refRight_any _ _ l ho hi (hl'.below hB)).mono ?_
  rintro e W1 ⟨rfl, hB1⟩
  rw [HR.out]
  have r0 := cells3 (blk_below q0 hB1 (by omega))
  have r1 := cells2 (blk_below q1 hB1 (by omega))
  have r2 := cells3 (blk_below q2 hB1 (by omega))
  have hD := hB.trans (hB1.mono (Nat.le_of_lt (by omega)))
  clear hl'
  have hs1 := hB1.size
  go_wp2_with fail
  refine (stamp_any _ _ _).mono ?_
  rintro e W2 ⟨rfl, hB2⟩
  have r0 := cells3 (blk_below (blk_below q0 hB1 (by omega)) hB2 (by omega))
  have r1 := cells2 (blk_below (blk_below q1 hB1 (by omega)) hB2 (by omega))
  have r2 := cells3 (blk_below (blk_below q2 hB1 (by omega)) hB2 (by omega))
  have hE := hD.trans (hB2.mono (by omega))
  rw [hm]
  clear q0 q1 q2
  go_wp2
  go_light
  refine bodyPost_ret (v := .tuple #[.agg #[.int .i64 0, .slice none 0 0, .slice none 0 0], .bool false, .int .i64 4]) (by simp [results, Try.results25, go_sem, r2]) rfl ⟨_, rfl, ⟨_, _, rfl, World.ownsRow_nil _ _ _ _, World.ownsRow_nil _ _ _ _⟩, ?_⟩
  clear r0 r1 r2
  (repeat (first | (with_reducible exact Below.refl _ _) | (with_reducible assumption) | (with_reducible refine below_drewN ?_ _) | (with_reducible refine Below.drew ?_) | ((with_reducible refine Below.alloc ?_ ?_ _); rotate_left; focus (first | (with_reducible exact Nat.le_refl _) | omega | (simp; done) | (simp; omega))) | ((with_reducible refine Below.setCell (p := ⟨_, _, _⟩) ?_ ?_ _); rotate_left; focus (first | (with_reducible exact Nat.le_refl _) | omega | (simp; done) | (simp; omega)))))

set_option maxRecDepth 100000 in
set_option maxHeartbeats 1000000 in
theorem refTake_bad4 (w : World) (v : Value) (l : Lk) (fr : Int) (x1 x2 : Int) (ho : l.out.length ≤ 1099511627776) (hi : l.inn.length ≤ 1099511627776) (hl : LkR w v l) (hr : rightB l = true) (hm : mayB (x1, x2) = true) (_h0 : 0 ≤ fr) (h0' : decide (fr < 0) = false) (hge : (l.inn.length : Int) ≤ fr) :
    Calls Try.prog 25 #[v, .int .i64 fr, .agg #[.int .i64 x1, .int .i64 x2]] w (TakePost w (noL, false, 4)) := by
  have hl' := hl
  obtain ⟨s1, s2, rfl, h1, h2⟩ := hl
  obtain ⟨a1, c1, rfl⟩ := h1.shape
  obtain ⟨a2, c2, rfl⟩ := h2.shape
  have HR := Lib.hid hr
  clear hr h1 h2
  go_enter Try.func25, Try.ntmps25
  go_wp2_with fail
  obtain ⟨W, hW⟩ : ∃ W', W' = ((w.alloc (.cells #[.int .i64 l.inc, .slice a1 l.out.length c1, .slice a2 l.inn.length c2] 25)).alloc (.cells #[.int .i64 x1, .int .i64 x2] 27)).alloc (.cells #[.int .i64 0, .slice none 0 0, .slice none 0 0] 25) := ⟨_, rfl⟩
  rw [← hW]
  have hB : Below w.heap.size w W := by rw [hW]; (repeat (first | (with_reducible exact Below.refl _ _) | (with_reducible assumption) | (with_reducible refine below_drewN ?_ _) | (with_reducible refine Below.drew ?_) | ((with_reducible refine Below.alloc ?_ ?_ _); rotate_left; focus (first | (with_reducible exact Nat.le_refl _) | omega | (simp; done) | (simp; omega))) | ((with_reducible refine Below.setCell (p := ⟨_, _, _⟩) ?_ ?_ _); rotate_left; focus (first | (with_reducible exact Nat.le_refl _) | omega | (simp; done) | (simp; omega)))))
  have hsz : w.heap.size + 2 < W.heap.size := by rw [hW]; simp
  have q0 : W.heap[w.heap.size]? = some (.cells #[.int .i64 l.inc, .slice a1 l.out.length c1, .slice a2 l.inn.length c2] 25 (0, 0)) := by rw [hW]; exact blk_old _ (blk_old _ (blk_new _ _))
  have q1 : W.heap[w.heap.size + 1]? = some (.cells #[.int .i64 x1, .int .i64 x2] 27 (0, 0)) := by rw [hW]; have := blk_new (w.alloc (.cells #[.int .i64 l.inc, .slice a1 l.out.length c1, .slice a2 l.inn.length c2] 25)) (.cells #[.int .i64 x1, .int .i64 x2] 27); rw [World.size_alloc] at this; exact blk_old _ this
  have q2 : W.heap[w.heap.size + 1 + 1]? = some (.cells #[.int .i64 0, .slice none 0 0, .slice none 0 0] 25 (0, 0)) := by rw [hW]; have := blk_new ((w.alloc (.cells #[.int .i64 l.inc, .slice a1 l.out.length c1, .slice a2 l.inn.length c2] 25)).alloc (.cells #[.int .i64 x1, .int .i64 x2] 27)) (.cells #[.int .i64 0, .slice none 0 0, .slice none 0 0] 25); rw [World.size_alloc, World.size_alloc] at this; exact this
  clear hW
  refine (refRight_any _ _ l ho hi (hl'.below hB)).mono ?_
  rintro e W1 ⟨rfl, hB1⟩
  rw [HR.out]
  have r0 := cells3 (blk_below q0 hB1 (by omega))
  have r1 := cells2 (blk_below q1 hB1 (by omega))
  have r2 := cells3 (blk_below q2 hB1 (by omega))
  have hD := hB.trans (hB1.mono (Nat.le_of_lt (by omega)))
  clear hl'
  have hs1 := hB1.size
  go_wp2_with fail
  refine (stamp_any _ _ _).mono ?_
  rintro e W2 ⟨rfl, hB2⟩
  have r0 := cells3 (blk_below (blk_below q0 hB1 (by omega)) hB2 (by omega))
  have r1 := cells2 (blk_below (blk_below q1 hB1 (by omega)) hB2 (by omega))
  have r2 := cells3 (blk_below (blk_below q2 hB1 (by omega)) hB2 (by omega))
  have hE := hD.trans (hB2.mono (by omega))
  rw [hm]
  clear q0 q1 q2
  go_wp2
  go_light
  refine bodyPost_ret (v := .tuple #[.agg #[.int .i64 0, .slice none 0 0, .slice none 0 0], .bool false, .int .i64 4]) (by simp [results, Try.results25, go_sem, r2]) rfl ⟨_, rfl, ⟨_, _, rfl, World.ownsRow_nil _ _ _ _, World.ownsRow_nil _ _ _ _⟩, ?_⟩
  clear r0 r1 r2
  (repeat (first | (with_reducible exact Below.refl _ _) | (with_reducible assumption) | (with_reducible refine below_drewN ?_ _) | (with_reducible refine Below.drew ?_) | ((with_reducible refine Below.alloc ?_ ?_ _); rotate_left; focus (first | (with_reducible exact Nat.le_refl _) | omega | (simp; done) | (simp; omega))) | ((with_reducible refine Below.setCell (p := ⟨_, _, _⟩) ?_ ?_ _); rotate_left; focus (first | (with_reducible exact Nat.le_refl _) | omega | (simp; done) | (simp; omega)))))

end Go.Proofs.Ytijifbkikgooiaa
