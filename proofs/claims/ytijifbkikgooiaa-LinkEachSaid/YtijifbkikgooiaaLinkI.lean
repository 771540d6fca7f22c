/- Link: Send. -/
import Derived.Test.YtijifbkikgooiaaLinkG
import Derived.Test.YtijifbkikgooiaaLinkH
import Derived.Test.YtijifbkikgooiaaLib2
namespace Go.Proofs.Ytijifbkikgooiaa
open Go.RowKit Go.Shelf

def mostI : Int := 1099511627776
/-- What Send answers. -/
def sendR (l : Lk) (to : Int) : Lk × (Int × Int) × Int :=
  if rightB l = false then (noL, (0, 0), 2)
  else if to < 0 ∨ (l.out.length : Int) ≤ to then (noL, (0, 0), 4)
  else if mostI ≤ l.out.getD to.toNat 0 then (noL, (0, 0), 210)
  else (⟨l.inc, l.out.set to.toNat (l.out.getD to.toNat 0 + 1), l.inn⟩, (l.inc, l.out.getD to.toNat 0 + 1), 0)

/-- What Send leaves. -/
def SendPost (w : World) (q : Lk × (Int × Int) × Int) (e : Ending) (w' : World) : Prop :=
  ∃ r, e = .returned (.tuple #[r, .agg #[.int .i64 q.2.1.1, .int .i64 q.2.1.2], .int .i64 q.2.2]) ∧ LkOwn w' w.heap.size r q.1 ∧ Below w.heap.size w w'

set_option maxRecDepth 100000 in
set_option maxHeartbeats 1000000 in
theorem send_bad1 (w : World) (v : Value) (l : Lk) (to : Int) (ho : l.out.length ≤ 1099511627776) (hi : l.inn.length ≤ 1099511627776) (hl : LkR w v l) (hr : rightB l = false) :
    Calls Try.prog 20 #[v, .int .i64 to] w (SendPost w (noL, (0, 0), 2)) := by
  have hl' := hl
  obtain ⟨s1, s2, rfl, h1, h2⟩ := hl
  obtain ⟨a1, c1, rfl⟩ := h1.shape
  obtain ⟨a2, c2, rfl⟩ := h2.shape
  have hc : checkE l = 2 := by simp [checkE, hr]
  go_enter Try.func20, Try.ntmps20
  go_wp2_with fail
  refine wp_scope_fwd 0 rfl ?_
  go_wp2_with fail
  obtain ⟨W, hW⟩ : ∃ W', W' = ((w.alloc (.cells #[.int .i64 l.inc, .slice a1 l.out.length c1, .slice a2 l.inn.length c2] 25)).alloc (.cells #[.int .i64 0, .slice none 0 0, .slice none 0 0] 25)).alloc (.cells #[.int .i64 0, .int .i64 0] 27) := ⟨_, rfl⟩
  rw [← hW]
  have hB : Below w.heap.size w W := by rw [hW]; (repeat (first | (with_reducible exact Below.refl _ _) | (with_reducible assumption) | (with_reducible refine below_drewN ?_ _) | (with_reducible refine Below.drew ?_) | ((with_reducible refine Below.alloc ?_ ?_ _); rotate_left; focus (first | (with_reducible exact Nat.le_refl _) | omega | (simp; done) | (simp; omega))) | ((with_reducible refine Below.setCell (p := ⟨_, _, _⟩) ?_ ?_ _); rotate_left; focus (first | (with_reducible exact Nat.le_refl _) | omega | (simp; done) | (simp; omega)))))
  have hsz : w.heap.size + 2 < W.heap.size := by rw [hW]; simp
  have q0 : W.heap[w.heap.size]? = some (.cells #[.int .i64 l.inc, .slice a1 l.out.length c1, .slice a2 l.inn.length c2] 25 (0, 0)) := by rw [hW]; exact blk_old _ (blk_old _ (blk_new _ _))
  have q1 : W.heap[w.heap.size + 1]? = some (.cells #[.int .i64 0, .slice none 0 0, .slice none 0 0] 25 (0, 0)) := by rw [hW]; have := blk_new (w.alloc (.cells #[.int .i64 l.inc, .slice a1 l.out.length c1, .slice a2 l.inn.length c2] 25)) (.cells #[.int .i64 0, .slice none 0 0, .slice none 0 0] 25); rw [World.size_alloc] at this; exact blk_old _ this
  have q2 : W.heap[w.heap.size + 1 + 1]? = some (.cells #[.int .i64 0, .int .i64 0] 27 (0, 0)) := by rw [hW]; have := blk_new ((w.alloc (.cells #[.int .i64 l.inc, .slice a1 l.out.length c1, .slice a2 l.inn.length c2] 25)).alloc (.cells #[.int .i64 0, .slice none 0 0, .slice none 0 0] 25)) (.cells #[.int .i64 0, .int .i64 0] 27); rw [World.size_alloc, World.size_alloc] at this; exact this
  clear hW
  refine (check_any _ _ l ho hi (hl'.below hB)).mono ?_
  rintro e W1 ⟨rfl, hB1⟩
  rw [hc]
  have r0 := cells3 (blk_below q0 hB1 (by omega))
  have r1 := cells3 (blk_below q1 hB1 (by omega))
  have r2 := cells2 (blk_below q2 hB1 (by omega))
  clear q0 q1 q2 hc
  go_wp2
  go_step3
  refine ⟨rfl, ?_⟩
  go_wp2
  rw [Exit.noGoto_ret]
  refine bodyPost_ret (v := .tuple #[.agg #[.int .i64 0, .slice none 0 0, .slice none 0 0], .agg #[.int .i64 0, .int .i64 0], .int .i64 2]) (by simp [results, Try.results20, go_sem, r1, r2]) rfl ⟨_, rfl, ⟨_, _, rfl, World.ownsRow_nil _ _ _ _, World.ownsRow_nil _ _ _ _⟩, ?_⟩
  have hD := hB.trans (hB1.mono (Nat.le_of_lt (by omega)))
  (repeat (first | (with_reducible exact Below.refl _ _) | (with_reducible assumption) | (with_reducible refine below_drewN ?_ _) | (with_reducible refine Below.drew ?_) | ((with_reducible refine Below.alloc ?_ ?_ _); rotate_left; focus (first | (with_reducible exact Nat.le_refl _) | omega | (simp; done) | (simp; omega))) | ((with_reducible refine Below.setCell (p := ⟨_, _, _⟩) ?_ ?_ _); rotate_left; focus (first | (with_reducible exact Nat.le_refl _) | omega | (simp; done) | (simp; omega)))))

set_option maxRecDepth 100000 in
set_option maxHeartbeats 1000000 in
theorem send_bad2 (w : World) (v : Value) (l : Lk) (to : Int) (ho : l.out.length ≤ 1099511627776) (hi : l.inn.length ≤ 1099511627776) (hl : LkR w v l) (hr : rightB l = true) (hlt : to < 0) :
    Calls Try.prog 20 #[v, .int .i64 to] w (SendPost w (noL, (0, 0), 4)) := by
  have hl' := hl
  obtain ⟨s1, s2, rfl, h1, h2⟩ := hl
  obtain ⟨a1, c1, rfl⟩ := h1.shape
  obtain ⟨a2, c2, rfl⟩ := h2.shape
  have hc : checkE l = 0 := by simp [checkE, hr]
  go_enter Try.func20, Try.ntmps20
  go_wp2_with fail
  refine wp_scope_fwd 0 rfl ?_
  go_wp2_with fail
  obtain ⟨W, hW⟩ : ∃ W', W' = ((w.alloc (.cells #[.int .i64 l.inc, .slice a1 l.out.length c1, .slice a2 l.inn.length c2] 25)).alloc (.cells #[.int .i64 0, .slice none 0 0, .slice none 0 0] 25)).alloc (.cells #[.int .i64 0, .int .i64 0] 27) := ⟨_, rfl⟩
  rw [← hW]
  have hB : Below w.heap.size w W := by rw [hW]; (repeat (first | (with_reducible exact Below.refl _ _) | (with_reducible assumption) | (with_reducible refine below_drewN ?_ _) | (with_reducible refine Below.drew ?_) | ((with_reducible refine Below.alloc ?_ ?_ _); rotate_left; focus (first | (with_reducible exact Nat.le_refl _) | omega | (simp; done) | (simp; omega))) | ((with_reducible refine Below.setCell (p := ⟨_, _, _⟩) ?_ ?_ _); rotate_left; focus (first | (with_reducible exact Nat.le_refl _) | omega | (simp; done) | (simp; omega)))))
  have hsz : w.heap.size + 2 < W.heap.size := by rw [hW]; simp
  have q0 : W.heap[w.heap.size]? = some (.cells #[.int .i64 l.inc, .slice a1 l.out.length c1, .slice a2 l.inn.length c2] 25 (0, 0)) := by rw [hW]; exact blk_old _ (blk_old _ (blk_new _ _))
  have q1 : W.heap[w.heap.size + 1]? = some (.cells #[.int .i64 0, .slice none 0 0, .slice none 0 0] 25 (0, 0)) := by rw [hW]; have := blk_new (w.alloc (.cells #[.int .i64 l.inc, .slice a1 l.out.length c1, .slice a2 l.inn.length c2] 25)) (.cells #[.int .i64 0, .slice none 0 0, .slice none 0 0] 25); rw [World.size_alloc] at this; exact blk_old _ this
  have q2 : W.heap[w.heap.size + 1 + 1]? = some (.cells #[.int .i64 0, .int .i64 0] 27 (0, 0)) := by rw [hW]; have := blk_new ((w.alloc (.cells #[.int .i64 l.inc, .slice a1 l.out.length c1, .slice a2 l.inn.length c2] 25)).alloc (.cells #[.int .i64 0, .slice none 0 0, .slice none 0 0] 25)) (.cells #[.int .i64 0, .int .i64 0] 27); rw [World.size_alloc, World.size_alloc] at this; exact this
  clear hW
  refine (check_any _ _ l ho hi (hl'.below hB)).mono ?_
  rintro e W1 ⟨rfl, hB1⟩
  rw [hc]
  have r0 := cells3 (blk_below q0 hB1 (by omega))
  have r1 := cells3 (blk_below q1 hB1 (by omega))
  have r2 := cells2 (blk_below q2 hB1 (by omega))
  clear q0 q1 q2 hc
  go_wp2
  go_step3
  refine ⟨rfl, ?_⟩
  go_wp2
  rw [Exit.noGoto_ret]
  refine bodyPost_ret (v := .tuple #[.agg #[.int .i64 0, .slice none 0 0, .slice none 0 0], .agg #[.int .i64 0, .int .i64 0], .int .i64 4]) (by simp [results, Try.results20, go_sem, r1, r2]) rfl ⟨_, rfl, ⟨_, _, rfl, World.ownsRow_nil _ _ _ _, World.ownsRow_nil _ _ _ _⟩, ?_⟩
  have hD := hB.trans (hB1.mono (Nat.le_of_lt (by omega)))
  (repeat (first | (with_reducible exact Below.refl _ _) | (with_reducible assumption) | (with_reducible refine below_drewN ?_ _) | (with_reducible refine Below.drew ?_) | ((with_reducible refine Below.alloc ?_ ?_ _); rotate_left; focus (first | (with_reducible exact Nat.le_refl _) | omega | (simp; done) | (simp; omega))) | ((with_reducible refine Below.setCell (p := ⟨_, _, _⟩) ?_ ?_ _); rotate_left; focus (first | (with_reducible exact Nat.le_refl _) | omega | (simp; done) | (simp; omega)))))

set_option maxRecDepth 100000 in
set_option maxHeartbeats 1000000 in
theorem send_bad3 (w : World) (v : Value) (l : Lk) (to : Int) (ho : l.out.length ≤ 1099511627776) (hi : l.inn.length ≤ 1099511627776) (hl : LkR w v l) (hr : rightB l = true) (h0 : 0 ≤ to) (hge : (l.out.length : Int) ≤ to) :
    Calls Try.prog 20 #[v, .int .i64 to] w (SendPost w (noL, (0, 0), 4)) := by
  have hl' := hl
  obtain ⟨s1, s2, rfl, h1, h2⟩ := hl
  obtain ⟨a1, c1, rfl⟩ := h1.shape
  obtain ⟨a2, c2, rfl⟩ := h2.shape
  have hc : checkE l = 0 := by simp [checkE, hr]
  go_enter Try.func20, Try.ntmps20
  go_wp2_with fail
  refine wp_scope_fwd 0 rfl ?_
  go_wp2_with fail
  obtain ⟨W, hW⟩ : ∃ W', W' = ((w.alloc (.cells #[.int .i64 l.inc, .slice a1 l.out.length c1, .slice a2 l.inn.length c2] 25)).alloc (.cells #[.int .i64 0, .slice none 0 0, .slice none 0 0] 25)).alloc (.cells #[.int .i64 0, .int .i64 0] 27) := ⟨_, rfl⟩
  rw [← hW]
  have hB : Below w.heap.size w W := by rw [hW]; (repeat (first | (with_reducible exact Below.refl _ _) | (with_reducible assumption) | (with_reducible refine below_drewN ?_ _) | (with_reducible refine Below.drew ?_) | ((with_reducible refine Below.alloc ?_ ?_ _); rotate_left; focus (first | (with_reducible exact Nat.le_refl _) | omega | (simp; done) | (simp; omega))) | ((with_reducible refine Below.setCell (p := ⟨_, _, _⟩) ?_ ?_ _); rotate_left; focus (first | (with_reducible exact Nat.le_refl _) | omega | (simp; done) | (simp; omega)))))
  have hsz : w.heap.size + 2 < W.heap.size := by rw [hW]; simp
  have q0 : W.heap[w.heap.size]? = some (.cells #[.int .i64 l.inc, .slice a1 l.out.length c1, .slice a2 l.inn.length c2] 25 (0, 0)) := by rw [hW]; exact blk_old _ (blk_old _ (blk_new _ _))
  have q1 : W.heap[w.heap.size + 1]? = some (.cells #[.int .i64 0, .slice none 0 0, .slice none 0 0] 25 (0, 0)) := by rw [hW]; have := blk_new (w.alloc (.cells #[.int .i64 l.inc, .slice a1 l.out.length c1, .slice a2 l.inn.length c2] 25)) (.cells #[.int .i64 0, .slice none 0 0, .slice none 0 0] 25); rw [World.size_alloc] at this; exact blk_old _ this
  have q2 : W.heap[w.heap.size + 1 + 1]? = some (.cells #[.int .i64 0, .int .i64 0] 27 (0, 0)) := by rw [hW]; have := blk_new ((w.alloc (.cells #[.int .i64 l.inc, .slice a1 l.out.length c1, .slice a2 l.inn.length c2] 25)).alloc (.cells #[.int .i64 0, .slice none 0 0, .slice none 0 0] 25)) (.cells #[.int .i64 0, .int .i64 0] 27); rw [World.size_alloc, World.size_alloc] at this; exact this
  clear hW
  refine (check_any _ _ l ho hi (hl'.below hB)).mono ?_
  rintro e W1 ⟨rfl, hB1⟩
  rw [hc]
  have r0 := cells3 (blk_below q0 hB1 (by omega))
  have r1 := cells3 (blk_below q1 hB1 (by omega))
  have r2 := cells2 (blk_below q2 hB1 (by omega))
  clear q0 q1 q2 hc
  go_wp2
  go_step3
  refine ⟨rfl, ?_⟩
  go_wp2
  rw [Exit.noGoto_ret]
  refine bodyPost_ret (v := .tuple #[.agg #[.int .i64 0, .slice none 0 0, .slice none 0 0], .agg #[.int .i64 0, .int .i64 0], .int .i64 4]) (by simp [results, Try.results20, go_sem, r1, r2]) rfl ⟨_, rfl, ⟨_, _, rfl, World.ownsRow_nil _ _ _ _, World.ownsRow_nil _ _ _ _⟩, ?_⟩
  have hD := hB.trans (hB1.mono (Nat.le_of_lt (by omega)))
  (repeat (first | (with_reducible exact Below.refl _ _) | (with_reducible assumption) | (with_reducible refine below_drewN ?_ _) | (with_reducible refine Below.drew ?_) | ((with_reducible refine Below.alloc ?_ ?_ _); rotate_left; focus (first | (with_reducible exact Nat.le_refl _) | omega | (simp; done) | (simp; omega))) | ((with_reducible refine Below.setCell (p := ⟨_, _, _⟩) ?_ ?_ _); rotate_left; focus (first | (with_reducible exact Nat.le_refl _) | omega | (simp; done) | (simp; omega)))))

end Go.Proofs.Ytijifbkikgooiaa
