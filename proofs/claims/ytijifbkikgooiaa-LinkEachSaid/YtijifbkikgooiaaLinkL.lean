/- Link: Restart. -/
import Derived.Test.YtijifbkikgooiaaLinkJ
import Derived.Test.YtijifbkikgooiaaLinkK
import Derived.Lib.SliceRun
namespace Go.Proofs.Ytijifbkikgooiaa
open Go.RowKit Go.Shelf

/-- clear of an owned slice of ints that holds something. -/
theorem run_clear_own (W : World) (ty base g n cap : Nat) (xs : List Value) (hn : 0 < n) (h : W.ownsRow base 2 1 (.slice (some ⟨g, 0, none⟩) n cap) n xs) :
    ∃ W', (Builtin.clear_ #[22] ty #[.slice (some ⟨g, 0, none⟩) n cap]).run Try.prog W = .ok (.tuple #[]) W' ∧ W'.ownsRow base 2 1 (.slice (some ⟨g, 0, none⟩) n cap) n (List.replicate n (.int .i64 0)) ∧ W.grownBy W' (some g) := by
  have hrun := Lib.run_clear_slice (P := Try.prog) W 22 2 ty (.int .i64 0) Try.underlying22 (fun w => by kernel_rfl) rfl rfl g 0 n cap hn
    (fun j hj => by have := h.cellAt j (by omega); simp only [Nat.zero_add] at this ⊢; rw [this]; have hl := h.1; rw [List.getElem?_eq_getElem (by omega)]; rfl) (fun j hj => by simpa using h.frozenAt j)
  refine ⟨_, hrun, ?_⟩
  have key : ∀ (m o : Nat) (W : World) (xs : List Value), o + m ≤ n → W.ownsRow base 2 1 (.slice (some ⟨g, 0, none⟩) n cap) n xs →
      (W.setCells g o (List.replicate m (.int .i64 0))).ownsRow base 2 1 (.slice (some ⟨g, 0, none⟩) n cap) n (xs.take o ++ List.replicate m (.int .i64 0) ++ xs.drop (o + m)) ∧ W.grownBy (W.setCells g o (List.replicate m (.int .i64 0))) (some g) := by
    intro m
    induction m with
    | zero => intro o W xs _ h; exact ⟨by simpa [World.setCells] using h, ⟨rfl, rfl, rfl, Nat.le_refl _, fun _ _ _ => rfl⟩⟩
    | succ m ih =>
      intro o W xs ho h
      have h1 := h.stored o (.int .i64 0)
      have h2 := ih (o + 1) _ _ (by omega) h1.1
      have hl : xs.length = n := by simpa using h.1
      refine ⟨?_, ?_⟩
      · have e : (xs.set o (Value.int .i64 0)).take (o + 1) ++ List.replicate m (Value.int .i64 0) ++ (xs.set o (Value.int .i64 0)).drop (o + 1 + m) = xs.take o ++ List.replicate (m + 1) (Value.int .i64 0) ++ xs.drop (o + (m + 1)) := by
          rw [List.take_add_one, List.take_set_of_le (Nat.le_refl _), List.getElem?_set_self (by omega), List.drop_set_of_lt (by omega), List.replicate_succ]
          simp [Nat.add_comm, Nat.add_left_comm]
        rw [← e]
        exact h2.1
      · exact ⟨h2.2.os.trans h1.2.os, h2.2.tape.trans h1.2.tape, h2.2.output.trans h1.2.output, Nat.le_trans h1.2.size h2.2.size, fun k hk hne => (h2.2.block k (Nat.lt_of_lt_of_le hk h1.2.size) hne).trans (h1.2.block k hk hne)⟩
  have := key n 0 W xs (by omega) h
  have hl : xs.length = n := by simpa using h.1
  have hd : xs.drop n = [] := List.drop_of_length_le (by omega)
  simpa [hd] using this

/-- What Restart answers. -/
def restartR (l : Lk) : Lk × Int :=
  if rightB l = false then (noL, 2) else if mostI ≤ l.inc then (noL, 210) else (⟨l.inc + 1, List.replicate l.out.length 0, l.inn⟩, 0)
def RestartPost (w : World) (q : Lk × Int) (e : Ending) (w' : World) : Prop :=
  ∃ r, e = .returned (.tuple #[r, .int .i64 q.2]) ∧ LkOwn w' w.heap.size r q.1 ∧ Below w.heap.size w w'

set_option maxRecDepth 100000 in
set_option maxHeartbeats 1000000 in
theorem restart_bad1 (w : World) (v : Value) (l : Lk) (ho : l.out.length ≤ 1099511627776) (hi : l.inn.length ≤ 1099511627776) (hl : LkR w v l) (hr : rightB l = false) :
    Calls Try.prog 22 #[v] w (RestartPost w (noL, 2)) := by
  have hl' := hl
  obtain ⟨s1, s2, rfl, h1, h2⟩ := hl
  obtain ⟨a1, c1, rfl⟩ := h1.shape
  obtain ⟨a2, c2, rfl⟩ := h2.shape
  have HR := Lib.hid hr
  clear hr h1 h2
  go_enter Try.func22, Try.ntmps22
  go_wp2_with fail
  obtain ⟨W, hW⟩ : ∃ W', W' = ((w.alloc (.cells #[.int .i64 l.inc, .slice a1 l.out.length c1, .slice a2 l.inn.length c2] 25)).alloc (.cells #[.int .i64 0, .slice none 0 0, .slice none 0 0] 25)) := ⟨_, rfl⟩
  rw [← hW]
  have hB : Below w.heap.size w W := by rw [hW]; (repeat (first | (with_reducible exact Below.refl _ _) | (with_reducible assumption) | (with_reducible refine below_drewN ?_ _) | (with_reducible refine Below.drew ?_) | ((with_reducible refine Below.alloc ?_ ?_ _); rotate_left; focus (first | (with_reducible exact Nat.le_refl _) | omega | (simp; done) | (simp; omega))) | ((with_reducible refine Below.setCell (p := ⟨_, _, _⟩) ?_ ?_ _); rotate_left; focus (first | (with_reducible exact Nat.le_refl _) | omega | (simp; done) | (simp; omega)))))
  have hsz : w.heap.size + 1 < W.heap.size := by rw [hW]; simp
  have q0 : W.heap[w.heap.size]? = some (.cells #[.int .i64 l.inc, .slice a1 l.out.length c1, .slice a2 l.inn.length c2] 25 (0, 0)) := by rw [hW]; exact blk_old _ (blk_new _ _)
  have q1 : W.heap[w.heap.size + 1]? = some (.cells #[.int .i64 0, .slice none 0 0, .slice none 0 0] 25 (0, 0)) := by rw [hW]; have := blk_new (w.alloc (.cells #[.int .i64 l.inc, .slice a1 l.out.length c1, .slice a2 l.inn.length c2] 25)) (.cells #[.int .i64 0, .slice none 0 0, .slice none 0 0] 25); rw [World.size_alloc] at this; exact this
  clear hW
  have hc := Lib.hid (show checkE l = 2 by simp [checkE, HR.out])
  refine (check_any _ _ l ho hi (hl'.below hB)).mono ?_
  rintro e W1 ⟨rfl, hB1⟩
  rw [hc.out]
  have r0 := cells3 (blk_below q0 hB1 (by omega))
  have r1 := cells3 (blk_below q1 hB1 (by omega))
  have hD := hB.trans (hB1.mono (Nat.le_of_lt (by omega)))
  clear q0 q1 hl'
  go_wp2
  go_light
  refine bodyPost_ret (v := .tuple #[.agg #[.int .i64 0, .slice none 0 0, .slice none 0 0], .int .i64 2]) (by simp [results, Try.results22, go_sem, r1]) rfl ⟨_, rfl, ⟨_, _, rfl, World.ownsRow_nil _ _ _ _, World.ownsRow_nil _ _ _ _⟩, ?_⟩
  clear r0 r1
  (repeat (first | (with_reducible exact Below.refl _ _) | (with_reducible assumption) | (with_reducible refine below_drewN ?_ _) | (with_reducible refine Below.drew ?_) | ((with_reducible refine Below.alloc ?_ ?_ _); rotate_left; focus (first | (with_reducible exact Nat.le_refl _) | omega | (simp; done) | (simp; omega))) | ((with_reducible refine Below.setCell (p := ⟨_, _, _⟩) ?_ ?_ _); rotate_left; focus (first | (with_reducible exact Nat.le_refl _) | omega | (simp; done) | (simp; omega)))))

set_option maxRecDepth 100000 in
set_option maxHeartbeats 1000000 in
theorem restart_bad2 (w : World) (v : Value) (l : Lk) (ho : l.out.length ≤ 1099511627776) (hi : l.inn.length ≤ 1099511627776) (hl : LkR w v l) (hr : rightB l = true) (hge : 1099511627776 ≤ l.inc) :
    Calls Try.prog 22 #[v] w (RestartPost w (noL, 210)) := by
  have hl' := hl
  obtain ⟨s1, s2, rfl, h1, h2⟩ := hl
  obtain ⟨a1, c1, rfl⟩ := h1.shape
  obtain ⟨a2, c2, rfl⟩ := h2.shape
  have HR := Lib.hid hr
  clear hr h1 h2
  go_enter Try.func22, Try.ntmps22
  go_wp2_with fail
  obtain ⟨W, hW⟩ : ∃ W', W' = ((w.alloc (.cells #[.int .i64 l.inc, .slice a1 l.out.length c1, .slice a2 l.inn.length c2] 25)).alloc (.cells #[.int .i64 0, .slice none 0 0, .slice none 0 0] 25)) := ⟨_, rfl⟩
  rw [← hW]
  have hB : Below w.heap.size w W := by rw [hW]; (repeat (first | (with_reducible exact Below.refl _ _) | (with_reducible assumption) | (with_reducible refine below_drewN ?_ _) | (with_reducible refine Below.drew ?_) | ((with_reducible refine Below.alloc ?_ ?_ _); rotate_left; focus (first | (with_reducible exact Nat.le_refl _) | omega | (simp; done) | (simp; omega))) | ((with_reducible refine Below.setCell (p := ⟨_, _, _⟩) ?_ ?_ _); rotate_left; focus (first | (with_reducible exact Nat.le_refl _) | omega | (simp; done) | (simp; omega)))))
  have hsz : w.heap.size + 1 < W.heap.size := by rw [hW]; simp
  have q0 : W.heap[w.heap.size]? = some (.cells #[.int .i64 l.inc, .slice a1 l.out.length c1, .slice a2 l.inn.length c2] 25 (0, 0)) := by rw [hW]; exact blk_old _ (blk_new _ _)
  have q1 : W.heap[w.heap.size + 1]? = some (.cells #[.int .i64 0, .slice none 0 0, .slice none 0 0] 25 (0, 0)) := by rw [hW]; have := blk_new (w.alloc (.cells #[.int .i64 l.inc, .slice a1 l.out.length c1, .slice a2 l.inn.length c2] 25)) (.cells #[.int .i64 0, .slice none 0 0, .slice none 0 0] 25); rw [World.size_alloc] at this; exact this
  clear hW
  have hc := Lib.hid (show checkE l = 0 by simp [checkE, HR.out])
  refine (check_any _ _ l ho hi (hl'.below hB)).mono ?_
  rintro e W1 ⟨rfl, hB1⟩
  rw [hc.out]
  have r0 := cells3 (blk_below q0 hB1 (by omega))
  have r1 := cells3 (blk_below q1 hB1 (by omega))
  have hD := hB.trans (hB1.mono (Nat.le_of_lt (by omega)))
  clear q0 q1 hl'
  go_wp2
  go_light
  refine bodyPost_ret (v := .tuple #[.agg #[.int .i64 0, .slice none 0 0, .slice none 0 0], .int .i64 210]) (by simp [results, Try.results22, go_sem, r1]) rfl ⟨_, rfl, ⟨_, _, rfl, World.ownsRow_nil _ _ _ _, World.ownsRow_nil _ _ _ _⟩, ?_⟩
  clear r0 r1
  (repeat (first | (with_reducible exact Below.refl _ _) | (with_reducible assumption) | (with_reducible refine below_drewN ?_ _) | (with_reducible refine Below.drew ?_) | ((with_reducible refine Below.alloc ?_ ?_ _); rotate_left; focus (first | (with_reducible exact Nat.le_refl _) | omega | (simp; done) | (simp; omega))) | ((with_reducible refine Below.setCell (p := ⟨_, _, _⟩) ?_ ?_ _); rotate_left; focus (first | (with_reducible exact Nat.le_refl _) | omega | (simp; done) | (simp; omega)))))

set_option maxRecDepth 100000 in
set_option maxHeartbeats 1000000 in
theorem refRestart_bad1 (w : World) (v : Value) (l : Lk) (ho : l.out.length ≤ 1099511627776) (hi : l.inn.length ≤ 1099511627776) (hl : LkR w v l) (hr : rightB l = false) :
    Calls Try.prog 23 #[v] w (RestartPost w (noL, 2)) := by
  have hl' := hl
  obtain ⟨s1, s2, rfl, h1, h2⟩ := hl
  obtain ⟨a1, c1, rfl⟩ := h1.shape
  obtain ⟨a2, c2, rfl⟩ := h2.shape
  have HR := Lib.hid hr
  clear hr h1 h2
  go_enter Try.func23, Try.ntmps23
  go_wp2_with fail
  obtain ⟨W, hW⟩ : ∃ W', W' = ((w.alloc (.cells #[.int .i64 l.inc, .slice a1 l.out.length c1, .slice a2 l.inn.length c2] 25)).alloc (.cells #[.int .i64 0, .slice none 0 0, .slice none 0 0] 25)) := ⟨_, rfl⟩
  rw [← hW]
  have hB : Below w.heap.size w W := by rw [hW]; (repeat (first | (with_reducible exact Below.refl _ _) | (with_reducible assumption) | (with_reducible refine below_drewN ?_ _) | (with_reducible refine Below.drew ?_) | ((with_reducible refine Below.alloc ?_ ?_ _); rotate_left; focus (first | (with_reducible exact Nat.le_refl _) | omega | (simp; done) | (simp; omega))) | ((with_reducible refine Below.setCell (p := ⟨_, _, _⟩) ?_ ?_ _); rotate_left; focus (first | (with_reducible exact Nat.le_refl _) | omega | (simp; done) | (simp; omega)))))
  have hsz : w.heap.size + 1 < W.heap.size := by rw [hW]; simp
  have q0 : W.heap[w.heap.size]? = some (.cells #[.int .i64 l.inc, .slice a1 l.out.length c1, .slice a2 l.inn.length c2] 25 (0, 0)) := by rw [hW]; exact blk_old _ (blk_new _ _)
  have q1 : W.heap[w.heap.size + 1]? = some (.cells #[.int .i64 0, .slice none 0 0, .slice none 0 0] 25 (0, 0)) := by rw [hW]; have := blk_new (w.alloc (.cells #[.int .i64 l.inc, .slice a1 l.out.length c1, .slice a2 l.inn.length c2] 25)) (.cells #[.int .i64 0, .slice none 0 0, .slice none 0 0] 25); rw [World.size_alloc] at this; exact this
  clear hW
  refine (refRight_any _ _ l ho hi (hl'.below hB)).mono ?_
  rintro e W1 ⟨rfl, hB1⟩
  rw [HR.out]
  have r0 := cells3 (blk_below q0 hB1 (by omega))
  have r1 := cells3 (blk_below q1 hB1 (by omega))
  have hD := hB.trans (hB1.mono (Nat.le_of_lt (by omega)))
  clear q0 q1 hl'
  go_wp2
  go_light
  refine bodyPost_ret (v := .tuple #[.agg #[.int .i64 0, .slice none 0 0, .slice none 0 0], .int .i64 2]) (by simp [results, Try.results23, go_sem, r1]) rfl ⟨_, rfl, ⟨_, _, rfl, World.ownsRow_nil _ _ _ _, World.ownsRow_nil _ _ _ _⟩, ?_⟩
  clear r0 r1
  (repeat (first | (with_reducible exact Below.refl _ _) | (with_reducible assumption) | (with_reducible refine below_drewN ?_ _) | (with_reducible refine Below.drew ?_) | ((with_reducible refine Below.alloc ?_ ?_ _); rotate_left; focus (first | (with_reducible exact Nat.le_refl _) | omega | (simp; done) | (simp; omega))) | ((with_reducible refine Below.setCell (p := ⟨_, _, _⟩) ?_ ?_ _); rotate_left; focus (first | (with_reducible exact Nat.le_refl _) | omega | (simp; done) | (simp; omega)))))

set_option maxRecDepth 100000 in
set_option maxHeartbeats 1000000 in
theorem refRestart_bad2 (w : World) (v : Value) (l : Lk) (ho : l.out.length ≤ 1099511627776) (hi : l.inn.length ≤ 1099511627776) (hl : LkR w v l) (hr : rightB l = true) (hge : (l.inc == 1099511627776) = true) :
    Calls Try.prog 23 #[v] w (RestartPost w (noL, 210)) := by
  have hl' := hl
  obtain ⟨s1, s2, rfl, h1, h2⟩ := hl
  obtain ⟨a1, c1, rfl⟩ := h1.shape
  obtain ⟨a2, c2, rfl⟩ := h2.shape
  have HR := Lib.hid hr
  clear hr h1 h2
  go_enter Try.func23, Try.ntmps23
  go_wp2_with fail
  obtain ⟨W, hW⟩ : ∃ W', W' = ((w.alloc (.cells #[.int .i64 l.inc, .slice a1 l.out.length c1, .slice a2 l.inn.length c2] 25)).alloc (.cells #[.int .i64 0, .slice none 0 0, .slice none 0 0] 25)) := ⟨_, rfl⟩
  rw [← hW]
  have hB : Below w.heap.size w W := by rw [hW]; (repeat (first | (with_reducible exact Below.refl _ _) | (with_reducible assumption) | (with_reducible refine below_drewN ?_ _) | (with_reducible refine Below.drew ?_) | ((with_reducible refine Below.alloc ?_ ?_ _); rotate_left; focus (first | (with_reducible exact Nat.le_refl _) | omega | (simp; done) | (simp; omega))) | ((with_reducible refine Below.setCell (p := ⟨_, _, _⟩) ?_ ?_ _); rotate_left; focus (first | (with_reducible exact Nat.le_refl _) | omega | (simp; done) | (simp; omega)))))
  have hsz : w.heap.size + 1 < W.heap.size := by rw [hW]; simp
  have q0 : W.heap[w.heap.size]? = some (.cells #[.int .i64 l.inc, .slice a1 l.out.length c1, .slice a2 l.inn.length c2] 25 (0, 0)) := by rw [hW]; exact blk_old _ (blk_new _ _)
  have q1 : W.heap[w.heap.size + 1]? = some (.cells #[.int .i64 0, .slice none 0 0, .slice none 0 0] 25 (0, 0)) := by rw [hW]; have := blk_new (w.alloc (.cells #[.int .i64 l.inc, .slice a1 l.out.length c1, .slice a2 l.inn.length c2] 25)) (.cells #[.int .i64 0, .slice none 0 0, .slice none 0 0] 25); rw [World.size_alloc] at this; exact this
  clear hW
  refine (refRight_any _ _ l ho hi (hl'.below hB)).mono ?_
  rintro e W1 ⟨rfl, hB1⟩
  rw [HR.out]
  have r0 := cells3 (blk_below q0 hB1 (by omega))
  have r1 := cells3 (blk_below q1 hB1 (by omega))
  have hD := hB.trans (hB1.mono (Nat.le_of_lt (by omega)))
  clear q0 q1 hl'
  go_wp2
  go_light
  refine bodyPost_ret (v := .tuple #[.agg #[.int .i64 0, .slice none 0 0, .slice none 0 0], .int .i64 210]) (by simp [results, Try.results23, go_sem, r1]) rfl ⟨_, rfl, ⟨_, _, rfl, World.ownsRow_nil _ _ _ _, World.ownsRow_nil _ _ _ _⟩, ?_⟩
  clear r0 r1
  (repeat (first | (with_reducible exact Below.refl _ _) | (with_reducible assumption) | (with_reducible refine below_drewN ?_ _) | (with_reducible refine Below.drew ?_) | ((with_reducible refine Below.alloc ?_ ?_ _); rotate_left; focus (first | (with_reducible exact Nat.le_refl _) | omega | (simp; done) | (simp; omega))) | ((with_reducible refine Below.setCell (p := ⟨_, _, _⟩) ?_ ?_ _); rotate_left; focus (first | (with_reducible exact Nat.le_refl _) | omega | (simp; done) | (simp; omega)))))

set_option maxRecDepth 100000 in
set_option maxHeartbeats 1000000 in
theorem restart_ok (w : World) (v : Value) (l : Lk) (ho : l.out.length ≤ 1099511627776) (hi : l.inn.length ≤ 1099511627776) (hl : LkR w v l) (hr : rightB l = true) (hlt : l.inc < 1099511627776) (h0 : 0 ≤ l.inc) (hn : 0 < l.out.length) :
    Calls Try.prog 22 #[v] w (RestartPost w (⟨l.inc + 1, List.replicate l.out.length 0, l.inn⟩, 0)) := by
  have hl' := hl
  obtain ⟨s1, s2, rfl, h1, h2⟩ := hl
  obtain ⟨a1, c1, rfl⟩ := h1.shape
  obtain ⟨a2, c2, rfl⟩ := h2.shape
  have HR := Lib.hid hr
  clear hr h1 h2
  go_enter Try.func22, Try.ntmps22
  go_wp2_with fail
  obtain ⟨W, hW⟩ : ∃ W', W' = ((w.alloc (.cells #[.int .i64 l.inc, .slice a1 l.out.length c1, .slice a2 l.inn.length c2] 25)).alloc (.cells #[.int .i64 0, .slice none 0 0, .slice none 0 0] 25)) := ⟨_, rfl⟩
  rw [← hW]
  have hB : Below w.heap.size w W := by rw [hW]; (repeat (first | (with_reducible exact Below.refl _ _) | (with_reducible assumption) | (with_reducible refine below_drewN ?_ _) | (with_reducible refine Below.drew ?_) | ((with_reducible refine Below.alloc ?_ ?_ _); rotate_left; focus (first | (with_reducible exact Nat.le_refl _) | omega | (simp; done) | (simp; omega))) | ((with_reducible refine Below.setCell (p := ⟨_, _, _⟩) ?_ ?_ _); rotate_left; focus (first | (with_reducible exact Nat.le_refl _) | omega | (simp; done) | (simp; omega)))))
  have hsz : w.heap.size + 1 < W.heap.size := by rw [hW]; simp
  have q0 : W.heap[w.heap.size]? = some (.cells #[.int .i64 l.inc, .slice a1 l.out.length c1, .slice a2 l.inn.length c2] 25 (0, 0)) := by rw [hW]; exact blk_old _ (blk_new _ _)
  have q1 : W.heap[w.heap.size + 1]? = some (.cells #[.int .i64 0, .slice none 0 0, .slice none 0 0] 25 (0, 0)) := by rw [hW]; have := blk_new (w.alloc (.cells #[.int .i64 l.inc, .slice a1 l.out.length c1, .slice a2 l.inn.length c2] 25)) (.cells #[.int .i64 0, .slice none 0 0, .slice none 0 0] 25); rw [World.size_alloc] at this; exact this
  clear hW
  have hc := Lib.hid (show checkE l = 0 by simp [checkE, HR.out])
  refine (check_any _ _ l ho hi (hl'.below hB)).mono ?_
  rintro e W1 ⟨rfl, hB1⟩
  rw [hc.out]
  have q0 := blk_below q0 hB1 (by omega)
  have q1 := blk_below q1 hB1 (by omega)
  have r0 := cells3 q0
  have hD := hB.trans (hB1.mono (Nat.le_of_lt (by omega)))
  have hs1 := hB1.size
  go_wp2_with fail
  refine (own_any _ _ l ho hi (hl'.below hD)).mono ?_
  rintro e W2 ⟨r, rfl, ⟨s1, s2, rfl, o1, o2⟩, hB2⟩
  have q1 := blk_below q1 hB2 (by omega)
  obtain ⟨g, cap, rfl, hg1, hg2⟩ := o1.form hn
  obtain ⟨a3, c3, rfl⟩ := owns_shape o2
  have O1 := Lib.hid o1
  have O2 := Lib.hid o2
  have hs2 := hB2.size
  clear o1 o2 r0 q0 hl'
  go_wp2
  obtain ⟨W5, hrun, o5, hg5⟩ := run_clear_own (W2.alloc (.cells #[.int .i64 (l.inc + 1), .slice (some ⟨g, 0, none⟩) l.out.length cap, .slice a3 l.inn.length c3] 25)) 0 W1.heap.size g l.out.length cap _ hn (O1.out.alloc _)
  rw [hrun]
  have qZ := blk_new W2 (.cells #[.int .i64 (l.inc + 1), .slice (some ⟨g, 0, none⟩) l.out.length cap, .slice a3 l.inn.length c3] 25)
  have r1 := cells3 ((hg5.block (w.heap.size + 1) (by first | omega | (simp; done) | (simp; omega) | (dsimp only; omega)) (by first | omega | (simp; done) | (simp; omega) | (dsimp only; omega))).trans (blk_old _ q1))
  have rZ := cells3 ((hg5.block W2.heap.size (by first | omega | (simp; done) | (simp; omega) | (dsimp only; omega)) (by first | omega | (simp; done) | (simp; omega) | (dsimp only; omega))).trans qZ)
  have hE : Below w.heap.size w W5 := (((hD.trans (hB2.mono hD.size)).alloc (by first | omega | (simp; done) | (simp; omega) | (dsimp only; omega)) _)).grown hg5 (by first | omega | (simp; done) | (simp; omega) | (dsimp only; omega)) (fun k e => by have e1 : g = k := Option.some.inj e; omega)
  have O3 : Hid (W5.ownsRow (w.heap.size + 2) 27 2 (.slice a3 l.inn.length c3) l.inn.length (l.inn.flatMap encP)) := by
    have h1 := owns_ne O2.out O1.out (by decide)
    refine owns_base (base := W1.heap.size) ((O2.out.alloc _).kept hg5 ?_) (by omega)
    rcases h1 with h | h
    · exact .inl h
    · exact .inr (by simpa [Value.ownBlock] using h)
  have O5 : Hid (W5.ownsRow (w.heap.size + 2) 2 1 (.slice (some ⟨g, 0, none⟩) l.out.length cap) l.out.length ((List.replicate l.out.length 0).flatMap encI)) := by
    rw [flat_encI, List.map_replicate]
    exact owns_base o5 (by omega)
  obtain ⟨Z, hZ⟩ : ∃ Z, Z = W2.heap.size := ⟨_, rfl⟩
  rw [← hZ] at rZ ⊢
  have m1 : ¬ w.heap.size + 1 = Z := by omega
  have m1' : ¬ Z = w.heap.size + 1 := by omega
  clear hrun o5 hg5 qZ q1 O1 O2 hZ hB hB1 hB2 hD
  go_wp2
  go_light
  refine bodyPost_ret (v := .tuple #[.agg #[.int .i64 (l.inc + 1), .slice (some ⟨g, 0, none⟩) l.out.length cap, .slice a3 l.inn.length c3], .int .i64 0]) (by simp [results, Try.results22, go_sem, r1]) rfl ⟨_, rfl, ⟨_, _, rfl, ?_, ?_⟩, ?_⟩
  · simp only [List.length_replicate]
    refine owns_base (base := w.heap.size + 2) ?_ (by omega)
    repeat (first | (with_reducible refine World.ownsRow.drew ?_) | ((with_reducible refine ownsRow_setCell_below ?_ ?_ _); rotate_left; focus (first | (simp; done) | (simp; omega) | (dsimp only; omega))))
    exact O5.out
  · refine owns_base (base := w.heap.size + 2) ?_ (by omega)
    repeat (first | (with_reducible refine World.ownsRow.drew ?_) | ((with_reducible refine ownsRow_setCell_below ?_ ?_ _); rotate_left; focus (first | (simp; done) | (simp; omega) | (dsimp only; omega))))
    exact O3.out
  · (repeat (first | (with_reducible exact Below.refl _ _) | (with_reducible assumption) | (with_reducible refine below_drewN ?_ _) | (with_reducible refine Below.drew ?_) | ((with_reducible refine Below.alloc ?_ ?_ _); rotate_left; focus (first | (with_reducible exact Nat.le_refl _) | omega | (simp; done) | (simp; omega))) | ((with_reducible refine Below.setCell (p := ⟨_, _, _⟩) ?_ ?_ _); rotate_left; focus (first | (with_reducible exact Nat.le_refl _) | omega | (simp; done) | (simp; omega)))))

set_option maxRecDepth 100000 in
set_option maxHeartbeats 1000000 in
theorem refRestart_ok (w : World) (v : Value) (l : Lk) (ho : l.out.length ≤ 1099511627776) (hi : l.inn.length ≤ 1099511627776) (hl : LkR w v l) (hr : rightB l = true) (hlt : l.inc < 1099511627776) (h0 : 0 ≤ l.inc) :
    Calls Try.prog 23 #[v] w (RestartPost w (⟨l.inc + 1, List.replicate l.out.length 0, l.inn⟩, 0)) := by
  have hl' := hl
  obtain ⟨s1, s2, rfl, h1, h2⟩ := hl
  obtain ⟨a1, c1, rfl⟩ := h1.shape
  obtain ⟨a2, c2, rfl⟩ := h2.shape
  have HR := Lib.hid hr
  clear hr h1 h2
  go_enter Try.func23, Try.ntmps23
  go_wp2_with fail
  obtain ⟨W, hW⟩ : ∃ W', W' = ((w.alloc (.cells #[.int .i64 l.inc, .slice a1 l.out.length c1, .slice a2 l.inn.length c2] 25)).alloc (.cells #[.int .i64 0, .slice none 0 0, .slice none 0 0] 25)) := ⟨_, rfl⟩
  rw [← hW]
  have hB : Below w.heap.size w W := by rw [hW]; (repeat (first | (with_reducible exact Below.refl _ _) | (with_reducible assumption) | (with_reducible refine below_drewN ?_ _) | (with_reducible refine Below.drew ?_) | ((with_reducible refine Below.alloc ?_ ?_ _); rotate_left; focus (first | (with_reducible exact Nat.le_refl _) | omega | (simp; done) | (simp; omega))) | ((with_reducible refine Below.setCell (p := ⟨_, _, _⟩) ?_ ?_ _); rotate_left; focus (first | (with_reducible exact Nat.le_refl _) | omega | (simp; done) | (simp; omega)))))
  have hsz : w.heap.size + 1 < W.heap.size := by rw [hW]; simp
  have q0 : W.heap[w.heap.size]? = some (.cells #[.int .i64 l.inc, .slice a1 l.out.length c1, .slice a2 l.inn.length c2] 25 (0, 0)) := by rw [hW]; exact blk_old _ (blk_new _ _)
  have q1 : W.heap[w.heap.size + 1]? = some (.cells #[.int .i64 0, .slice none 0 0, .slice none 0 0] 25 (0, 0)) := by rw [hW]; have := blk_new (w.alloc (.cells #[.int .i64 l.inc, .slice a1 l.out.length c1, .slice a2 l.inn.length c2] 25)) (.cells #[.int .i64 0, .slice none 0 0, .slice none 0 0] 25); rw [World.size_alloc] at this; exact this
  clear hW
  refine (refRight_any _ _ l ho hi (hl'.below hB)).mono ?_
  rintro e W1 ⟨rfl, hB1⟩
  rw [HR.out]
  have q0 := blk_below q0 hB1 (by omega)
  have q1 := blk_below q1 hB1 (by omega)
  have r0 := cells3 q0
  have hD := hB.trans (hB1.mono (Nat.le_of_lt (by omega)))
  have hs1 := hB1.size
  have hxe : (l.inc == 1099511627776) = false := by simp; omega
  go_wp2_with fail
  refine (copy_any _ _ l ho hi (hl'.below hD)).mono ?_
  rintro e W2 ⟨r, rfl, ⟨s1, s2, rfl, o1, o2⟩, hB2⟩
  have q0 := blk_below q0 hB2 (by omega)
  have q1 := blk_below q1 hB2 (by omega)
  obtain ⟨a3, c3, rfl⟩ := owns_shape o1
  obtain ⟨a4, c4, rfl⟩ := owns_shape o2
  have O1 := Lib.hid o1
  have O2 := Lib.hid o2
  have hs2 := hB2.size
  have r0 := cells3 q0
  clear o1 o2 hl' hxe
  go_wp2
  have rZ := cells3 (blk_new W2 (.cells #[.int .i64 l.inc, .slice a3 l.out.length c3, .slice a4 l.inn.length c4] 25))
  have hE := (hD.trans (hB2.mono hD.size))
  obtain ⟨i0, hi', hz0, hz1, hz2⟩ := info_parts Try.infoI
  have m1 : ∀ W : World, (Instr.makeSlice 22 (.int .i64 l.out.length) (.int .i64 l.out.length)).run Try.prog W = .ok (.slice (some ⟨W.heap.size, 0, none⟩) l.out.length l.out.length) (W.alloc (.cells (madeCells #[.int .i64 0] (l.out.length * 1)) 2)) := fun W => by
    have := run_make W 22 2 i0 _ Try.underlying22 hi' hz0 .i64 .i64 l.out.length l.out.length (by omega) (by omega) (by rw [hz2]; omega) (by omega)
    rw [hz1] at this
    simpa [Value.cells] using this
  have o3 := fun W : World => World.ownsRow_lit (w := W) (base := W.heap.size) (e := 2) (size := 1) (madeCells #[.int .i64 0] (l.out.length * 1)) l.out.length (Nat.le_refl _) (by unfold maxLen; omega) (size_madeCells _ _)
  rw [← flat_zeroI] at o3
  obtain ⟨Z1, hZ1⟩ : ∃ Z, Z = madeCells #[.int .i64 0] (l.out.length * 1) := ⟨_, rfl⟩
  rw [← hZ1] at m1 o3
  have O3 := Lib.hid o3
  have r1 := cells3 q1
  have hlt1 : w.heap.size + 1 < W2.heap.size := by omega
  have hlt0 : w.heap.size < W2.heap.size := by omega
  have hlt2 : w.heap.size + 1 < W2.heap.size + 1 := by omega
  have s0 : ¬ w.heap.size = W2.heap.size := by omega
  have s0' : ¬ W2.heap.size = w.heap.size := by omega
  have s1 : ¬ w.heap.size + 1 = W2.heap.size := by omega
  have s1' : ¬ W2.heap.size = w.heap.size + 1 := by omega
  clear o3 hi' hz0 hz1 hz2 hZ1 hB hB1 hB2
  go_region_held3 (fun w' => w'.cell? ⟨w.heap.size, 0, none⟩ = some (.int .i64 l.inc) ∧ w'.cell? ⟨w.heap.size, 1, none⟩ = some (.slice a1 l.out.length c1)) (go_keep) (fail)
  all_goals go_wp2
  all_goals go_light
  all_goals
    refine bodyPost_ret (v := .tuple #[.agg #[.int .i64 (l.inc + 1), .slice (some ⟨W2.heap.size + 1, 0, none⟩) l.out.length l.out.length, .slice a4 l.inn.length c4], .int .i64 0]) (by simp [results, Try.results23, go_sem, r1, hlt1, hlt2]) rfl ⟨_, rfl, ⟨_, _, rfl, ?_, ?_⟩, ?_⟩
    · simp only [List.length_replicate]
      have h3 := O3.out ((((W2.setCell ⟨w.heap.size + 1, 0, none⟩ (.int .i64 (l.inc + 1))).setCell ⟨w.heap.size + 1, 1, none⟩ (.slice (some ⟨W2.heap.size + 1, 0, none⟩) l.out.length l.out.length)).setCell ⟨w.heap.size + 1, 2, none⟩ (.slice a4 l.inn.length c4)).alloc (.cells #[.int .i64 (l.inc + 1), .slice (some ⟨W2.heap.size + 1, 0, none⟩) l.out.length l.out.length, .slice a4 l.inn.length c4] 25))
      have e : ((((W2.setCell ⟨w.heap.size + 1, 0, none⟩ (.int .i64 (l.inc + 1))).setCell ⟨w.heap.size + 1, 1, none⟩ (.slice (some ⟨W2.heap.size + 1, 0, none⟩) l.out.length l.out.length)).setCell ⟨w.heap.size + 1, 2, none⟩ (.slice a4 l.inn.length c4)).alloc (.cells #[.int .i64 (l.inc + 1), .slice (some ⟨W2.heap.size + 1, 0, none⟩) l.out.length l.out.length, .slice a4 l.inn.length c4] 25)).heap.size = W2.heap.size + 1 := by simp
      rw [e] at h3
      exact (owns_base h3 (by omega)).drew
    · have h3 := owns_base O2.out (base' := w.heap.size + 2) (by omega)
      refine owns_base (base := w.heap.size + 2) ?_ (by omega)
      refine World.ownsRow.drew (World.ownsRow.alloc (World.ownsRow.alloc ?_ _) _)
      repeat (first | (with_reducible refine World.ownsRow.drew ?_) | ((with_reducible refine ownsRow_setCell_below ?_ ?_ _); rotate_left; focus (first | (simp; done) | (simp; omega) | (dsimp only; omega))))
      exact h3
    · clear rZ r0 r1 O1 O2 O3 m1
      (repeat (first | (with_reducible exact Below.refl _ _) | (with_reducible assumption) | (with_reducible refine below_drewN ?_ _) | (with_reducible refine Below.drew ?_) | ((with_reducible refine Below.alloc ?_ ?_ _); rotate_left; focus (first | (with_reducible exact Nat.le_refl _) | omega | (simp; done) | (simp; omega))) | ((with_reducible refine Below.setCell (p := ⟨_, _, _⟩) ?_ ?_ _); rotate_left; focus (first | (with_reducible exact Nat.le_refl _) | omega | (simp; done) | (simp; omega)))))

end Go.Proofs.Ytijifbkikgooiaa
