/- Link: those that are taken, one by one: the plain list; link.Taken. -/
import Derived.Test.YtijifbkikgooiaaLinkX
import Derived.Test.YtijifbkikgooiaaLinkU
import Derived.Test.YtijifbkikgooiaaLibR
namespace Go.Proofs.Ytijifbkikgooiaa
open Go.RowKit Go.Shelf

/-- Which stamps of xs are taken from fr, by their numbers (from i on), until an error. -/
def runT (fr : Int) : Lk → Nat → List (Int × Int) → List (Nat × Int × Int)
  | _, _, [] => []
  | l, i, x :: xs => if (takeR l fr x).2.2 = 0 then (if (takeR l fr x).2.1 = true then (i, x) :: runT fr (takeR l fr x).1 (i + 1) xs else runT fr (takeR l fr x).1 (i + 1) xs) else []
theorem runT_stop {fr : Int} {l l' : Lk} {b : Bool} {e : Int} {i : Nat} {x : Int × Int} {xs : List (Int × Int)} (h : takeR l fr x = (l', b, e)) (he : ¬ e = 0) : runT fr l i (x :: xs) = [] := by
  unfold runT; rw [h]; simp [he]
theorem runT_yes {fr : Int} {l l' : Lk} {i : Nat} {x : Int × Int} {xs : List (Int × Int)} (h : takeR l fr x = (l', true, 0)) : runT fr l i (x :: xs) = (i, x) :: runT fr l' (i + 1) xs := by
  rw [runT, h]; simp
theorem runT_no {fr : Int} {l l' : Lk} {i : Nat} {x : Int × Int} {xs : List (Int × Int)} (h : takeR l fr x = (l', false, 0)) : runT fr l i (x :: xs) = runT fr l' (i + 1) xs := by
  rw [runT, h]; simp
theorem drop_at {α : Type} {xs : List α} {k : Nat} {x : α} (h : xs[k]? = some x) : xs.drop k = x :: xs.drop (k + 1) := by
  obtain ⟨hk, hx⟩ := List.getElem?_eq_some_iff.1 h
  rw [List.drop_eq_getElem_cons hk, hx]
theorem runT_mem {fr : Int} : ∀ {xs : List (Int × Int)} {l : Lk} {i : Nat} {p : Nat × Int × Int}, p ∈ runT fr l i xs → ∃ j, p.1 = i + j ∧ xs[j]? = some p.2 := by
  intro xs
  induction xs with
  | nil => intro l i p h; simp [runT] at h
  | cons x xs ih =>
    intro l i p h
    unfold runT at h
    split at h
    · split at h
      · rcases List.mem_cons.1 h with rfl | h
        · exact ⟨0, rfl, rfl⟩
        · obtain ⟨j, h1, h2⟩ := ih h
          exact ⟨j + 1, by omega, by simpa using h2⟩
      · obtain ⟨j, h1, h2⟩ := ih h
        exact ⟨j + 1, by omega, by simpa using h2⟩
    · simp at h
theorem runT_at {fr : Int} {xs : List (Int × Int)} {l : Lk} {k : Nat} {p : Nat × Int × Int} (h : (runT fr l 0 xs)[k]? = some p) : xs[p.1]? = some p.2 := by
  obtain ⟨j, h1, h2⟩ := runT_mem (List.mem_of_getElem? h)
  rw [h1, Nat.zero_add]; exact h2
theorem runT_len {fr : Int} : ∀ {xs : List (Int × Int)} {l : Lk} {i : Nat}, (runT fr l i xs).length ≤ xs.length := by
  intro xs
  induction xs with
  | nil => intro l i; simp [runT]
  | cons x xs ih =>
    intro l i
    unfold runT
    split
    · split
      · simp only [List.length_cons]; have := ih (l := (takeR l fr x).1) (i := i + 1); omega
      · simp only [List.length_cons]; have := ih (l := (takeR l fr x).1) (i := i + 1); omega
    · simp

/-- What the function value of Taken has captured. -/
def TknAt (W : World) (lb : Array Value) (l : Lk) (fr : Int) (xs : List (Int × Int)) : Prop :=
  ∃ B1 B2 B3 sv, lb = #[.pointer (some ⟨B1, 0, none⟩), .pointer (some ⟨B2, 0, none⟩), .pointer (some ⟨B3, 0, none⟩)] ∧ BoxAt W B1 l ∧ (W.cell? ⟨B2, 0, none⟩ = some sv ∧ Sl encP 2 W sv xs) ∧ W.cell? ⟨B3, 0, none⟩ = some (.int .i64 fr)
theorem TknAt.below {W W' : World} {lb : Array Value} {l : Lk} {fr : Int} {xs : List (Int × Int)} (h : TknAt W lb l fr xs) (hb : Below W.heap.size W W') : TknAt W' lb l fr xs := by
  obtain ⟨B1, B2, B3, sv, rfl, h1, ⟨h2, h3⟩, h4⟩ := h
  exact ⟨B1, B2, B3, sv, rfl, h1.below hb, ⟨(hb.cell (p := ⟨B2, 0, none⟩) (World.block_lt_of_cell? _ _ h2)).trans h2, h3.below hb⟩, (hb.cell (p := ⟨B3, 0, none⟩) (World.block_lt_of_cell? _ _ h4)).trans h4⟩

set_option maxRecDepth 100000 in
set_option maxHeartbeats 1000000 in
theorem taken_any (w : World) (v sv : Value) (l : Lk) (fr : Int) (xs : List (Int × Int)) (ho : l.out.length ≤ 1099511627776) (hi : l.inn.length ≤ 1099511627776) (hl : LkR w v l) (hlen : xs.length ≤ 1099511627776) (hS : Sl encP 2 w sv xs) :
    Calls Try.prog 26 #[v, .int .i64 fr, sv] w fun e w' => ∃ lb, e = .returned (.func (.func 34) #[] lb) ∧ TknAt w' lb l fr xs ∧ Below w.heap.size w w' := by
  have hl' := hl
  obtain ⟨s1, s2, rfl, h1, h2⟩ := hl
  obtain ⟨a1, c1, rfl⟩ := h1.shape
  obtain ⟨a2, c2, rfl⟩ := h2.shape
  have L := Lib.hid hl'
  have HS := Lib.hid hS
  obtain ⟨a3, c3, rfl⟩ := hS.shape
  clear h1 h2 hl' hS
  go_enter Try.func26, Try.ntmps26
  go_wp2_with fail
  obtain ⟨V, hV⟩ : ∃ V, V = (w.alloc (.cells #[.int .i64 l.inc, .slice a1 l.out.length c1, .slice a2 l.inn.length c2] 25)).alloc (.cells #[.int .i64 fr] 3) := ⟨_, rfl⟩
  rw [← hV]
  have E : Below w.heap.size w V := by rw [hV]; (repeat (first | (with_reducible exact Below.refl _ _) | (with_reducible assumption) | (with_reducible refine below_drewN ?_ _) | (with_reducible refine Below.drew ?_) | ((with_reducible refine Below.alloc ?_ ?_ _); rotate_left; focus (first | (with_reducible exact Nat.le_refl _) | omega | (simp; done) | (simp; omega))) | ((with_reducible refine Below.setCell (p := ⟨_, _, _⟩) ?_ ?_ _); rotate_left; focus (first | (with_reducible exact Nat.le_refl _) | omega | (simp; done) | (simp; omega)))))
  have q4 : V.cell? ⟨w.heap.size + 1, 0, none⟩ = some (.int .i64 fr) := by rw [hV]; go_simp
  have l4 : w.heap.size + 1 < V.heap.size := by rw [hV]; simp
  clear hV
  refine (own_any V _ l ho hi (L.out.below E)).mono ?_
  rintro e W1 ⟨r, rfl, hO, hB1⟩
  have E1 := E.trans (hB1.mono E.size)
  have q4 := (hB1.cell (p := ⟨w.heap.size + 1, 0, none⟩) l4).trans q4
  have l4 := Nat.lt_of_lt_of_le l4 hB1.size
  have hO := Lib.hid hO
  clear hB1 E
  go_wp2_with fail
  refine (cloneP_any W1 _ xs hlen (HS.out.below E1)).mono ?_
  rintro e W2 ⟨v2, rfl, own2, hB2⟩
  obtain ⟨s1, s2, rfl, o1, o2⟩ := hO.out
  obtain ⟨a5, c5, rfl⟩ := owns_shape o1
  obtain ⟨a6, c6, rfl⟩ := owns_shape o2
  obtain ⟨a7, c7, rfl⟩ := owns_shape own2
  have E2 := E1.trans (hB2.mono E1.size)
  have q4 := (hB2.cell (p := ⟨w.heap.size + 1, 0, none⟩) l4).trans q4
  have l4 := Nat.lt_of_lt_of_le l4 hB2.size
  have R1 := Lib.hid (LkOwn.reads (LkOwn.below hO.out hB2))
  have R2 := Lib.hid (Sl.of_owns encP_len own2)
  clear hO hB2 E1 o1 o2 own2
  go_wp2_with fail
  go_ret
  refine ⟨_, rfl, ⟨_, _, _, _, rfl, ⟨a5, c5, a6, c6, ?_, ?_⟩, ⟨?_, R2.out.below ?_⟩, ?_⟩, ?_⟩
  · exact blk_old _ (blk_new _ _)
  · exact R1.out.below (((Below.refl _ _).alloc (Nat.le_refl _) _).alloc (by simp) _)
  · go_simp
  · exact ((Below.refl _ _).alloc (Nat.le_refl _) _).alloc (by simp) _
  · rw [World.cell?_alloc_past _ _ _ (by simp; omega), World.cell?_alloc_past _ _ _ l4]; exact q4
  · exact (E2.alloc E2.size _).alloc (by have := E2.size; simp; omega) _

end Go.Proofs.Ytijifbkikgooiaa
