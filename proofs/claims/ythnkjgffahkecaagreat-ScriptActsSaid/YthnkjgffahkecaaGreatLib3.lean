/- General facts: a world that differs in one block and in what is new; a block of three cells, written; a slice of one pair. No program is in sight. -/
import Derived.Test.YthnkjgffahkecaaGreatLib
namespace Go.Proofs.YthnkjgffahkecaaGreat
open Go.RowKit

/-- W' is W with new blocks, and with writes to the blocks A and r alone. -/
def Tch (A : Nat) (r : Option Nat) (W W' : World) : Prop := W.heap.size ≤ W'.heap.size ∧ ∀ b, b < W.heap.size → b ≠ A → some b ≠ r → W'.heap[b]? = W.heap[b]?

theorem Tch.refl (A : Nat) (r : Option Nat) (W : World) : Tch A r W W := ⟨Nat.le_refl _, fun _ _ _ _ => rfl⟩
theorem Tch.drew {A : Nat} {r : Option Nat} {W W' : World} (h : Tch A r W W') : Tch A r W W'.drew := h
theorem Tch.alloc {A : Nat} {r : Option Nat} {W W' : World} (h : Tch A r W W') (o : Obj) : Tch A r W (W'.alloc o) :=
  ⟨Nat.le_trans h.1 (by simp), fun b hb h1 h2 => (Below.heap_alloc W' o b (Nat.lt_of_lt_of_le hb h.1)).trans (h.2 b hb h1 h2)⟩
theorem Tch.setCell {A : Nat} {r : Option Nat} {W W' : World} (h : Tch A r W W') {p : Addr} (hp : p.block = A ∨ W.heap.size ≤ p.block) (u : Value) : Tch A r W (W'.setCell p u) :=
  ⟨by rw [World.size_setCell]; exact h.1, fun b hb h1 h2 => (Below.heap_setCell W' p u b (by omega)).trans (h.2 b hb h1 h2)⟩
theorem Tch.grown {A : Nat} {r : Option Nat} {W W' W'' : World} (h : Tch A r W W') (hg : W'.grownBy W'' r) : Tch A r W W'' :=
  ⟨Nat.le_trans h.1 hg.size, fun b hb h1 h2 => (hg.block b (Nat.lt_of_lt_of_le hb h.1) h2).trans (h.2 b hb h1 h2)⟩
theorem Tch.grown_past {A : Nat} {r r' : Option Nat} {W W' W'' : World} (h : Tch A r W W') (hg : W'.grownBy W'' r') (hr : ∀ k, r' = some k → W.heap.size ≤ k) : Tch A r W W'' :=
  ⟨Nat.le_trans h.1 hg.size, fun b hb h1 h2 => (hg.block b (Nat.lt_of_lt_of_le hb h.1) (fun e => by have := hr b e.symm; omega)).trans (h.2 b hb h1 h2)⟩
theorem Tch.below {A : Nat} {r : Option Nat} {W W' W'' : World} (h : Tch A r W W') (hb : Below W'.heap.size W' W'') : Tch A r W W'' :=
  ⟨Nat.le_trans h.1 hb.size, fun b hb' h1 h2 => (hb.block b (Nat.lt_of_lt_of_le hb' h.1)).trans (h.2 b hb' h1 h2)⟩
theorem Tch.trans {A : Nat} {r r' : Option Nat} {W W' W'' : World} (h : Tch A r W W') (h' : Tch A r' W' W'') (hr : ∀ k, r' = some k → W.heap.size ≤ k ∨ r' = r) : Tch A r W W'' :=
  ⟨Nat.le_trans h.1 h'.1, fun b hb h1 h2 => (h'.2 b (Nat.lt_of_lt_of_le hb h.1) h1 (fun e => by
    rcases hr b e.symm with h3 | h3
    · omega
    · exact h2 (e.trans h3))).trans (h.2 b hb h1 h2)⟩
theorem Tch.blk {A : Nat} {r : Option Nat} {W W' : World} (h : Tch A r W W') {b : Nat} {o : Obj} (ho : W.heap[b]? = some o) (h1 : b ≠ A) (h2 : some b ≠ r) : W'.heap[b]? = some o :=
  (h.2 b (lt_of_block ho) h1 h2).trans ho
theorem Tch.own {A : Nat} {r : Option Nat} {W W' : World} (h : Tch A r W W') {base : Nat} {e : TypeId} {k : Nat} {v : Value} {n : Nat} {xs : List Value} (ho : W.ownsRow base e k v n xs) (hA : A < base) (hr : v.ownBlock = none ∨ v.ownBlock ≠ r) : W'.ownsRow base e k v n xs := by
  refine ⟨ho.1, ?_⟩
  rcases ho.2 with h2 | ⟨g, cap, cur, rfl, hg, hh, rest⟩
  · exact .inl h2
  · refine .inr ⟨g, cap, cur, rfl, hg, h.blk hh (by omega) ?_, rest⟩
    simpa [Value.ownBlock] using hr
theorem Tch.sl {α : Type} {enc : α → List Value} {k : Nat} {A : Nat} {W0 W W' : World} {v : Value} {xs : List α} (h : Sl enc k W0 v xs) (hb : Below W0.heap.size W0 W) (ht : Tch A none W W') (hA : W0.heap.size ≤ A) : Sl enc k W' v xs := by
  obtain ⟨a, cap, hv, hc, h⟩ := h
  refine ⟨a, cap, hv, hc, ?_⟩
  rcases h with h | ⟨b, off, ha, hlt, hcell⟩
  · exact .inl h
  · have hW := Nat.lt_of_lt_of_le hlt hb.size
    refine .inr ⟨b, off, ha, Nat.lt_of_lt_of_le hW ht.1, fun i x hx j u hu => ?_⟩
    rw [World.cell?_of_block (w := W) (ht.2 b hW (by omega) (by simp))]
    exact (hb.cell (p := ⟨b, off + i * k + j, none⟩) hlt).trans (hcell i x hx j u hu)

/-- A block of three cells, all written. -/
theorem blk_set3 {W : World} {b : Nat} {v0 v1 v2 x0 x1 x2 : Value} {t : TypeId} (h : W.heap[b]? = some (.cells #[v0, v1, v2] t (0, 0))) :
    (((W.setCell ⟨b, 0, none⟩ x0).setCell ⟨b, 1, none⟩ x1).setCell ⟨b, 2, none⟩ x2).heap[b]? = some (.cells #[x0, x1, x2] t (0, 0)) := by
  have h1 := heap_setCell_same W b 0 _ t x0 h
  have h2 := heap_setCell_same _ b 1 _ t x1 h1
  have h3 := heap_setCell_same _ b 2 _ t x2 h2
  rw [h3]
  rfl
theorem Sl.lit1P {W : World} {b : Nat} {x y : Int} (h0 : W.cell? ⟨b, 0, none⟩ = some (.int .i64 x)) (h1 : W.cell? ⟨b, 1, none⟩ = some (.int .i64 y)) : Sl encP 2 W (.slice (some ⟨b, 0, none⟩) 1 1) [(x, y)] := by
  refine ⟨_, 1, rfl, ⟨Nat.le_refl _, fun h => by cases h⟩, .inr ⟨b, 0, rfl, World.block_lt_of_cell? _ _ h0, fun i z hz j u hu => ?_⟩⟩
  have hi : i = 0 := by
    have := (List.getElem?_eq_some_iff.1 hz).1
    simp at this; exact this
  subst hi
  simp at hz
  subst hz
  match j, hu with
  | 0, hu => simp [encP] at hu; subst hu; simpa using h0
  | 1, hu => simp [encP] at hu; subst hu; simpa using h1

/-- Behind a call all old cells, and all old marks, are as they were. -/
theorem bcell {W w1 : World} (hb : Below W.heap.size W w1) : (∀ b o, b < W.heap.size → w1.cell? ⟨b, o, none⟩ = W.cell? ⟨b, o, none⟩) ∧ (∀ b o, b < W.heap.size → w1.frozen? ⟨b, o, none⟩ = W.frozen? ⟨b, o, none⟩) :=
  ⟨fun b o h => hb.cell (p := ⟨b, o, none⟩) h, fun b o h => hb.frozen (p := ⟨b, o, none⟩) h⟩
theorem Sl.lit2P {W : World} {b : Nat} {x1 y1 x2 y2 : Int} (h0 : W.cell? ⟨b, 0, none⟩ = some (.int .i64 x1)) (h1 : W.cell? ⟨b, 1, none⟩ = some (.int .i64 y1)) (h2 : W.cell? ⟨b, 2, none⟩ = some (.int .i64 x2)) (h3 : W.cell? ⟨b, 3, none⟩ = some (.int .i64 y2)) :
    Sl encP 2 W (.slice (some ⟨b, 0, none⟩) 2 2) [(x1, y1), (x2, y2)] := by
  refine ⟨_, 2, rfl, ⟨Nat.le_refl _, fun h => by cases h⟩, .inr ⟨b, 0, rfl, World.block_lt_of_cell? _ _ h0, fun i z hz j u hu => ?_⟩⟩
  match i, hz with
  | 0, hz =>
    simp at hz; subst hz
    match j, hu with
    | 0, hu => simp [encP] at hu; subst hu; simpa using h0
    | 1, hu => simp [encP] at hu; subst hu; simpa using h1
  | 1, hz =>
    simp at hz; subst hz
    match j, hu with
    | 0, hu => simp [encP] at hu; subst hu; simpa using h2
    | 1, hu => simp [encP] at hu; subst hu; simpa using h3

end Go.Proofs.YthnkjgffahkecaaGreat
