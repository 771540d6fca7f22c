/- Part 1 of the proof of LockBacks: contracts of functions that the law reaches, or the rules by which they are walked. No condition. -/
import Derived.WalkKit
import Derived.WalkSpells
import Derived.WalkLawsBesides
import Derived.Lib.Hide
import Derived.RangeFuncBox
import Derived.RangeFuncNested
import Derived.RangeFuncBound
import Derived.RangeFuncCalls
import Derived.RangeFuncLeaves
import Derived.OwnWalkIn
import Derived.TacticsInMore
import Derived.LoopNIn
import Derived.LoopIn
import Derived.Shelf.Abstract
import Derived.Sort.BigQuietIn
namespace Go.Proofs.YtmhnlkakbadkgaaGreat
open Go.RowKit
theorem ret_bool {a b : Bool} (h : a = b) : Ending.returned (.bool a) = .returned (.bool b) := by rw [h]
def Sl {α : Type} (enc : α → List Value) (k : Nat) (w : World) (v : Value) (xs : List α) : Prop :=
  ∃ (a : Option Addr) (cap : Nat), v = .slice a xs.length cap ∧ (xs.length ≤ cap ∧ (a = none → cap = 0)) ∧
    (xs = [] ∨ ∃ b off, a = some ⟨b, off, none⟩ ∧ b < w.heap.size ∧ ∀ i x, xs[i]? = some x → ∀ j u, (enc x)[j]? = some u → w.cell? ⟨b, off + i * k + j, none⟩ = some u)
theorem Sl.below {α : Type} {enc : α → List Value} {k : Nat} {w w' : World} {v : Value} {xs : List α} (h : Sl enc k w v xs) (hb : Below w.heap.size w w') : Sl enc k w' v xs := by
  obtain ⟨a, cap, hv, hc, h⟩ := h
  refine ⟨a, cap, hv, hc, ?_⟩
  rcases h with h | ⟨b, off, ha, hlt, hcell⟩
  · exact .inl h
  · refine .inr ⟨b, off, ha, Nat.lt_of_lt_of_le hlt hb.size, fun i x hx j u hu => ?_⟩
    exact (hb.cell (p := ⟨b, off + i * k + j, none⟩) hlt).trans (hcell i x hx j u hu)
theorem Sl.nil {α : Type} (enc : α → List Value) (k : Nat) (w : World) : Sl enc k w (.slice none 0 0) [] := ⟨none, 0, rfl, ⟨Nat.zero_le _, fun _ => rfl⟩, .inl rfl⟩
theorem Sl.of_owns {α : Type} {enc : α → List Value} {k : Nat} {w : World} {v : Value} {xs : List α} {base : Nat} {e : TypeId}
    (hk : ∀ x, (enc x).length = k) (h : w.ownsRow base e k v xs.length (xs.flatMap enc)) : Sl enc k w v xs := by
  rcases h.2 with ⟨rfl, h0⟩ | ⟨g, cap, cur, rfl, hb, hg, hn, hm, hs, ht⟩
  · have : xs = [] := List.length_eq_zero_iff.1 h0
    subst this
    exact ⟨none, 0, rfl, ⟨Nat.le_refl _, fun _ => rfl⟩, .inl rfl⟩
  · refine ⟨_, cap, rfl, ⟨hn, fun h => by cases h⟩, .inr ⟨g, 0, rfl, (Array.getElem?_eq_some_iff.1 hg).1, fun i x hx j u hu => ?_⟩⟩
    have hcell := h.cells (g := g) (by simp [Value.ownBlock]) (i * k + j) u ?_
    · have e1 : ((⟨g, 0, none⟩ : Addr).add (i * k + j)) = ⟨g, 0 + i * k + j, none⟩ := by
        unfold Addr.add
        split
        · simp_all
        · simp
      rw [e1] at hcell
      exact hcell
    · have key : ∀ (l : List α) (i : Nat) (x : α), l[i]? = some x → (enc x)[j]? = some u → (l.flatMap enc)[i * k + j]? = some u := by
        intro l
        induction l with
        | nil => intro i x hx; simp at hx
        | cons y l ih =>
          intro i x hx hu
          have hj : j < k := by rw [← hk x]; exact (List.getElem?_eq_some_iff.1 hu).1
          cases i with
          | zero =>
            simp only [List.getElem?_cons_zero, Option.some.injEq] at hx
            subst hx
            rw [List.flatMap_cons, List.getElem?_append_left (by rw [hk]; omega)]
            simpa using hu
          | succ i =>
            rw [List.getElem?_cons_succ] at hx
            rw [List.flatMap_cons, List.getElem?_append_right (by rw [hk, Nat.succ_mul]; omega), hk]
            have : (i + 1) * k + j - k = i * k + j := by rw [Nat.succ_mul]; omega
            rw [this]
            exact ih i x hx hu
      exact key xs i x hx hu
def encI (x : Int) : List Value := [.int .i64 x]
theorem encI_len (x : Int) : (encI x).length = 1 := rfl
theorem flat_at {α : Type} {enc : α → List Value} {k : Nat} (hk : ∀ x, (enc x).length = k) : ∀ (l : List α) (m : Nat) (u : Value), (l.flatMap enc)[m]? = some u →
    ∃ i j x, m = i * k + j ∧ l[i]? = some x ∧ (enc x)[j]? = some u := by
  intro l
  induction l with
  | nil => intro m u h; simp at h
  | cons y l ih =>
    intro m u h
    rw [List.flatMap_cons] at h
    by_cases hm : m < k
    · rw [List.getElem?_append_left (by rw [hk]; exact hm)] at h
      exact ⟨0, m, y, by omega, rfl, h⟩
    · rw [List.getElem?_append_right (by rw [hk]; omega), hk] at h
      obtain ⟨i, j, x, e, hx, hu⟩ := ih _ _ h
      exact ⟨i + 1, j, x, by rw [Nat.succ_mul]; omega, by simpa using hx, hu⟩
theorem flat_length {α : Type} {enc : α → List Value} {k : Nat} (hk : ∀ x, (enc x).length = k) (l : List α) : (l.flatMap enc).length = l.length * k := by
  induction l with
  | nil => simp
  | cons y l ih => rw [List.flatMap_cons, List.length_append, ih, hk, List.length_cons, Nat.succ_mul]; omega
theorem Sl.news {α : Type} {enc : α → List Value} {k : Nat} (hk : ∀ x, (enc x).length = k) {w : World} {ad : Addr} {n c : Nat} {xs : List α} (h : Sl enc k w (.slice (some ad) n c) xs) :
    ∀ m u, (xs.flatMap enc)[m]? = some u → w.cell? (ad.add m) = some u := by
  intro m u hm
  obtain ⟨i, j, x, e, hx, hu⟩ := flat_at hk xs m u hm
  obtain ⟨a, cap, hv, _, h⟩ := h
  cases hv
  rcases h with h | ⟨b, off, ha, hlt, hc⟩
  · subst h; simp at hx
  · cases ha
    have := hc i x hx j u hu
    have e1 : ((⟨b, off, none⟩ : Addr).add m) = ⟨b, off + i * k + j, none⟩ := by
      subst e
      unfold Addr.add
      split
      · simp_all
      · simp [Nat.add_assoc]
    rw [e1]; exact this
theorem Sl.nil_of_none {α : Type} {enc : α → List Value} {k : Nat} {w : World} {n c : Nat} {xs : List α} (h : Sl enc k w (.slice none n c) xs) : xs = [] := by
  obtain ⟨a, cap, hv, _, h⟩ := h
  cases hv
  rcases h with h | ⟨b, off, ha, _⟩
  · exact h
  · cases ha
theorem Sl.nil_cap {α : Type} {enc : α → List Value} {k : Nat} {w : World} {n c : Nat} {xs : List α} (h : Sl enc k w (.slice none n c) xs) : n = 0 ∧ c = 0 := by
  have h0 := h.nil_of_none
  obtain ⟨a, cap, hv, hc, h⟩ := h
  cases hv
  subst h0
  exact ⟨rfl, hc.2 rfl⟩
theorem encI_one {xs : List Int} : ∀ u ∈ xs.flatMap encI, u.oneCell' = true := by
  intro u hu
  simp only [List.mem_flatMap, encI, List.mem_singleton] at hu
  obtain ⟨x, _, rfl⟩ := hu; rfl
theorem cells1 {w : World} {b : Nat} {v0 : Value} {t : TypeId} (h : w.heap[b]? = some (.cells #[v0] t (0, 0))) : w.cell? ⟨b, 0, none⟩ = some v0 ∧ ∀ i, w.frozen? ⟨b, i, none⟩ = false := by
  refine ⟨by simp [World.cell?, h], fun i => by simp [World.frozen?, h]⟩
theorem at_some {α : Type} {xs : List α} {k : Nat} (h : k < xs.length) : ∃ x, xs[k]? = some x := ⟨_, List.getElem?_eq_getElem h⟩
theorem Sl.shape {α : Type} {enc : α → List Value} {k : Nat} {w : World} {v : Value} {xs : List α} (h : Sl enc k w v xs) : ∃ a cap, v = .slice a xs.length cap := by
  obtain ⟨a, cap, hv, _⟩ := h; exact ⟨a, cap, hv⟩
end Go.Proofs.YtmhnlkakbadkgaaGreat
namespace Go.Proofs.YtmhnlkakbadkgaaGreat
open Go.RowKit
def Tch (A : Nat) (r : Option Nat) (W W' : World) : Prop := W.heap.size ≤ W'.heap.size ∧ ∀ b, b < W.heap.size → b ≠ A → some b ≠ r → W'.heap[b]? = W.heap[b]?
theorem Tch.refl (A : Nat) (r : Option Nat) (W : World) : Tch A r W W := ⟨Nat.le_refl _, fun _ _ _ _ => rfl⟩
theorem Tch.drew {A : Nat} {r : Option Nat} {W W' : World} (h : Tch A r W W') : Tch A r W W'.drew := h
theorem Tch.alloc {A : Nat} {r : Option Nat} {W W' : World} (h : Tch A r W W') (o : Obj) : Tch A r W (W'.alloc o) :=
  ⟨Nat.le_trans h.1 (by simp), fun b hb h1 h2 => (Below.heap_alloc W' o b (Nat.lt_of_lt_of_le hb h.1)).trans (h.2 b hb h1 h2)⟩
theorem Tch.setCell {A : Nat} {r : Option Nat} {W W' : World} (h : Tch A r W W') {p : Addr} (hp : p.block = A ∨ W.heap.size ≤ p.block) (u : Value) : Tch A r W (W'.setCell p u) :=
  ⟨by rw [World.size_setCell]; exact h.1, fun b hb h1 h2 => (Below.heap_setCell W' p u b (by omega)).trans (h.2 b hb h1 h2)⟩
theorem Tch.grown {A : Nat} {r : Option Nat} {W W' W'' : World} (h : Tch A r W W') (hg : W'.grownBy W'' r) : Tch A r W W'' :=
  ⟨Nat.le_trans h.1 hg.size, fun b hb h1 h2 => (hg.block b (Nat.lt_of_lt_of_le hb h.1) h2).trans (h.2 b hb h1 h2)⟩
theorem Tch.below {A : Nat} {r : Option Nat} {W W' W'' : World} (h : Tch A r W W') (hb : Below W'.heap.size W' W'') : Tch A r W W'' :=
  ⟨Nat.le_trans h.1 hb.size, fun b hb' h1 h2 => (hb.block b (Nat.lt_of_lt_of_le hb' h.1)).trans (h.2 b hb' h1 h2)⟩
theorem Tch.trans {A : Nat} {r r' : Option Nat} {W W' W'' : World} (h : Tch A r W W') (h' : Tch A r' W' W'') (hr : ∀ k, r' = some k → W.heap.size ≤ k ∨ r' = r) : Tch A r W W'' :=
  ⟨Nat.le_trans h.1 h'.1, fun b hb h1 h2 => (h'.2 b (Nat.lt_of_lt_of_le hb h.1) h1 (fun e => by
    rcases hr b e.symm with h3 | h3
    · omega
    · exact h2 (e.trans h3))).trans (h.2 b hb h1 h2)⟩
theorem Tch.blk {A : Nat} {r : Option Nat} {W W' : World} (h : Tch A r W W') {b : Nat} {o : Obj} (ho : W.heap[b]? = some o) (h1 : b ≠ A) (h2 : some b ≠ r) : W'.heap[b]? = some o :=
  (h.2 b (lt_of_block ho) h1 h2).trans ho
theorem Tch.own {A : Nat} {r : Option Nat} {W W' : World} (h : Tch A r W W') {base : Nat} {e : TypeId} {k : Nat} {v : Value} {n : Nat} {xs : List Value} (ho : W.ownsRow base e k v n xs) (hA : A < base) (hr : v.ownBlock = none ∨ v.ownBlock ≠ r) : W'.ownsRow base e k v n xs := by
  refine ⟨ho.1, ?_⟩
  rcases ho.2 with h2 | ⟨g, cap, cur, rfl, hg, hh, rest⟩
  · exact .inl h2
  · refine .inr ⟨g, cap, cur, rfl, hg, h.blk hh (by omega) ?_, rest⟩
    simpa [Value.ownBlock] using hr
theorem Tch.sl {α : Type} {enc : α → List Value} {k : Nat} {A : Nat} {W0 W W' : World} {v : Value} {xs : List α} (h : Sl enc k W0 v xs) (hb : Below W0.heap.size W0 W) (ht : Tch A none W W') (hA : W0.heap.size ≤ A) : Sl enc k W' v xs := by
  obtain ⟨a, cap, hv, hc, h⟩ := h
  refine ⟨a, cap, hv, hc, ?_⟩
  rcases h with h | ⟨b, off, ha, hlt, hcell⟩
  · exact .inl h
  · have hW := Nat.lt_of_lt_of_le hlt hb.size
    refine .inr ⟨b, off, ha, Nat.lt_of_lt_of_le hW ht.1, fun i x hx j u hu => ?_⟩
    rw [World.cell?_of_block (w := W) (ht.2 b hW (by omega) (by simp))]
    exact (hb.cell (p := ⟨b, off + i * k + j, none⟩) hlt).trans (hcell i x hx j u hu)
end Go.Proofs.YtmhnlkakbadkgaaGreat
namespace Go.Proofs.YtmhnlkakbadkgaaGreat
open Go.RowKit Go.Shelf
structure Rnd (lo hi : Nat) (W W' : World) : Prop where
  os : W'.os = W.os
  tape : W'.tape = W.tape
  output : W'.output = W.output
  size : W.heap.size ≤ W'.heap.size
  block : ∀ b, b < W.heap.size → (b < lo ∨ hi ≤ b) → W'.heap[b]? = W.heap[b]?
theorem Rnd.refl (lo hi : Nat) (W : World) : Rnd lo hi W W := ⟨rfl, rfl, rfl, Nat.le_refl _, fun _ _ _ => rfl⟩
theorem Rnd.trans {lo hi : Nat} {A B C : World} (h : Rnd lo hi A B) (k : Rnd lo hi B C) : Rnd lo hi A C :=
  ⟨k.os.trans h.os, k.tape.trans h.tape, k.output.trans h.output, Nat.le_trans h.size k.size, fun b hb hc => (k.block b (Nat.lt_of_lt_of_le hb h.size) hc).trans (h.block b hb hc)⟩
theorem Rnd.alloc {lo hi : Nat} {A B : World} (h : Rnd lo hi A B) (o : Obj) : Rnd lo hi A (B.alloc o) :=
  ⟨h.os, h.tape, h.output, Nat.le_trans h.size (by simp), fun b hb hc => (Below.heap_alloc B o b (Nat.lt_of_lt_of_le hb h.size)).trans (h.block b hb hc)⟩
theorem Rnd.drew {lo hi : Nat} {A B : World} (h : Rnd lo hi A B) : Rnd lo hi A B.drew := ⟨h.os, h.tape, h.output, h.size, h.block⟩
theorem Rnd.setCell {lo hi : Nat} {A B : World} (h : Rnd lo hi A B) {p : Addr} (hp : (lo ≤ p.block ∧ p.block < hi) ∨ A.heap.size ≤ p.block) (u : Value) : Rnd lo hi A (B.setCell p u) :=
  ⟨h.os, h.tape, h.output, by rw [World.size_setCell]; exact h.size, fun b hb hc => (Below.heap_setCell B p u b (by omega)).trans (h.block b hb hc)⟩
theorem Rnd.below {lo hi : Nat} {A B C : World} (h : Rnd lo hi A B) (k : Below B.heap.size B C) : Rnd lo hi A C :=
  ⟨k.os.trans h.os, k.tape.trans h.tape, k.output.trans h.output, Nat.le_trans h.size k.size, fun b hb hc => (k.block b (Nat.lt_of_lt_of_le hb h.size)).trans (h.block b hb hc)⟩
theorem Rnd.of_below {lo hi : Nat} {A B : World} (k : Below A.heap.size A B) : Rnd lo hi A B := (Rnd.refl lo hi A).below k
theorem Rnd.keep {lo hi : Nat} {A B : World} (h : Rnd lo hi A B) {b : Nat} {o : Obj} (ho : A.heap[b]? = some o) (hb : b < lo ∨ hi ≤ b) : B.heap[b]? = some o :=
  (h.block b (lt_of_block ho) hb).trans ho
theorem Rnd.grown {lo hi : Nat} {A B C : World} {row : Option Nat} (h : Rnd lo hi A B) (hg : B.grownBy C row) (hr : ∀ g, row = some g → A.heap.size ≤ g ∨ (lo ≤ g ∧ g < hi)) : Rnd lo hi A C :=
  ⟨hg.os.trans h.os, hg.tape.trans h.tape, hg.output.trans h.output, Nat.le_trans h.size hg.size, fun b hb hc => (hg.block b (Nat.lt_of_lt_of_le hb h.size) (fun e => by have := hr b e.symm; omega)).trans (h.block b hb hc)⟩
def CellsKept (n0 : Nat) (W W' : World) : Prop := W'.heap.size = W.heap.size ∧ Below n0 W W' ∧ ∀ (b : Nat) (o : Obj), W.heap[b]? = some o → o.isCells = true → W'.heap[b]? = some o
theorem CellsKept.refl (n0 : Nat) (W : World) : CellsKept n0 W W := ⟨rfl, Below.refl _ _, fun _ _ h _ => h⟩
theorem CellsKept.blk {n0 : Nat} {W W' : World} (h : CellsKept n0 W W') {b : Nat} {cs : Array Value} {t : TypeId} {f : Nat × Nat} (hb : W.heap[b]? = some (.cells cs t f)) : W'.heap[b]? = some (.cells cs t f) := h.2.2 b _ hb rfl
def SlF {α : Type} (lo hi : Nat) (enc : α → List Value) (k : Nat) (w : World) (v : Value) (xs : List α) : Prop :=
  ∃ (a : Option Addr) (cap : Nat), v = .slice a xs.length cap ∧ (xs.length ≤ cap ∧ (a = none → cap = 0)) ∧
    (xs = [] ∨ ∃ b off, a = some ⟨b, off, none⟩ ∧ b < w.heap.size ∧ (b < lo ∨ hi ≤ b) ∧ ∀ i x, xs[i]? = some x → ∀ j u, (enc x)[j]? = some u → w.cell? ⟨b, off + i * k + j, none⟩ = some u)
theorem SlF.sl {α : Type} {lo hi : Nat} {enc : α → List Value} {k : Nat} {w : World} {v : Value} {xs : List α} (h : SlF lo hi enc k w v xs) : Sl enc k w v xs := by
  obtain ⟨a, cap, hv, hc, h⟩ := h
  refine ⟨a, cap, hv, hc, ?_⟩
  rcases h with h | ⟨b, off, ha, hlt, _, hcell⟩
  · exact .inl h
  · exact .inr ⟨b, off, ha, hlt, hcell⟩
theorem SlF.of_owns {α : Type} {lo hi : Nat} {enc : α → List Value} {k : Nat} {w : World} {v : Value} {xs : List α} {base : Nat} {e : TypeId}
    (hk : ∀ x, (enc x).length = k) (h : w.ownsRow base e k v xs.length (xs.flatMap enc)) (hb : hi ≤ base) : SlF lo hi enc k w v xs := by
  have hS := Sl.of_owns hk h
  have hv : ∀ g, v.ownBlock = some g → base ≤ g := by
    intro g hg
    rcases h.2 with ⟨rfl, _⟩ | ⟨g', cap, cur, rfl, hb, hh, _⟩
    · simp [Value.ownBlock] at hg
    · simp only [Value.ownBlock, Option.some.injEq] at hg
      subst hg; exact hb
  have hform : ∀ b off n c, v = .slice (some ⟨b, off, none⟩) n c → v.ownBlock = some b := by
    intro b off n c e
    rcases h.2 with ⟨h0, _⟩ | ⟨g', cap, cur, h0, _⟩
    · rw [h0] at e; cases e
    · rw [h0] at e; cases e; rw [h0]; rfl
  obtain ⟨a, cap, hv', hc, h'⟩ := hS
  refine ⟨a, cap, hv', hc, ?_⟩
  rcases h' with h' | ⟨b, off, ha, hlt, hcell⟩
  · exact .inl h'
  · refine .inr ⟨b, off, ha, hlt, .inr ?_, hcell⟩
    subst ha
    have := hv b (hform b off _ _ hv')
    omega
theorem wpIn_scope_w {P : Program} {n : Nat} {Q : Exit → Act → World → Prop} {a : Act} {w : World} {c : Code} (h : c.wpIn Fence.wide n P (Exit.noGoto Q) a w) : (Code.scope c).wpIn Fence.wide n P Q a w :=
  wpIn_wide.2 (wp_scope_straight (wpIn_wide.1 h))
end Go.Proofs.YtmhnlkakbadkgaaGreat
