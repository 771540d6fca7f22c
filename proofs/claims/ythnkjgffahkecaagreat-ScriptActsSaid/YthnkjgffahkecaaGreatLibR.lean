/- A range over a function whose iterator keeps cells of its own: the iterator's contract, and the law for the caller. No program is in sight. -/
import Derived.Test.YthnkjgffahkecaaGreatLib3
import Derived.RangeFuncNested
import Derived.RangeFuncBound
import Derived.RangeFuncCalls
import Derived.RangeFuncLeaves
import Derived.OwnWalkIn
import Derived.TacticsInMore
import Derived.LoopNIn
import Derived.LoopIn
import Derived.Shelf.Abstract
import Derived.Sort.BigQuietIn
namespace Go.Proofs.YthnkjgffahkecaaGreat
open Go.RowKit Go.Shelf

/-- W' is W but for new blocks and for the blocks from lo up to hi. -/
structure Rnd (lo hi : Nat) (W W' : World) : Prop where
  os : W'.os = W.os
  tape : W'.tape = W.tape
  output : W'.output = W.output
  size : W.heap.size ≤ W'.heap.size
  block : ∀ b, b < W.heap.size → (b < lo ∨ hi ≤ b) → W'.heap[b]? = W.heap[b]?

theorem Rnd.refl (lo hi : Nat) (W : World) : Rnd lo hi W W := ⟨rfl, rfl, rfl, Nat.le_refl _, fun _ _ _ => rfl⟩
theorem Rnd.trans {lo hi : Nat} {A B C : World} (h : Rnd lo hi A B) (k : Rnd lo hi B C) : Rnd lo hi A C :=
  ⟨k.os.trans h.os, k.tape.trans h.tape, k.output.trans h.output, Nat.le_trans h.size k.size, fun b hb hc => (k.block b (Nat.lt_of_lt_of_le hb h.size) hc).trans (h.block b hb hc)⟩
theorem Rnd.wider {lo lo' hi hi' : Nat} {A B : World} (h : Rnd lo hi A B) (hl : lo' ≤ lo) (hh : hi ≤ hi') : Rnd lo' hi' A B :=
  ⟨h.os, h.tape, h.output, h.size, fun b hb hc => h.block b hb (by omega)⟩
theorem Rnd.alloc {lo hi : Nat} {A B : World} (h : Rnd lo hi A B) (o : Obj) : Rnd lo hi A (B.alloc o) :=
  ⟨h.os, h.tape, h.output, Nat.le_trans h.size (by simp), fun b hb hc => (Below.heap_alloc B o b (Nat.lt_of_lt_of_le hb h.size)).trans (h.block b hb hc)⟩
theorem Rnd.drew {lo hi : Nat} {A B : World} (h : Rnd lo hi A B) : Rnd lo hi A B.drew := ⟨h.os, h.tape, h.output, h.size, h.block⟩
theorem Rnd.drewN {lo hi : Nat} {A B : World} (h : Rnd lo hi A B) (n : Nat) : Rnd lo hi A (B.drewN n) := ⟨h.os, h.tape, h.output, h.size, h.block⟩
theorem Rnd.setCell {lo hi : Nat} {A B : World} (h : Rnd lo hi A B) {p : Addr} (hp : (lo ≤ p.block ∧ p.block < hi) ∨ A.heap.size ≤ p.block) (u : Value) : Rnd lo hi A (B.setCell p u) :=
  ⟨h.os, h.tape, h.output, by rw [World.size_setCell]; exact h.size, fun b hb hc => (Below.heap_setCell B p u b (by omega)).trans (h.block b hb hc)⟩
theorem Rnd.below {lo hi : Nat} {A B C : World} (h : Rnd lo hi A B) (k : Below B.heap.size B C) : Rnd lo hi A C :=
  ⟨k.os.trans h.os, k.tape.trans h.tape, k.output.trans h.output, Nat.le_trans h.size k.size, fun b hb hc => (k.block b (Nat.lt_of_lt_of_le hb h.size)).trans (h.block b hb hc)⟩
theorem Rnd.of_below {lo hi : Nat} {A B : World} (k : Below A.heap.size A B) : Rnd lo hi A B := (Rnd.refl lo hi A).below k
theorem Rnd.belowLo {lo hi : Nat} {A B : World} (h : Rnd lo hi A B) (hl : lo ≤ A.heap.size) : Below lo A B :=
  ⟨h.os, h.tape, h.output, h.size, fun b hb => h.block b (Nat.lt_of_lt_of_le hb hl) (.inl hb)⟩
theorem Rnd.keep {lo hi : Nat} {A B : World} (h : Rnd lo hi A B) {b : Nat} {o : Obj} (ho : A.heap[b]? = some o) (hb : b < lo ∨ hi ≤ b) : B.heap[b]? = some o :=
  (h.block b (lt_of_block ho) hb).trans ho
theorem Rnd.grown {lo hi : Nat} {A B C : World} {row : Option Nat} (h : Rnd lo hi A B) (hg : B.grownBy C row) (hr : ∀ g, row = some g → A.heap.size ≤ g ∨ (lo ≤ g ∧ g < hi)) : Rnd lo hi A C :=
  ⟨hg.os.trans h.os, hg.tape.trans h.tape, hg.output.trans h.output, Nat.le_trans h.size hg.size, fun b hb hc => (hg.block b (Nat.lt_of_lt_of_le hb h.size) (fun e => by have := hr b e.symm; omega)).trans (h.block b hb hc)⟩
theorem Rnd.below_of {lo hi : Nat} {V A B : World} (h : Rnd lo hi V A) (hb : Below V.heap.size A B) : Rnd lo hi V B :=
  ⟨hb.os.trans h.os, hb.tape.trans h.tape, hb.output.trans h.output, Nat.le_trans h.size hb.size, fun b hb' hc => (hb.block b hb').trans (h.block b hb' hc)⟩
theorem below_rnd {w V W : World} {lo hi : Nat} (h : Below w.heap.size w V) (hr : Rnd lo hi V W) (hw : w.heap.size ≤ lo) : Below w.heap.size w W :=
  ⟨hr.os.trans h.os, hr.tape.trans h.tape, hr.output.trans h.output, Nat.le_trans h.size hr.size, fun b hb => (hr.block b (Nat.lt_of_lt_of_le hb h.size) (.inl (by omega))).trans (h.block b hb)⟩
theorem own_rnd {V W : World} {lo hi base : Nat} {e : TypeId} {k : Nat} {v : Value} {n : Nat} {xs : List Value} (h : V.ownsRow base e k v n xs) (hr : Rnd lo hi V W) (hv : ∀ g, v.ownBlock = some g → g < lo ∨ hi ≤ g) : W.ownsRow base e k v n xs := by
  refine ⟨h.1, ?_⟩
  rcases h.2 with h2 | ⟨g, cap, cur, rfl, hg, hh, rest⟩
  · exact .inl h2
  · exact .inr ⟨g, cap, cur, rfl, hg, (hr.block g (lt_of_block hh) (hv g (by simp [Value.ownBlock]))).trans hh, rest⟩
theorem below_putObj {B : Nat} (W : World) {l : Nat} (o : Obj) (h : B ≤ l) : Below B W (W.putObj l o) :=
  ⟨rfl, rfl, rfl, by simp, fun k hk => World.putObj_heap_other (by omega)⟩
theorem rnd_putObj {lo hi : Nat} (W : World) {l : Nat} (o : Obj) (h1 : lo ≤ l) (h2 : l < hi) : Rnd lo hi W (W.putObj l o) :=
  ⟨rfl, rfl, rfl, by simp, fun b _ hc => World.putObj_heap_other (by omega)⟩

/-- What an iterator promises that has captured what lies below w0's heap, and gives the elements of xs: whatever the caller keeps of the blocks that lay when the iterator was called stays; the rounds keep what was captured and what the iterator has laid. -/
def SeqP {α : Type} (n : Nat) (P : Program) (g : Nat) (lb : Array Value) (enc : α → Array Value) (w0 : World) (xs : List α) : Prop :=
  ∀ (l : Nat) (J Jx : Nat → World → Prop) (W : World), Below w0.heap.size w0 W →
    (∀ k A B, J k A → Below W.heap.size A B → J k B) → (∀ k A B, Jx k A → Below W.heap.size A B → Jx k B) →
    (∀ k x W1, xs[k]? = some x → J k W1 → YieldAt Fence.wide (n - 1) P l (enc x) W1 fun e W' =>
      (e = .returned (.bool true) ∧ J (k + 1) W' ∧ Rnd w0.heap.size W.heap.size W1 W') ∨ (e = .returned (.bool false) ∧ Jx (k + 1) W')) →
    J 0 W →
    CallsIn Fence.wide n P g (#[.func (.yield l) #[] #[]] ++ lb) W fun e W' => (∃ v, e = .returned v) ∧ (J xs.length W' ∨ ∃ k, Jx k W' ∧ 0 < k ∧ k ≤ xs.length)

/-- How a round's body may be left: behind element k. -/
def rndPost (lo hi : Nat) (I : Nat → World → Prop) (Ix : Code → Nat → World → Prop) (k : Nat) (W : World) : Exit → Act → World → Prop
  | .normal, _, W' => Rnd lo hi W W' ∧ I (k + 1) W'
  | .ret, _, W' => Rnd 0 hi W W' ∧ Ix .ret (k + 1) W'
  | .exit id, _, W' => Rnd 0 hi W W' ∧ Ix (.exit id) (k + 1) W'
  | .goto t, _, W' => Rnd 0 hi W W' ∧ Ix (.goto t) (k + 1) W'
  | .panic _, _, _ => False
  | .outgrown, _, _ => False

theorem wpIn_rangeP {n : Nat} {P : Program} {α : Type} {g : Operand} {ps : Array Tmp} {assign body : Code} {Q : Exit → Act → World → Prop} {a : Act} {w : World}
    {gf : Nat} {lb : Array Value} (hg : a.eval g = .func (.func gf) #[] lb) (eg : Enters P gf) {enc : α → Array Value} {w0 : World} {xs : List α}
    (hseq : SeqP (n - 1) P gf lb enc w0 xs) (hb0 : Below w0.heap.size w0 w) (hps : ∀ x, (enc x).size = ps.size)
    (I : Nat → World → Prop) (Ix : Code → Nat → World → Prop) (hI : ∀ k A B, I k A → Below w.heap.size A B → I k B) (hIx : ∀ c k A B, Ix c k A → Below w.heap.size A B → Ix c k B) (h0 : I 0 w)
    (Ax : Nat → α → Act → World → Prop) (hAx : ∀ k x a' W l o, w.heap.size ≤ l → (∃ r, W.heap[l]? = some (.loop r)) → Ax k x a' W → Ax k x a' (W.putObj l o))
    (hassign : ∀ (l : Nat) (k : Nat) (x : α) (W : World) (K : Act → World → Prop), xs[k]? = some x → w.heap.size ≤ W.heap.size → I k W → (∀ a' W', Rnd w0.heap.size w.heap.size W W' → I k W' → Ax k x a' W' → K a' W') →
      assign.wpIn (Fence.wide.inRound l) (n - 1 - 1) P (Exit.then K (fun _ _ _ => False)) { tmps := (ps.zip (enc x)).foldl (fun t (p, v) => t.setIfInBounds p v) a.tmps, defers := [] } W)
    (hbody : ∀ (l : Nat) (k : Nat) (x : α) (a' : Act) (W : World), xs[k]? = some x → w.heap.size + 1 < W.heap.size → I k W → Ax k x a' W → body.wpIn (Fence.wide.inRound l) (n - 1 - 1) P (rndPost w0.heap.size w.heap.size I Ix k W) a' W)
    (hdone : ∀ (W : World), I xs.length W → W.heap[w.heap.size]? = some (.deferred (some [])) → w.heap.size + 1 < W.heap.size → Q .normal { a with defers := { target := .collected w.heap.size, args := #[] } :: a.defers } W)
    (hstop : ∀ (c : Code) (k : Nat) (W : World), 0 < k → k ≤ xs.length → Ix c k W → W.heap[w.heap.size]? = some (.deferred (some [])) → w.heap.size + 1 < W.heap.size → c.wpIn Fence.wide n P Q { a with defers := { target := .collected w.heap.size, args := #[] } :: a.defers } W) :
    (Code.rangeFunc g ps assign body).wpIn Fence.wide n P Q a w := by
  have eg' : ∀ args w, (callFunc gf args).run P w = .ok (.enter gf args) w := eg
  refine wpIn_rangeFunc fun fn hfn => ?_
  obtain ⟨rc, hrc⟩ : ∃ rc : LoopState → Option Code → Loop, rc = fun st pe => { state := st, pending := pe, fn, tmps := a.tmps, params := ps, assign, body, defers := w.heap.size } := ⟨_, rfl⟩
  obtain ⟨V, hV⟩ : ∃ V, V = (w.alloc (.deferred (some []))).alloc (.loop (rc .ready none)) := ⟨_, rfl⟩
  have hs : V.heap.size = w.heap.size + 1 + 1 := by rw [hV]; simp
  have hL : V.heap[w.heap.size + 1]? = some (.loop (rc .ready none)) := by
    rw [hV]; have := World.alloc_heap_new (w.alloc (.deferred (some []))) (.loop (rc .ready none)); rwa [World.size_alloc] at this
  have hD : V.heap[w.heap.size]? = some (.deferred (some [])) := by
    rw [hV]; exact (Below.heap_alloc _ _ _ (by simp)).trans (World.alloc_heap_new w _)
  have hwV : Below w.heap.size w V := by rw [hV]; exact ((Below.refl _ w).alloc (Nat.le_refl _) _).alloc (by simp) _
  refine ⟨w.heap.size + 1, [{ target := .collected w.heap.size, args := #[] }], V, { target := .fn (.func gf) lb, args := #[.func (.yield (w.heap.size + 1)) #[] #[]] }, V, gf,
    #[.func (.yield (w.heap.size + 1)) #[] #[]] ++ lb, V, ?_, ?_, fun _ _ => trivial, ?_, fun h => by simp [Fence.wide] at h, ?_⟩
  · rw [hV, hrc]; exact run_enterLoop_outer _ _ _ _ _
  · simp only [resolve, hg]
    simp [go_sem]
  · simp [invoke, go_sem, eg']
  · have key := hseq (w.heap.size + 1)
      (fun k W => I k W ∧ W.heap[w.heap.size + 1]? = some (.loop (rc .ready none)) ∧ W.heap[w.heap.size]? = some (.deferred (some [])))
      (fun k W => ∃ c, Ix c k W ∧ W.heap[w.heap.size + 1]? = some (.loop (rc .done (some c))) ∧ W.heap[w.heap.size]? = some (.deferred (some [])))
      V (hb0.trans (hwV.mono hb0.size))
      (fun k A B ⟨h1, h2, h3⟩ hAB => ⟨hI k A B h1 (hAB.mono (by omega)), (hAB.block _ (by omega)).trans h2, (hAB.block _ (by omega)).trans h3⟩)
      (fun k A B ⟨c, h1, h2, h3⟩ hAB => ⟨c, hIx c k A B h1 (hAB.mono (by omega)), (hAB.block _ (by omega)).trans h2, (hAB.block _ (by omega)).trans h3⟩)
      ?_ ⟨hI 0 w V h0 hwV, hL, hD⟩
    · refine key.mono ?_
      rintro e W' ⟨⟨v, rfl⟩, ⟨h1, h2, h3⟩ | ⟨k, ⟨c, h1, h2, h3⟩, hk0, hk1⟩⟩
      · have hlt := lt_of_block h2
        refine ⟨none, _, by have := run_endLoop (P := P) h2 (by rw [hrc]; simp); rw [hrc] at this; exact this, hdone _ (hI _ _ _ h1 (below_putObj _ _ (by omega))) ((World.putObj_heap_other (by omega)).trans h3) (by simpa using hlt)⟩
      · have hlt := lt_of_block h2
        refine ⟨some c, _, by have := run_endLoop (P := P) h2 (by rw [hrc]; simp); rw [hrc] at this; exact this, hstop c k _ hk0 hk1 (hIx _ _ _ _ h1 (below_putObj _ _ (by omega))) ((World.putObj_heap_other (by omega)).trans h3) (by simpa using hlt)⟩
    · rintro k x W hx ⟨h1, h2, h3⟩
      have hlt := lt_of_block h2
      have hy := run_yield (P := P) (args := enc x) h2 (by rw [hrc]; exact hps x)
      have hlo := hb0.size
      refine ⟨fn, _, assign, body, by rw [hrc] at hy; exact hy, roundIn_of_wpIn hfn ?_⟩
      refine hassign _ k x W _ hx (by omega) h1 ?_
      intro a' Wa hR hIa hA
      have l2 := hR.keep h2 (.inr (by omega))
      have l3 := hR.keep h3 (.inr (by omega))
      have hla := lt_of_block l2
      refine ⟨_, run_beginRound l2 (by rw [hrc]), ?_⟩
      have hBs : Below w.heap.size Wa (Wa.putObj (w.heap.size + 1) (.loop { rc .ready none with state := .busy })) := below_putObj _ _ (by omega)
      have m2 : (Wa.putObj (w.heap.size + 1) (.loop { rc .ready none with state := .busy })).heap[w.heap.size + 1]? = some (.loop { rc .ready none with state := .busy }) := World.putObj_heap_same hla
      have m3 : (Wa.putObj (w.heap.size + 1) (.loop { rc .ready none with state := .busy })).heap[w.heap.size]? = some (.deferred (some [])) := (World.putObj_heap_other (by omega)).trans l3
      have hR2 : Rnd w0.heap.size V.heap.size W (Wa.putObj (w.heap.size + 1) (.loop { rc .ready none with state := .busy })) :=
        (hR.wider (Nat.le_refl _) (by omega)).trans (rnd_putObj _ _ (by omega) (by omega))
      refine wpIn_mono (hbody _ k x a' _ hx (by simpa using hla) (hI _ _ _ hIa hBs) (hAx k x a' Wa _ _ (by omega) ⟨_, l2⟩ hA)) ?_
      have fin : ∀ (jump : Option Code) (W3 : World), Rnd 0 w.heap.size (Wa.putObj (w.heap.size + 1) (.loop { rc .ready none with state := .busy })) W3 →
          (Instr.endRound (w.heap.size + 1) jump).run P W3 = .ok (.bool jump.isNone) (W3.putObj (w.heap.size + 1) (.loop (rc (if jump.isNone then .ready else .done) jump))) ∧
          (W3.putObj (w.heap.size + 1) (.loop (rc (if jump.isNone then .ready else .done) jump))).heap[w.heap.size + 1]? = some (.loop (rc (if jump.isNone then .ready else .done) jump)) ∧
          (W3.putObj (w.heap.size + 1) (.loop (rc (if jump.isNone then .ready else .done) jump))).heap[w.heap.size]? = some (.deferred (some [])) ∧
          Below w.heap.size W3 (W3.putObj (w.heap.size + 1) (.loop (rc (if jump.isNone then .ready else .done) jump))) := fun jump W3 h => by
        have n2 := h.keep m2 (.inr (by omega))
        have n3 := h.keep m3 (.inr (by omega))
        have := run_endRound (P := P) jump n2
        rw [hrc] at this ⊢
        exact ⟨this, World.putObj_heap_same (lt_of_block n2), (World.putObj_heap_other (by omega)).trans n3,
          below_putObj _ _ (by omega)⟩
      rintro e a3 W3 hp
      cases e with
      | normal =>
        obtain ⟨hr3, hi3⟩ := hp
        obtain ⟨g1, g2, g3, g5⟩ := fin none W3 (hr3.wider (Nat.zero_le _) (Nat.le_refl _))
        exact ⟨_, _, g1, .inl ⟨rfl, ⟨hI _ _ _ hi3 g5, g2, g3⟩, (hR2.trans (hr3.wider (Nat.le_refl _) (by omega))).trans (rnd_putObj _ _ (by omega) (by omega))⟩⟩
      | ret =>
        obtain ⟨hr3, hi3⟩ := hp
        obtain ⟨g1, g2, g3, g5⟩ := fin (some .ret) W3 hr3
        exact ⟨_, _, g1, .inr ⟨rfl, .ret, hIx _ _ _ _ hi3 g5, g2, g3⟩⟩
      | exit id =>
        obtain ⟨hr3, hi3⟩ := hp
        obtain ⟨g1, g2, g3, g5⟩ := fin (some (.exit id)) W3 hr3
        exact ⟨_, _, g1, .inr ⟨rfl, .exit id, hIx _ _ _ _ hi3 g5, g2, g3⟩⟩
      | goto t =>
        obtain ⟨hr3, hi3⟩ := hp
        obtain ⟨g1, g2, g3, g5⟩ := fin (some (.goto t)) W3 hr3
        exact ⟨_, _, g1, .inr ⟨rfl, .goto t, hIx _ _ _ _ hi3 g5, g2, g3⟩⟩
      | panic ch => exact hp.elim
      | outgrown => exact hp.elim

/-- W' is W but for blocks from n0 on that hold no cells. -/
def CellsKept (n0 : Nat) (W W' : World) : Prop := W'.heap.size = W.heap.size ∧ Below n0 W W' ∧ ∀ (b : Nat) (o : Obj), W.heap[b]? = some o → o.isCells = true → W'.heap[b]? = some o
theorem CellsKept.refl (n0 : Nat) (W : World) : CellsKept n0 W W := ⟨rfl, Below.refl _ _, fun _ _ h _ => h⟩
theorem CellsKept.of_putObj {n0 : Nat} {W W' : World} {l : Nat} {o : Obj} (hl : n0 ≤ l) (h : ∃ r, W.heap[l]? = some (.loop r)) (k : CellsKept n0 (W.putObj l o) W') : CellsKept n0 W W' := by
  obtain ⟨h1, h2, h3⟩ := k
  obtain ⟨r, hr⟩ := h
  refine ⟨by rw [h1, World.putObj_size], (below_putObj W o hl).trans h2, fun b ob hb hc => h3 b ob ?_ hc⟩
  rw [World.putObj_heap_other]
  · exact hb
  · intro e
    subst e
    rw [hr] at hb
    cases hb
    cases hc
theorem CellsKept.blk {n0 : Nat} {W W' : World} (h : CellsKept n0 W W') {b : Nat} {cs : Array Value} {t : TypeId} {f : Nat × Nat} (hb : W.heap[b]? = some (.cells cs t f)) : W'.heap[b]? = some (.cells cs t f) := h.2.2 b _ hb rfl

/-- The same law, the assignment and the body of a round walked in one go. -/
theorem wpIn_rangeQ {n : Nat} {P : Program} {α : Type} {g : Operand} {ps : Array Tmp} {assign body : Code} {Q : Exit → Act → World → Prop} {a : Act} {w : World}
    {gf : Nat} {lb : Array Value} (hg : a.eval g = .func (.func gf) #[] lb) (eg : Enters P gf) {enc : α → Array Value} {w0 : World} {xs : List α}
    (hseq : SeqP (n - 1) P gf lb enc w0 xs) (hb0 : Below w0.heap.size w0 w) (hps : ∀ x, (enc x).size = ps.size)
    (I : Nat → World → Prop) (Ix : Code → Nat → World → Prop) (hI : ∀ k A B, I k A → Below w.heap.size A B → I k B) (hIx : ∀ c k A B, Ix c k A → Below w.heap.size A B → Ix c k B) (h0 : I 0 w)
    (hround : ∀ (l : Nat) (k : Nat) (x : α) (W : World) (K : Act → World → Prop), xs[k]? = some x → w.heap.size ≤ W.heap.size → I k W →
      (∀ a1 W1, Below W.heap.size W W1 → (∀ l' W2, CellsKept w.heap.size W1 W2 → w.heap.size + 1 < W2.heap.size → I k W2 →
        body.wpIn (Fence.wide.inRound l') (n - 1 - 1) P (rndPost w0.heap.size w.heap.size I Ix k W2) a1 W2) → K a1 W1) →
      assign.wpIn (Fence.wide.inRound l) (n - 1 - 1) P (Exit.then K (fun _ _ _ => False)) { tmps := (ps.zip (enc x)).foldl (fun t (p, v) => t.setIfInBounds p v) a.tmps, defers := [] } W)
    (hdone : ∀ (W : World), I xs.length W → W.heap[w.heap.size]? = some (.deferred (some [])) → w.heap.size + 1 < W.heap.size → Q .normal { a with defers := { target := .collected w.heap.size, args := #[] } :: a.defers } W)
    (hstop : ∀ (c : Code) (k : Nat) (W : World), 0 < k → k ≤ xs.length → Ix c k W → W.heap[w.heap.size]? = some (.deferred (some [])) → w.heap.size + 1 < W.heap.size → c.wpIn Fence.wide n P Q { a with defers := { target := .collected w.heap.size, args := #[] } :: a.defers } W) :
    (Code.rangeFunc g ps assign body).wpIn Fence.wide n P Q a w := by
  refine wpIn_rangeP hg eg hseq hb0 hps I Ix hI hIx h0
    (fun k _ a' W => ∀ l' W2, CellsKept w.heap.size W W2 → w.heap.size + 1 < W2.heap.size → I k W2 → body.wpIn (Fence.wide.inRound l') (n - 1 - 1) P (rndPost w0.heap.size w.heap.size I Ix k W2) a' W2)
    (fun k x a' W l o hl hlo h l' W2 hk hz hi => h l' W2 (hk.of_putObj hl hlo) hz hi) ?_ (fun l k x a' W hx hz hi h => h l W (CellsKept.refl _ _) hz hi) hdone hstop
  intro l k x W K hx hz hi hK
  exact hround l k x W K hx hz hi fun a1 W1 h1 h2 => hK a1 W1 (Rnd.of_below h1) (hI _ _ _ hi (h1.mono hz)) h2

theorem alloc2s (w : World) (o0 o1 : Obj) : ((w.alloc o0).alloc o1).heap[w.heap.size]? = some o0 ∧ ((w.alloc o0).alloc o1).heap[w.heap.size + 1]? = some o1 := by
  have h1 := blk_new (w.alloc o0) o1
  rw [World.size_alloc] at h1
  exact ⟨blk_old _ (blk_new _ _), h1⟩
theorem alloc4s (w : World) (o0 o1 o2 o3 : Obj) : ((((w.alloc o0).alloc o1).alloc o2).alloc o3).heap[w.heap.size]? = some o0 ∧ ((((w.alloc o0).alloc o1).alloc o2).alloc o3).heap[w.heap.size + 1]? = some o1 ∧
    ((((w.alloc o0).alloc o1).alloc o2).alloc o3).heap[w.heap.size + 1 + 1]? = some o2 ∧ ((((w.alloc o0).alloc o1).alloc o2).alloc o3).heap[w.heap.size + 1 + 1 + 1]? = some o3 := by
  have h := alloc2s w o0 o1
  have k := alloc2s ((w.alloc o0).alloc o1) o2 o3
  simp only [World.size_alloc] at k
  exact ⟨blk_old _ (blk_old _ h.1), blk_old _ (blk_old _ h.2), k.1, k.2⟩
theorem below_alloc4s (w : World) (o0 o1 o2 o3 : Obj) : Below w.heap.size w ((((w.alloc o0).alloc o1).alloc o2).alloc o3) :=
  ((((Below.refl _ w).alloc (Nat.le_refl _) o0).alloc (by simp) o1).alloc (by simp; omega) o2).alloc (by simp; omega) o3

/-- No operation is a defer statement. -/
def noDefer (ops : List Oper) : Bool := ops.all fun o => match o.op with | .defer _ => false | _ => true
theorem noDefer_spec {ops : List Oper} (h : noDefer ops = true) : ∀ o ∈ ops, ∀ c, o.op ≠ .defer c := by
  intro o ho c e
  have := List.all_eq_true.1 h o ho
  rw [e] at this
  cases this
theorem wpOps_round {n : Nat} {P : Program} {ops : Array Oper} {Q : Exit → Act → World → Prop} {r : Nat} (hn : noDefer ops.toList = true) : ∀ (l : List Nat) (a : Act) (w : World), wpOpsIn Fence.wide n P ops Q l a w → wpOpsIn (Fence.wide.inRound r) n P ops Q l a w := by
  intro l
  induction l with
  | nil => intro a w h; exact h
  | cons i rest ih =>
    intro a w h
    rw [wpOpsIn_cons] at h ⊢
    unfold wpOpIn at h ⊢
    cases ho : ops[i]? with
    | none => rw [ho] at h; exact ih _ _ h
    | some o =>
      rw [ho] at h
      have hd : ∀ c, o.op ≠ .defer c := noDefer_spec hn o (by
        obtain ⟨hi, e⟩ := Array.getElem?_eq_some_iff.1 ho
        rw [← e]; exact Array.getElem_mem_toList hi)
      dsimp only at h ⊢
      split at h
      · rename_i hw
        rw [if_pos hw]
        have h2 := Oper.wpIn_mono (fun a w => ih a w) h
        unfold Oper.wpIn at h2 ⊢
        refine ⟨h2.1, ?_⟩
        rw [Fence.inRound_round, Oper.semAt_some _ _ _ hd]
        exact h2.2
      · rename_i hw
        rw [if_neg hw]
        exact ⟨h.1, ih _ _ h.2⟩
/-- A region that draws its order, within a round: one walk of the lexical order, where all only read. -/
theorem wpIn_region_quiet_round {n : Nat} {P : Program} {r id : Nat} {Q : Exit → Act → World → Prop} {a : Act} {w : World} {l : List Oper} (hm : P.follows .mixedOrders = true) (hB : Region.lexB .any l.toArray = true) (hn : noDefer l = true)
    (h : wpQuietIn Fence.wide n P l.toArray (fun w' => ∃ n, w' = w.drewN n) (fun a' => ∀ w', (∃ n, w' = w.drewN n) → Q .normal a' w') l a) : (Code.region id l.toArray true).wpIn (Fence.wide.inRound r) n P Q a w := by
  refine wpIn_region_draw fun t => wpOps_round (by simpa using hn) _ _ _ ?_
  simp only [Region.schedule, hm, Bool.true_or, if_true]
  refine wpAnyIn_sound l.toArray.size t _ a _ ?_
  simp only [Region.lexB, Bool.and_eq_true] at hB
  refine wpAnyIn_of_quiet (C := fun w' => ∃ n, w' = w.drewN n) (Q := fun a' => ∀ w', (∃ n, w' = w.drewN n) → Q .normal a' w') rfl (fun _ w' hw' h => h w' hw') _ _ _ _ ⟨1, rfl⟩ ?_
  have := wpAnyQIn_lex (F := Fence.wide) (n := n) (C := fun w' => ∃ n, w' = w.drewN n) (md := .any) hB.1 l 0 (Array.replicate l.toArray.size false) a (by simp) (by simpa using hB.2) h
  simpa using this

/-- A function value against nil. -/
theorem run_eql_func_nil {P : Program} (W : World) {t : TypeId} {p r : Array TypeId} {v : Bool} (ht : P.underlying t = some (.func p r v)) (f : Fn) (a b : Array Value) : (binOp .eql t (.func f a b) .nilFunc).run P W = .ok (.bool false) W := by
  have h : ∀ d : Nat, (Op.equalIn (d + 1) t (.func f a b) .nilFunc).run P W = .ok false W := fun d => by
    simp [Op.equalIn, run_underlying ht]
  simp only [binOp]
  simp [Op.equal, Op.maxDepth, h 9999]

/-- A slice that reads as a list, its cells outside of the blocks from lo up to hi. -/
def SlF {α : Type} (lo hi : Nat) (enc : α → List Value) (k : Nat) (w : World) (v : Value) (xs : List α) : Prop :=
  ∃ (a : Option Addr) (cap : Nat), v = .slice a xs.length cap ∧ (xs.length ≤ cap ∧ (a = none → cap = 0)) ∧
    (xs = [] ∨ ∃ b off, a = some ⟨b, off, none⟩ ∧ b < w.heap.size ∧ (b < lo ∨ hi ≤ b) ∧ ∀ i x, xs[i]? = some x → ∀ j u, (enc x)[j]? = some u → w.cell? ⟨b, off + i * k + j, none⟩ = some u)
theorem SlF.sl {α : Type} {lo hi : Nat} {enc : α → List Value} {k : Nat} {w : World} {v : Value} {xs : List α} (h : SlF lo hi enc k w v xs) : Sl enc k w v xs := by
  obtain ⟨a, cap, hv, hc, h⟩ := h
  refine ⟨a, cap, hv, hc, ?_⟩
  rcases h with h | ⟨b, off, ha, hlt, _, hcell⟩
  · exact .inl h
  · exact .inr ⟨b, off, ha, hlt, hcell⟩
theorem SlF.rnd {α : Type} {lo hi : Nat} {enc : α → List Value} {k : Nat} {w w' : World} {v : Value} {xs : List α} (h : SlF lo hi enc k w v xs) (hr : Rnd lo hi w w') : SlF lo hi enc k w' v xs := by
  obtain ⟨a, cap, hv, hc, h⟩ := h
  refine ⟨a, cap, hv, hc, ?_⟩
  rcases h with h | ⟨b, off, ha, hlt, hb, hcell⟩
  · exact .inl h
  · refine .inr ⟨b, off, ha, Nat.lt_of_lt_of_le hlt hr.size, hb, fun i x hx j u hu => ?_⟩
    rw [World.cell?_of_block (w := w) (hr.block b hlt hb)]
    exact hcell i x hx j u hu
theorem Sl.outside {α : Type} {hi : Nat} {enc : α → List Value} {k : Nat} {w : World} {v : Value} {xs : List α} (h : Sl enc k w v xs) : SlF w.heap.size hi enc k w v xs := by
  obtain ⟨a, cap, hv, hc, h⟩ := h
  refine ⟨a, cap, hv, hc, ?_⟩
  rcases h with h | ⟨b, off, ha, hlt, hcell⟩
  · exact .inl h
  · exact .inr ⟨b, off, ha, hlt, .inl hlt, hcell⟩
theorem SlF.of_owns {α : Type} {lo hi : Nat} {enc : α → List Value} {k : Nat} {w : World} {v : Value} {xs : List α} {base : Nat} {e : TypeId}
    (hk : ∀ x, (enc x).length = k) (h : w.ownsRow base e k v xs.length (xs.flatMap enc)) (hb : hi ≤ base) : SlF lo hi enc k w v xs := by
  have hS := Sl.of_owns hk h
  have hv : ∀ g, v.ownBlock = some g → base ≤ g := by
    intro g hg
    rcases h.2 with ⟨rfl, _⟩ | ⟨g', cap, cur, rfl, hb, hh, _⟩
    · simp [Value.ownBlock] at hg
    · simp only [Value.ownBlock, Option.some.injEq] at hg
      subst hg; exact hb
  have hform : ∀ b off n c, v = .slice (some ⟨b, off, none⟩) n c → v.ownBlock = some b := by
    intro b off n c e
    rcases h.2 with ⟨h0, _⟩ | ⟨g', cap, cur, h0, _⟩
    · rw [h0] at e; cases e
    · rw [h0] at e; cases e; rw [h0]; rfl
  obtain ⟨a, cap, hv', hc, h'⟩ := hS
  refine ⟨a, cap, hv', hc, ?_⟩
  rcases h' with h' | ⟨b, off, ha, hlt, hcell⟩
  · exact .inl h'
  · refine .inr ⟨b, off, ha, hlt, .inr ?_, hcell⟩
    subst ha
    have := hv b (hform b off _ _ hv')
    omega

theorem wpIn_scope_w {P : Program} {n : Nat} {Q : Exit → Act → World → Prop} {a : Act} {w : World} {c : Code} (h : c.wpIn Fence.wide n P (Exit.noGoto Q) a w) : (Code.scope c).wpIn Fence.wide n P Q a w :=
  wpIn_wide.2 (wp_scope_straight (wpIn_wide.1 h))
theorem SlF.lower {α : Type} {lo lo' hi : Nat} {enc : α → List Value} {k : Nat} {w : World} {v : Value} {xs : List α} (h : SlF lo hi enc k w v xs) (hh : lo ≤ lo') : SlF lo' hi enc k w v xs := by
  obtain ⟨a, cap, hv, hc, h⟩ := h
  refine ⟨a, cap, hv, hc, ?_⟩
  rcases h with h | ⟨b, off, ha, hlt, hb, hcell⟩
  · exact .inl h
  · exact .inr ⟨b, off, ha, hlt, by omega, hcell⟩
/-- A function's contract from its body, where the body holds ranges over functions. -/
theorem calls_of_marks {P : Program} {f : FuncId} {fn : Func} {c : Code} {args : Array Value} {w : World} {R : Ending → World → Prop} (n : Nat)
    (hf : P.funcs[f]? = some fn) (hb : fn.body = some c) (h : c.wp P (bodyPostM Fence.wide n P fn R) { tmps := args ++ Array.replicate (fn.ntmps - args.size) undef, defers := [] } w) : Calls P f args w R :=
  callsIn_wide.1 (callsIn_of_wp_marks (n := n) hf hb trivial (wpIn_wide.2 h) rfl)

end Go.Proofs.YthnkjgffahkecaaGreat
