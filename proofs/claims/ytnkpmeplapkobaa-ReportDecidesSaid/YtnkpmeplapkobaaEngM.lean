/- A symbolic run: ranges over functions, the caller's side. No program is in sight. -/
import Derived.Test.YtnkpmeplapkobaaEngL
namespace Go.Proofs.Ytnkpmeplapkobaa
open Go.RowKit Go.Shelf

section
variable {X : Fx} {T : TE} {L : LE} {n : Nat} {F : List Fact} {D : DF} {K : KK}

/-- The same function, seen from the world w on. -/
def Rt (X : Fx) (r : Option Nat) (nn : Nat) (w : World) (A : Nat → Prop) (M N : List Nat) : Fx := ⟨X.P, X.tab, X.ok, r, nn, X.k, w, A, M, N⟩
structure Anc (X : Fx) (A : Nat → Prop) (w : World) (M : List Nat) : Prop where
  a : ∀ b, A b → X.A0 b ∨ X.w0.heap.size ≤ b
  m : ∀ b ∈ M, b ∈ X.M ∨ X.w0.heap.size ≤ b
  kp : Kp X.M X.w0 w
/-- One step on: from the root at w1 to the root at w2. -/
theorem Anc.step {A1 A2 : Nat → Prop} {w1 w2 : World} {M1 M2 : List Nat} (h : Anc X A1 w1 M1) (ha : ∀ b, A2 b → A1 b ∨ w1.heap.size ≤ b) (hm : ∀ b ∈ M2, b ∈ M1 ∨ w1.heap.size ≤ b) (hk : Kp M1 w1 w2) : Anc X A2 w2 M2 := by
  refine ⟨fun b hb => ?_, fun b hb => ?_, ?_⟩
  · rcases ha b hb with h1 | h1
    · exact h.a b h1
    · exact .inr (Nat.le_trans h.kp.size h1)
  · rcases hm b hb with h1 | h1
    · exact h.m b h1
    · exact .inr (Nat.le_trans h.kp.size h1)
  · refine ⟨hk.os.trans h.kp.os, hk.tape.trans h.kp.tape, hk.output.trans h.kp.output, Nat.le_trans h.kp.size hk.size, fun b hb hbm => ?_⟩
    rw [hk.keep b (Nat.lt_of_lt_of_le hb h.kp.size) fun h1 => ?_]
    · exact h.kp.keep b hb hbm
    · rcases h.m b h1 with h2 | h2
      · exact hbm h2
      · omega
/-- Blocks of others change. -/
theorem Anc.z {A : Nat → Prop} {w w' : World} {M : List Nat} {Z : Nat → Prop} (h : Anc X A w M) (hg : Grow w w') (hz : ∀ b, Z b → X.w0.heap.size ≤ b) (hw : ∀ b, b < w.heap.size → ¬ Z b → w'.heap[b]? = w.heap[b]?) : Anc X A w' M :=
  ⟨h.a, h.m, ⟨hg.os.trans h.kp.os, hg.tape.trans h.kp.tape, hg.output.trans h.kp.output, Nat.le_trans h.kp.size hg.size, fun b hb hbm => (hw b (Nat.lt_of_lt_of_le hb h.kp.size) fun hz' => by have := hz b hz'; omega).trans (h.kp.keep b hb hbm)⟩⟩
open Classical in
/-- A root anew, blocks of others changed. -/
theorem Rel.root {a : Act} {w w' : World} (h : Rel X T L n F D a w) {n0 : Nat} (hn0 : n0 ≤ n) (Z : Nat → Prop) (hZ : ∀ b, Z b → ¬ X.A0 b ∧ b ∉ X.M ∧ b < X.w0.heap.size) (hg : Grow w w') (hw : ∀ b, b < w.heap.size → ¬ Z b → w'.heap[b]? = w.heap[b]?) (r : Option Nat) (nn : Nat) :
    ∃ (A : Nat → Prop) (M N : List Nat), N.length = n0 ∧ (∀ i b, i < n0 → X.N[i]? = some b → N[i]? = some b) ∧ (∀ b, Z b → ¬ A b ∧ b ∉ M) ∧ (∀ b, A b → X.A0 b ∨ X.w0.heap.size ≤ b) ∧ (∀ b ∈ M, b ∈ X.M ∨ X.w0.heap.size ≤ b) ∧ (∀ b, A b → b < w.heap.size) ∧ (∀ b ∈ M, b < w.heap.size) ∧
      (∀ b, A b → b ∉ M) ∧ (∀ f ∈ F, f.h A w') ∧ Rel (Rt X r nn w' A M N) T L n F D a w' := by
  obtain ⟨hkb, ρ0, A, h0⟩ := h
  have h1 := h0 ρ0 (fun _ _ => rfl)
  have nz : ∀ k e b, alook L k = some e → e.blk ρ0 k = some b → ¬ Z b := by
    intro k e b hk hb hz
    obtain ⟨_, z2, z3⟩ := hZ b hz
    rcases h1.nw k e b hk hb with h | h
    · exact z2 h
    · omega
  have az : ∀ b, A b → ¬ Z b := by
    intro b hb hz
    obtain ⟨z1, _, z3⟩ := hZ b hz
    rcases h1.a1 b hb with h | h
    · exact z1 h
    · omega
  let M := (List.range w.heap.size).filter fun b => decide (∃ k e, alook L k = some e ∧ e.blk ρ0 k = some b)
  have hM : ∀ b, b ∈ M ↔ b < w.heap.size ∧ ∃ k e, alook L k = some e ∧ e.blk ρ0 k = some b := by
    intro b
    simp only [M, List.mem_filter, List.mem_range, decide_eq_true_eq]
  have hF : ∀ f ∈ F, f.h A w' := fun f hf => f.ok (w := w) (fun _ h => h) (fun b hb => hw b (h1.a2 b hb).1 (az b hb)) hg (h1.a3 f hf)
  refine ⟨A, M, (List.range n0).map ρ0, by simp, fun i b hi hb => ?_, fun b hz => ⟨fun hb => az b hb hz, fun hb => ?_⟩, h1.a1, fun b hb => ?_, fun b hb => (h1.a2 b hb).1, fun b hb => ((hM b).1 hb).1, fun b hb hbm => ?_, hF, hkb, ρ0, A, fun ρ hρ => ?_⟩
  · rw [List.getElem?_map, List.getElem?_range hi, Option.map_some, h1.mb i b hb]
  · obtain ⟨_, k, e, hk, hkb'⟩ := (hM b).1 hb
    exact nz k e b hk hkb' hz
  · obtain ⟨_, k, e, hk, hkb'⟩ := (hM b).1 hb
    exact h1.nw k e b hk hkb'
  · obtain ⟨_, k, e, hk, hkb'⟩ := (hM b).1 hbm
    exact (h1.a2 b hb).2 k e hk hkb'
  · have h2 := h0 ρ hρ
    have bk : ∀ k e b, alook L k = some e → e.blk ρ k = some b → e.blk ρ0 k = some b := fun k e b hk hb => by rw [← LC.blk_congr (hρ k (hkb k e hk))]; exact hb
    refine ⟨⟨h2.tm, fun k e hk => LC.keep (w := w) (h2.lo k e hk) fun b hb => hw b (LC.lt (h2.lo k e hk) hb) (nz k e b hk (bk k e b hk hb)), hF⟩, h2.sz, h2.df, Kp.refl _ _, fun k e b hk hb => .inl ((hM b).2 ⟨LC.lt (h2.lo k e hk) hb, k, e, hk, bk k e b hk hb⟩), h2.ds, fun b hb => .inl hb, fun b hb => ⟨Nat.lt_of_lt_of_le (h2.a2 b hb).1 hg.size, (h2.a2 b hb).2⟩, fun i b hi => ?_⟩
    simp only [Rt, List.getElem?_map, Option.map_eq_some_iff] at hi
    obtain ⟨j, hj, rfl⟩ := hi
    obtain ⟨g1, g2⟩ := List.getElem?_eq_some_iff.1 hj
    simp at g1 g2
    subst g2
    exact hρ i (by omega)

def parT : List Nat → List Value → TE → TE
  | p :: ps, v :: vs, T => parT ps vs ((p, .o (.v v)) :: T)
  | _, _, T => T
theorem rel_params0 {w : World} : ∀ (ps : List Nat) (vs : List Value) {T : TE} {a : Act}, (ps.all fun p => Nat.blt p X.k) = true → Rel X T L n F D a w → Rel X (parT ps vs T) L n F D { a with tmps := (ps.zip vs).foldl (fun t (p, v) => t.setIfInBounds p v) a.tmps } w
  | [], vs, T, a, _, h => by cases vs <;> exact h
  | p :: ps, [], T, a, _, h => h
  | p :: ps, v :: vs, T, a, hp, h => by
    simp only [List.all_cons, Bool.and_eq_true] at hp
    have := rel_params0 ps vs (a := a.put (some p) v) hp.2 (h.put (u := .o (.v v)) (d := some p) (T' := (p, .o (.v v)) :: T) (fun _ _ _ => rfl) (by simp only [putS, hp.1, cond_true]))
    exact this
theorem Rel.noD {a : Act} {w : World} (h : Rel X T L n F D a w) : Rel X T L n F (fun _ => []) { tmps := a.tmps, defers := [] } w := by
  obtain ⟨hkb, ρ0, A, h0⟩ := h
  refine ⟨hkb, ρ0, A, fun ρ hρ => ?_⟩
  have h1 := h0 ρ hρ
  exact ⟨⟨h1.tm, h1.lo, h1.a3⟩, h1.sz, rfl, h1.kp, h1.nw, h1.ds, h1.a1, h1.a2, h1.mb⟩
theorem rel_params {a : Act} {w : World} {ps : Array Tmp} {vs : List Value} (hp : (ps.toList.all fun p => Nat.blt p X.k) = true) (h : Rel X T L n F D a w) : Rel X (parT ps.toList vs T) L n F (fun _ => []) { tmps := (ps.zip vs.toArray).foldl (fun t (p, v) => t.setIfInBounds p v) a.tmps, defers := [] } w := by
  have := rel_params0 ps.toList vs hp h.noD
  rw [← Array.foldl_toList, Array.toList_zip]
  exact this
/-- The caller's own temporaries are as they were. -/
theorem Rel.back {X1 : Fx} {L1 : LE} {F1 : List Fact} {a a2 : Act} {w1 w : World} {n' : Nat} {L' : LE} {F' : List Fact} {T2 : TE} {D2 : DF} (hold : Rel X1 T L1 n F1 D a w1) (hN1 : X1.N.length = n) (hk : X1.k = X.k) (h : Rel X T2 L' n' F' D2 a2 w) (hN : ∀ i b, i < n → X1.N[i]? = some b → X.N[i]? = some b) : Rel X T L' n' F' D a w := by
  obtain ⟨hkb, ρ0, A, h0⟩ := h
  obtain ⟨_, ρ1, A1, h1⟩ := hold
  refine ⟨hkb, ρ0, A, fun ρ hρ => ?_⟩
  have h2 := h0 ρ hρ
  have e : ∀ j, j < n → ρ j = ρ1 j := fun j hj => by
    have g : X1.N[j]? = some (X1.N[j]'(by omega)) := List.getElem?_eq_getElem (by omega)
    rw [h2.mb j _ (hN j _ hj g), (h1 ρ1 (fun _ _ => rfl)).mb j _ g]
  have h3 := h1 ρ e
  exact ⟨⟨h3.tm, h2.lo, h2.a3⟩, by rw [h3.sz, hk], h3.df, h2.kp, h2.nw, h2.ds, h2.a1, h2.a2, h2.mb⟩

/-- The mark that a range over a function leaves. -/
def markD (B : Nat) : Deferred := { target := .collected B, args := #[] }
def markL : LC := .obj (.deferred (some []))
/-- Back to the function's own root, the mark and all. -/
theorem Rel.out {r : Option Nat} {nn : Nat} {A : Nat → Prop} {M N : List Nat} {a : Act} {w : World} {B : Nat} (h : Rel (Rt X r nn w A M N) T L n F D a w) (hA : Anc X A w M) (hN : ∀ (i b : Nat), X.N[i]? = some b → N[i]? = some b)
    (hB : w.heap[B]? = some (.deferred (some []))) (hB1 : ¬ A B ∧ B ∉ M) (hB2 : X.w0.heap.size ≤ B) : Rel X T ((n, markL) :: L) (n + 1) F (fun ρ => markD (ρ n) :: D ρ) { a with defers := markD B :: a.defers } w := by
  obtain ⟨hkb, ρ0, A', h0⟩ := h
  have hlt := lt_of_block hB
  refine ⟨fun k e hk => ?_, fun j => if j = n then B else ρ0 j, A', fun ρ hρ => ?_⟩
  · rw [alook_cons] at hk
    split at hk
    · omega
    · have := hkb k e hk; omega
  have hn : ρ n = B := by simpa using hρ n (by omega)
  have hl : ∀ j, j < n → ρ j = ρ0 j := fun j hj => by simpa [Nat.ne_of_lt hj] using hρ j (by omega)
  have h1 := h0 ρ hl
  have nB : ∀ k e, alook L k = some e → e.blk ρ k ≠ some B := by
    intro k e hk hb
    rcases h1.nw k e B hk hb with h | h
    · exact hB1.2 h
    · have : w.heap.size ≤ B := h
      omega
  have aB : ¬ A' B := by
    intro hb
    rcases h1.a1 B hb with h | h
    · exact hB1.1 h
    · have : w.heap.size ≤ B := h
      omega
  have bl : ∀ k e b, alook ((n, markL) :: L) k = some e → e.blk ρ k = some b → (k = n ∧ b = B) ∨ (k ≠ n ∧ alook L k = some e) := by
    intro k e b hk hb
    rw [alook_cons] at hk
    split at hk
    · rename_i ek
      cases hk
      subst ek
      simp only [markL, LC.blk, Option.some.injEq, hn] at hb
      exact .inl ⟨rfl, hb.symm⟩
    · rename_i ek
      exact .inr ⟨ek, hk⟩
  have own : ∀ k e b, alook L k = some e → e.blk ρ k = some b → b ∈ X.M ∨ X.w0.heap.size ≤ b := by
    intro k e b hk hb
    rcases h1.nw k e b hk hb with h | h
    · exact hA.m b h
    · exact .inr (Nat.le_trans hA.kp.size h)
  refine ⟨⟨h1.tm, fun k e hk => ?_, h1.a3⟩, h1.sz, by show markD B :: a.defers = _; rw [hn, h1.df], hA.kp, fun k e b hk hb => ?_, fun k1 k2 f1 f2 b hk1 hk2 hb1 hb2 => ?_, fun b hb => ?_, fun b hb => ⟨(h1.a2 b hb).1, fun k e hk hbk => ?_⟩, fun i b hi => ?_⟩
  · rw [alook_cons] at hk
    split at hk
    · rename_i ek
      cases hk
      subst ek
      show w.heap[ρ k]? = _
      rw [hn]; exact hB
    · exact h1.lo k e hk
  · rcases bl k e b hk hb with ⟨_, rfl⟩ | ⟨_, h2⟩
    · exact .inr hB2
    · exact own k e b h2 hb
  · rcases bl k1 f1 b hk1 hb1 with ⟨rfl, rfl⟩ | ⟨_, h2⟩ <;> rcases bl k2 f2 _ hk2 hb2 with ⟨rfl, h5⟩ | ⟨_, h3⟩
    · rfl
    · exact absurd hb2 (nB k2 f2 h3)
    · subst h5; exact absurd hb1 (nB k1 f1 h2)
    · exact h1.ds k1 k2 f1 f2 b h2 h3 hb1 hb2
  · rcases h1.a1 b hb with h | h
    · exact hA.a b h
    · exact .inr (Nat.le_trans hA.kp.size h)
  · rcases bl k e b hk hbk with ⟨_, rfl⟩ | ⟨_, h2⟩
    · exact aB hb
    · exact (h1.a2 b hb).2 k e h2 hbk
  · exact h1.mb i b (hN i b hi)
end

end Go.Proofs.Ytnkpmeplapkobaa
