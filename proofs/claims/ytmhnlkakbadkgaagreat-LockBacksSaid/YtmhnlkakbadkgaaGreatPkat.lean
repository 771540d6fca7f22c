/- Part 20 of the proof of LockBacks: contracts of functions that the law reaches, or the rules by which they are walked. No condition. -/
import Derived.Test.YtmhnlkakbadkgaaGreatPkas
namespace Go.Proofs.YtmhnlkakbadkgaaGreat.Ck
open Go Go.RowKit Go.Shelf
set_option maxRecDepth 100000
abbrev Hf := Nat → Option Bk
structure HSf (al : Nat → Prop) (G0 : Gh) (g : Hf) (n : Nat) (w : World) : Prop where
  lt : ∀ k, al k → k < n
  pr : ∀ k b, g k = some b → al k
  bk : ∀ G, Ag al G0 G → ∀ k b, g k = some b → live b = true → BR G k w b
  inj : ∀ G, Ag al G0 G → ∀ k k' b b', g k = some b → g k' = some b' → live b = true → live b' = true → (G k).b = (G k').b → k = k'
def Imf (g : Hf) (G : Gh) (b : Nat) : Prop := ∃ k x, g k = some x ∧ live x = true ∧ (G k).b = b
structure TF (al : Nat → Prop) (G : Gh) (g : Hf) (n : Nat) (w : World) (al' : Nat → Prop) (G' : Gh) (g' : Hf) (n' : Nat) (w' : World) : Prop where
  le : n ≤ n'
  up : ∀ k, al k → al' k ∧ G' k = G k
  back : ∀ k, k < n → al' k → al k
  os : w'.os = w.os
  tape : w'.tape = w.tape
  output : w'.output = w.output
  size : w.heap.size ≤ w'.heap.size
  keep : ∀ b, b < w.heap.size → ¬ Imf g G b → w'.heap[b]? = w.heap[b]?
  own : ∀ b, b < w.heap.size → Imf g' G' b → Imf g G b
section
variable {al al' : Nat → Prop} {G0 G1 : Gh} {H H' : CH} {g g' : Hf} {n n' : Nat} {w w' : World}
theorem HS.f (h : HS al G0 H w) : HSf al G0 H.h.get H.n w := ⟨h.lt, h.pr, fun G hG => (h.hr G hG).bk, fun G hG => (h.hr G hG).inj⟩
theorem HSf.s (h : HSf al G0 g n w) (hg : ∀ k, H.h.get k = g k) (hn : H.n = n) : HS al G0 H w :=
  ⟨fun k hk => hn ▸ h.lt k hk, fun k b hb => h.pr k b ((hg k).symm.trans hb), fun G hG => ⟨fun k b hb => h.bk G hG k b ((hg k).symm.trans hb), fun k k' b b' h1 h2 => h.inj G hG k k' b b' ((hg k).symm.trans h1) ((hg k').symm.trans h2)⟩⟩
theorem To.f (h : To al G0 H w al' G1 H' w') : TF al G0 H.h.get H.n w al' G1 H'.h.get H'.n w' := ⟨h.n, h.up, h.back, h.os, h.tape, h.output, h.size, h.keep, h.own⟩
theorem TF.t (h : TF al G0 g n w al' G1 g' n' w') (hg : ∀ k, H.h.get k = g k) (hn : H.n = n) (hg' : ∀ k, H'.h.get k = g' k) (hn' : H'.n = n') : To al G0 H w al' G1 H' w' := by
  have e : H.h.get = g := funext hg
  have e' : H'.h.get = g' := funext hg'
  subst e e' hn hn'
  exact ⟨h.le, h.up, h.back, h.os, h.tape, h.output, h.size, h.keep, h.own⟩
theorem HSf.sub (h : HSf al G0 g n w) (hg : ∀ k b, g' k = some b → g k = some b) (hn : ∀ k, al k → k < n') : HSf al G0 g' n' w :=
  ⟨hn, fun k b hb => h.pr k b (hg k b hb), fun G hG k b hb => h.bk G hG k b (hg k b hb), fun G hG k k' b b' h1 h2 => h.inj G hG k k' b b' (hg k b h1) (hg k' b' h2)⟩
theorem HSf.keep (h : HSf al G0 g n w) (hG1 : ∀ k, al k → G1 k = G0 k) (hw : ∀ b, b < w.heap.size → w'.heap[b]? = w.heap[b]?) : HSf al G1 g n w' := by
  have hA : ∀ G, Ag al G1 G → Ag al G0 G := fun G hG k hk => (hG k hk).trans (hG1 k hk)
  exact ⟨h.lt, h.pr, fun G hG k b hb hl => (h.bk G (hA G hG) k b hb hl).keep (hw _ ((h.bk G (hA G hG) k b hb hl).lt hl)), fun G hG => h.inj G (hA G hG)⟩
end
section
variable {alI al : Nat → Prop} {Gi G0 G1 : Gh} {gI g g' : Hf} {nI n : Nat} {wI w w' : World}
theorem TF.kept (h : TF alI Gi gI nI wI al G0 g n w) (hs : HSf al G0 g n w) (hG1 : ∀ k, al k → G1 k = G0 k) (hw : ∀ b, b < w.heap.size → w'.heap[b]? = w.heap[b]?) (hsz : w.heap.size ≤ w'.heap.size) (h1 : w'.os = w.os) (h2 : w'.tape = w.tape) (h3 : w'.output = w.output) : TF alI Gi gI nI wI al G1 g n w' where
  le := h.le
  up k hk := ⟨(h.up k hk).1, (hG1 k (h.up k hk).1).trans (h.up k hk).2⟩
  back := h.back
  os := h1.trans h.os
  tape := h2.trans h.tape
  output := h3.trans h.output
  size := Nat.le_trans h.size hsz
  keep b hb hi := (hw b (Nat.lt_of_lt_of_le hb h.size)).trans (h.keep b hb hi)
  own b hb hi := by
    obtain ⟨k, x, hk, hx, e⟩ := hi
    exact h.own b hb ⟨k, x, hk, hx, by rw [← hG1 k (hs.pr k x hk)]; exact e⟩
theorem HSf.alloc {k0 : Nat} {g1 : GI} {b : Bk} (hs : HSf al G0 g n w) (hk : ¬ al k0) (hn : k0 < n) (hg : ∀ k, g' k = if k = k0 then some b else g k) (hG1 : ∀ k, G1 k = if k = k0 then g1 else G0 k)
    (hw : live b = true → ∀ G, Ag al G0 G → G k0 = g1 → BR G k0 w' b) (hold : ∀ j, j < w.heap.size → w'.heap[j]? = w.heap[j]?) (hnew : live b = true → w.heap.size ≤ g1.b) : HSf (fun k => al k ∨ k = k0) G1 g' n w' := by
  have hne : ∀ k, al k → k ≠ k0 := fun k h e => hk (e ▸ h)
  have hA : ∀ G, Ag (fun k => al k ∨ k = k0) G1 G → Ag al G0 G := fun G hG k h => by
    rw [hG k (.inl h), hG1, if_neg (hne k h)]
  have hk0 : ∀ G, Ag (fun k => al k ∨ k = k0) G1 G → G k0 = g1 := fun G hG => by
    rw [hG k0 (.inr rfl), hG1, if_pos rfl]
  have old : ∀ G, Ag al G0 G → ∀ j c, g j = some c → live c = true → (G j).b < w.heap.size := fun G hG j c hj hc => (hs.bk G hG j c hj hc).lt hc
  refine ⟨fun k h => ?_, fun j c hj => ?_, fun G hG j c hj hc => ?_, fun G hG i j c c' hi hj hc hc' e => ?_⟩
  · rcases h with h | rfl
    · exact hs.lt k h
    · exact hn
  · rw [hg] at hj
    split at hj
    · exact .inr (by assumption)
    · exact .inl (hs.pr j c hj)
  · rw [hg] at hj
    split at hj
    · rename_i e
      subst e
      cases hj
      exact hw hc G (hA G hG) (hk0 G hG)
    · exact (hs.bk G (hA G hG) j c hj hc).keep (hold _ (old G (hA G hG) j c hj hc))
  · rw [hg] at hi hj
    split at hi <;> split at hj
    · rename_i e1 e2; rw [e1, e2]
    · rename_i e1 e2; subst e1; cases hi; have := old G (hA G hG) j c' hj hc'; have := hnew hc; rw [hk0 G hG] at e; omega
    · rename_i e1 e2; subst e2; cases hj; have := old G (hA G hG) i c hi hc; have := hnew hc'; rw [hk0 G hG] at e; omega
    · exact hs.inj G (hA G hG) i j c c' hi hj hc hc' e
theorem TF.alloc {k0 : Nat} {g1 : GI} {b : Bk} (ht : TF alI Gi gI nI wI al G0 g n w) (hs : HSf al G0 g n w) (hk : ¬ al k0) (hk0 : nI ≤ k0) (hg : ∀ k, g' k = if k = k0 then some b else g k) (hG1 : ∀ k, G1 k = if k = k0 then g1 else G0 k)
    (hold : ∀ j, j < w.heap.size → w'.heap[j]? = w.heap[j]?) (hnew : live b = true → w.heap.size ≤ g1.b) (hsz : w.heap.size ≤ w'.heap.size) (h1 : w'.os = w.os) (h2 : w'.tape = w.tape) (h3 : w'.output = w.output) : TF alI Gi gI nI wI (fun k => al k ∨ k = k0) G1 g' n w' := by
  have hne : ∀ k, al k → k ≠ k0 := fun k h e => hk (e ▸ h)
  have k1 := ht.kept (G1 := G1) hs (fun k hk => by rw [hG1, if_neg (hne k hk)]) hold hsz h1 h2 h3
  refine ⟨k1.le, fun k h => ⟨.inl (k1.up k h).1, (k1.up k h).2⟩, fun k h h' => ?_, k1.os, k1.tape, k1.output, k1.size, k1.keep, fun j hj hi => ?_⟩
  · rcases h' with h' | rfl
    · exact k1.back k h h'
    · omega
  · obtain ⟨k, x, hk', hx, e⟩ := hi
    rw [hg] at hk'
    split at hk'
    · rename_i e0
      subst e0
      cases hk'
      rw [hG1, if_pos rfl] at e
      have := ht.size
      have := hnew hx
      omega
    · exact k1.own j hj ⟨k, x, hk', hx, e⟩
end
theorem HSf.frame {alI al0 al1 alA alB : Nat → Prop} {Gi G0 G1 GB : Gh} {gI g0 gA g1 gB : Hf} {nI n n1 : Nat} {wI w w' : World}
    (hA : HSf alA G0 gA n w) (htA : TF alI Gi gI nI wI alA G0 gA n w) (h1 : HSf al1 G1 g1 n1 w') (ht : TF al0 G0 g0 n w al1 G1 g1 n1 w')
    (hal : ∀ k, al0 k → alA k) (hg0 : ∀ k b, g0 k = some b → al0 k) (hg : ∀ k, al0 k → gA k = g0 k)
    (hB : ∀ k, alB k ↔ al1 k ∨ alA k) (hGB1 : ∀ k, al1 k → GB k = G1 k) (hGB2 : ∀ k, ¬ al1 k → GB k = G0 k) (hgB1 : ∀ k, al1 k → gB k = g1 k) (hgB2 : ∀ k, ¬ al1 k → gB k = gA k) :
    HSf alB GB gB n1 w' ∧ TF alI Gi gI nI wI alB GB gB n1 w' ∧ ∀ k, alA k → alB k ∧ GB k = G0 k := by
  have up : ∀ k, al0 k → al1 k := fun k h => (ht.up k h).1
  have bck : ∀ k, alA k → al1 k → al0 k := fun k h h' => ht.back k (hA.lt k h) h'
  have eA : ∀ k, alA k → GB k = G0 k := fun k h => by
    by_cases h' : al1 k
    · rw [hGB1 k h', (ht.up k (bck k h h')).2]
    · exact hGB2 k h'
  have a1 : ∀ G, Ag alB GB G → Ag al1 G1 G := fun G hG k h => (hG k ((hB k).2 (.inl h))).trans (hGB1 k h)
  have aA : ∀ G, Ag alB GB G → Ag alA G0 G := fun G hG k h => (hG k ((hB k).2 (.inr h))).trans (eA k h)
  have imA : ∀ b, Imf g0 G0 b → Imf gA G0 b := fun b ⟨k, x, hk, hx, e⟩ => ⟨k, x, (hg k (hg0 k x hk)).trans hk, hx, e⟩
  -- what lies beside is no image
  have side : ∀ G, Ag alA G0 G → ∀ k b, ¬ al1 k → gA k = some b → live b = true → ¬ Imf g0 G0 (G k).b := fun G hG k b hk hb hl ⟨k', x, hk', hx, e⟩ => by
    have hal' := hg0 k' x hk'
    have e' : (G k').b = (G k).b := by rw [hG k' (hal k' hal')]; exact e
    have := hA.inj G hG k' k x b ((hg k' hal').trans hk') hb hx hl e'
    subst this
    exact hk (up k' hal')
  have lts : ∀ G, Ag alA G0 G → ∀ k b, gA k = some b → live b = true → (G k).b < w.heap.size := fun G hG k b hb hl => (hA.bk G hG k b hb hl).lt hl
  refine ⟨⟨fun k hk => ?_, fun k b hb => ?_, fun G hG k b hb hl => ?_, fun G hG k k' b b' hb hb' hl hl' e => ?_⟩, ⟨Nat.le_trans htA.le ht.le, fun k hk => ?_, fun k hk hk' => ?_, ht.os.trans htA.os, ht.tape.trans htA.tape, ht.output.trans htA.output, Nat.le_trans htA.size ht.size, fun b hb hi => ?_, fun b hb hi => ?_⟩, fun k hk => ⟨(hB k).2 (.inr hk), eA k hk⟩⟩
  · rcases (hB k).1 hk with h | h
    · exact h1.lt k h
    · exact Nat.lt_of_lt_of_le (hA.lt k h) ht.le
  · by_cases h : al1 k
    · exact (hB k).2 (.inl h)
    · rw [hgB2 k h] at hb
      exact (hB k).2 (.inr (hA.pr k b hb))
  · by_cases h : al1 k
    · rw [hgB1 k h] at hb
      exact h1.bk G (a1 G hG) k b hb hl
    · rw [hgB2 k h] at hb
      exact (hA.bk G (aA G hG) k b hb hl).keep (ht.keep _ (lts G (aA G hG) k b hb hl) (side G (aA G hG) k b h hb hl))
  · have mix : ∀ k k' b b', al1 k → ¬ al1 k' → gB k = some b → gB k' = some b' → live b = true → live b' = true → (G k).b = (G k').b → False := fun k k' b b' h h' hb hb' hl hl' e => by
      rw [hgB1 k h] at hb
      rw [hgB2 k' h'] at hb'
      have hlt := lts G (aA G hG) k' b' hb' hl'
      refine side G (aA G hG) k' b' h' hb' hl' (ht.own _ hlt ⟨k, b, hb, hl, ?_⟩)
      rw [← a1 G hG k h]; exact e
    by_cases h : al1 k
    · by_cases h' : al1 k'
      · rw [hgB1 k h] at hb
        rw [hgB1 k' h'] at hb'
        exact h1.inj G (a1 G hG) k k' b b' hb hb' hl hl' e
      · exact (mix k k' b b' h h' hb hb' hl hl' e).elim
    · by_cases h' : al1 k'
      · exact (mix k' k b' b h' h hb' hb hl' hl e.symm).elim
      · rw [hgB2 k h] at hb
        rw [hgB2 k' h'] at hb'
        exact hA.inj G (aA G hG) k k' b b' hb hb' hl hl' e
  · have := (htA.up k hk).1
    exact ⟨(hB k).2 (.inr this), (eA k this).trans (htA.up k hk).2⟩
  · rcases (hB k).1 hk' with h | h
    · exact htA.back k hk (hal k (ht.back k (Nat.lt_of_lt_of_le hk htA.le) h))
    · exact htA.back k hk h
  · exact (ht.keep b (Nat.lt_of_lt_of_le hb htA.size) fun hc => hi (htA.own b hb (imA b hc))).trans (htA.keep b hb hi)
  · obtain ⟨k, x, hk, hx, e⟩ := hi
    by_cases h : al1 k
    · rw [hgB1 k h] at hk
      rw [hGB1 k h] at e
      exact htA.own b hb (imA b (ht.own b (Nat.lt_of_lt_of_le hb htA.size) ⟨k, x, hk, hx, e⟩))
    · rw [hgB2 k h] at hk
      rw [hGB2 k h] at e
      exact htA.own b hb ⟨k, x, hk, hx, e⟩
end Go.Proofs.YtmhnlkakbadkgaaGreat.Ck
namespace Go.Proofs.YtmhnlkakbadkgaaGreat.Ck
open Go Go.RowKit Go.Shelf
set_option maxRecDepth 100000
def NewS (P : Program) (T : Tr Value) (m : Nat) (o : Oper) (k : Nat) (b : Bk) (v : Value) : Prop := ∃ (u : Nat → Value) (ob : Gh → Obj),
  (∀ (G : Gh) (a : Act) (w : World), TR G T m a.tmps → (execOp a.eval o).run P w = .ok (.value (u w.heap.size)) (w.alloc (ob G))) ∧ (∀ (G : Gh) s, G k = ⟨s, 0, 0, 0, 0⟩ → u s = den G v) ∧
  ∀ (G : Gh) (w : World), G k = ⟨w.heap.size, 0, 0, 0, 0⟩ → BR G k (w.alloc (ob G)) b
def EffS (P : Program) (T : Tr Value) (m : Nat) (o : Oper) (H : CH) (v : Value) (H' : CH) : Prop :=
  ∀ (r : Option Nat) (nn : Nat) al G0 (a a0 : Act) (w : World) (K' : Act → World → Prop) (Q : Exit → Act → World → Prop), (∀ x ∈ o.op.operands, a.eval x = a0.eval x) → TS al G0 T m a0 → HS al G0 H w →
    (∀ al' G' w' u, To al G0 H w al' G' H' w' → HS al' G' H' w' → (∀ G, Ag al' G' G → u = den G v) → K' (a.put o.dst u) w') → o.wpIn (feR r) nn P a w K' Q
structure Cl (ops : Array Oper) (an : Nat) : Prop where
  trans : ∀ i k l, i < ops.size → isAnc an k i = true → isAnc an l k = true → isAnc an l i = true
  snd : ∀ (i : Nat) (o : Oper) (k : Nat), ops[i]? = some o → isAnc an k i = true → ∃ e ∈ o.after, Region.binds .any e = true ∧ (e.on = k ∨ isAnc an k e.on = true)
  slot : ∀ (i k : Nat) (oi ok : Oper) (d : Nat), ops[i]? = some oi → ops[k]? = some ok → i ≠ k → oi.dst = some d → ok.dst ≠ some d ∧ (isAnc an i k = true ∨ isAnc an k i = true ∨ Operand.tmp d ∉ ok.op.operands)
  grd : ∀ (i : Nat) (o : Oper) (j : Nat) (b : Bool), ops[i]? = some o → o.guard = some (j, b) → isAnc an j i = true
  ds : ∀ (i : Nat) (o : Oper), ops[i]? = some o → noDS o = true
section
variable (P : Program) (ops : Array Oper) (an n0 : Nat) (T0 : Tr Value) (m0 : Nat) (val : Nat → Value) (blk : Nat → Option Bk) (rk : Nat → Nat) (hc : Nat → CH)
def isE (i : Nat) : Prop := ∃ o : Oper, ops[i]? = some o ∧ isEff o = true
def bas (j i : Nat) : Prop := ∃ e, isE ops e ∧ rk e < j ∧ (i = e ∨ isAnc an i e = true)
def PreH (i : Nat) (Hp : CH) : Prop := Hp.n = (hc (rk i)).n ∧ (∀ k b, isAnc an k i = true → ¬ bas ops an rk (rk i) k → blk k = some b → Hp.h.get (n0 + k) = some b) ∧
  ∀ k, (∀ i', k = n0 + i' → isAnc an i' i = true → ¬ bas ops an rk (rk i) i' → blk i' = none) → Hp.h.get k = (hc (rk i)).h.get k
def Rst (T : Tr Value) (i : Nat) (o : Oper) : Prop := (∀ t, Operand.tmp t ∉ o.op.operands → T.get t = none) ∧ ∀ t, Operand.tmp t ∈ o.op.operands →
  (∀ (k : Nat) (ok : Oper), ops[k]? = some ok → ok.dst = some t → isAnc an k i = true → (T.get t).getD undef = val k) ∧ ((∀ (k : Nat) (ok : Oper), ops[k]? = some ok → ok.dst = some t → isAnc an k i = false) → (T.get t).getD undef = (T0.get t).getD undef)
def isTrue (v : Value) (b : Bool) : Bool := match v with
  | .bool c => c == b
  | _ => false
def Wn (o : Oper) (b : Bool) : Prop := match o.guard with
  | none => b = true
  | some (j, c) => ∃ (oj : Oper) (d : Nat), ops[j]? = some oj ∧ oj.dst = some d ∧ b = isTrue (val j) c
def KdS (i : Nat) (o : Oper) (T : Tr Value) : Prop := match kdOf o.op with
  | .q => blk i = none ∧ OpP P T m0 o ⟨.lf, 0⟩ (val i)
  | .l => (blk i = none ∧ ∀ j, j ≤ rk i → (∀ e, isE ops e → isAnc an e i = true → rk e < j) → OpP P T m0 o (hc j) (val i)) ∨
    (blk i = some .d ∧ ∀ j, j ≤ rk i → (∀ e, isE ops e → isAnc an e i = true → rk e < j) → OpD P T m0 o ⟨(hc j).h, n0 + i⟩ (val i))
  | .n => ∃ b, blk i = some b ∧ NewS P T m0 o (n0 + i) b (val i)
  | .e => blk i = none ∧ ∃ Hp, PreH ops an n0 blk rk hc i Hp ∧ EffS P T m0 o Hp (val i) (hc (rk i + 1))
def One (i : Nat) (o : Oper) : Prop := (∀ d, o.dst = some d → d < m0) ∧ ∃ b, Wn ops val o b ∧ (b = false → val i = undef ∧ blk i = none ∧ (isEff o = true → PreH ops an n0 blk rk hc i (hc (rk i + 1)))) ∧
  (b = true → ∃ T, Rst ops an T0 val T i o ∧ KdS P ops an n0 m0 val blk rk hc i o T)
structure Plan (M : Nat) (T1 : Tr Value) (H1 : CH) : Prop where
  one : ∀ (i : Nat) (o : Oper), ops[i]? = some o → One P ops an n0 T0 m0 val blk rk hc i o
  ord : ∀ (i : Nat) (o : Oper) (e : Nat), ops[i]? = some o → isE ops e → i ≠ e → rk i ≤ rk e → isAnc an i e = true
  top : ∀ e, isE ops e → rk e < M
  lev : ∀ j, j < M → ∃ e, isE ops e ∧ rk e = j
  slot1 : ∀ (i : Nat) (o : Oper) (t : Nat), ops[i]? = some o → o.dst = some t → (T1.get t).getD undef = val i
  slot2 : ∀ t, (∀ (i : Nat) (o : Oper), ops[i]? = some o → o.dst ≠ some t) → (T1.get t).getD undef = (T0.get t).getD undef
  n1 : H1.n = (hc M).n
  h1 : ∀ (i : Nat) (b : Bk) (o : Oper), ops[i]? = some o → ¬ bas ops an rk M i → blk i = some b → H1.h.get (n0 + i) = some b
  h2 : ∀ k, (∀ (i : Nat) (o : Oper), k = n0 + i → ops[i]? = some o → ¬ bas ops an rk M i → blk i = none) → H1.h.get k = (hc M).h.get k
def xD (D : Nat → Prop) (j k : Nat) : Prop := n0 ≤ k ∧ D (k - n0) ∧ ¬ bas ops an rk j (k - n0) ∧ (blk (k - n0)).isSome = true
def alD (al D : Nat → Prop) (j k : Nat) : Prop := al k ∨ xD ops an n0 blk rk D j k
open Classical in
noncomputable def gD (D : Nat → Prop) (j k : Nat) : Option Bk := if xD ops an n0 blk rk D j k then blk (k - n0) else (hc j).h.get k
structure Inv (M : Nat) (alI : Nat → Prop) (Gi : Gh) (gI : Hf) (nI : Nat) (wI : World) (a0 : Act) (done : Nat → Bool) (j : Nat) (al : Nat → Prop) (G0 : Gh) (a : Act) (w : World) : Prop where
  ex : ∀ i, done i = true → ∃ o : Oper, ops[i]? = some o
  cl : ∀ i k, done i = true → isAnc an k i = true → done k = true
  eff : ∀ e, isE ops e → (done e = true ↔ rk e < j)
  jM : j ≤ M
  nn : n0 + ops.size ≤ (hc j).n
  fr : ∀ i, i < ops.size → ¬ bas ops an rk j i → ¬ al (n0 + i)
  sz : a.tmps.size = m0
  df : a.defers = a0.defers
  old : ∀ t, (∀ (k : Nat) (o : Oper), done k = true → ops[k]? = some o → o.dst ≠ some t) → a.tmps.getD t undef = a0.tmps.getD t undef
  st : ∀ D : Nat → Prop, (∀ i, D i → done i = true) → (∀ i, bas ops an rk j i → D i) → (∀ i k, D i → isAnc an k i = true → D k) →
    HSf (alD ops an n0 blk rk al D j) G0 (gD ops an n0 blk rk hc D j) (hc j).n w ∧ TF alI Gi gI nI wI (alD ops an n0 blk rk al D j) G0 (gD ops an n0 blk rk hc D j) (hc j).n w ∧
    ∀ (i : Nat) (o : Oper) (d : Nat), D i → ops[i]? = some o → o.dst = some d → ∀ G, Ag (alD ops an n0 blk rk al D j) G0 G → a.tmps.getD d undef = den G (val i)
end
open Classical in
noncomputable def onlyA (m0 : Nat) (o : Oper) (a : Act) : Act := { tmps := Array.ofFn (n := m0) fun t => if Operand.tmp t.1 ∈ o.op.operands then a.tmps.getD t.1 undef else undef, defers := [] }
theorem onlyA_get {m0 : Nat} {o : Oper} {a : Act} (hs : a.tmps.size = m0) (t : Nat) : (Operand.tmp t ∈ o.op.operands → (onlyA m0 o a).tmps.getD t undef = a.tmps.getD t undef) ∧ (Operand.tmp t ∉ o.op.operands → (onlyA m0 o a).tmps.getD t undef = undef) := by
  unfold onlyA
  rw [Array.getD_eq_getD_getElem?, Array.getElem?_ofFn]
  constructor
  · intro h
    split
    · simp [*]
    · rename_i hlt
      rw [Array.getD_eq_getD_getElem?, Array.getElem?_eq_none (by omega)]
  · intro h
    split
    · simp [*]
    · rfl
theorem onlyA_eval {m0 : Nat} {o : Oper} {a : Act} (hs : a.tmps.size = m0) : ∀ x ∈ o.op.operands, a.eval x = (onlyA m0 o a).eval x := fun x hx => by
  cases x with
  | tmp t => exact ((onlyA_get hs t).1 hx).symm
  | _ => rfl
theorem exec_onlyA {m0 : Nat} {o : Oper} {a : Act} (hs : a.tmps.size = m0) (ho : noDS o = true) : execOp a.eval o = execOp (onlyA m0 o a).eval o :=
  execOp_congr o (fun cs b e => by unfold noDS at ho; rw [e] at ho; cases ho) (onlyA_eval hs)
theorem put_get {a : Act} {d t : Nat} {u : Value} (hd : d < a.tmps.size) : (a.put (some d) u).tmps.getD t undef = if t = d then u else a.tmps.getD t undef := by
  simp only [Act.put, Array.getD_eq_getD_getElem?]
  by_cases e : t = d
  · subst e; simp [hd]
  · rw [if_neg e, Array.getElem?_setIfInBounds_ne (Ne.symm e)]
theorem put_get_ne {a : Act} {o : Option Nat} {t : Nat} {u : Value} (h : o ≠ some t) : (a.put o u).tmps.getD t undef = a.tmps.getD t undef := by
  cases o with
  | none => rfl
  | some d =>
    have hd : d ≠ t := fun e => h (by rw [e])
    simp [Act.put, Array.getD_eq_getD_getElem?, Array.getElem?_setIfInBounds_ne hd]
theorem put_sz (a : Act) (o : Option Nat) (u : Value) : (a.put o u).tmps.size = a.tmps.size ∧ (a.put o u).defers = a.defers := by
  cases o <;> simp [Act.put]
section
variable {P : Program} {ops : Array Oper} {an n0 : Nat} {T0 : Tr Value} {m0 : Nat} {val : Nat → Value} {blk : Nat → Option Bk} {rk : Nat → Nat} {hc : Nat → CH}
variable {M : Nat} {T1 : Tr Value} {H1 : CH} {alI : Nat → Prop} {Gi : Gh} {gI : Hf} {nI : Nat} {wI : World} {a0 : Act} {done : Nat → Bool} {j : Nat} {al : Nat → Prop} {G0 : Gh} {a : Act} {w : World}
def needs (ops : Array Oper) (an : Nat) (rk : Nat → Nat) (j i k : Nat) : Prop := isAnc an k i = true ∨ bas ops an rk j k
theorem bas_closed (hcl : Cl ops an) {j i k : Nat} (h : bas ops an rk j i) (hk : isAnc an k i = true) : bas ops an rk j k := by
  obtain ⟨e, h1, h2, h3⟩ := h
  refine ⟨e, h1, h2, .inr ?_⟩
  obtain ⟨o, ho, _⟩ := h1
  rcases h3 with rfl | h3
  · exact hk
  · exact hcl.trans e i k (Array.getElem?_eq_some_iff.1 ho).1 h3 hk
structure Next (ops : Array Oper) (an : Nat) (rk : Nat → Nat) (done : Nat → Bool) (j i : Nat) : Prop where
  nd : done i = false
  anc : ∀ k, isAnc an k i = true → done k = true
  nb : ¬ bas ops an rk j i
  up : ∀ k, done k = true → isAnc an i k = false
  cl : ∀ k l, needs ops an rk j i k → isAnc an l k = true → needs ops an rk j i l
  dn : ∀ k, needs ops an rk j i k → done k = true
  ni : ¬ needs ops an rk j i i
theorem Inv.basd (h : Inv ops an n0 m0 val blk rk hc M alI Gi gI nI wI a0 done j al G0 a w) : ∀ i, bas ops an rk j i → done i = true := fun i ⟨e, h1, h2, h3⟩ => by
  have hd := (h.eff e h1).2 h2
  rcases h3 with rfl | h3
  · exact hd
  · exact h.cl e i hd h3
theorem Inv.next (hcl : Cl ops an) (h : Inv ops an n0 m0 val blk rk hc M alI Gi gI nI wI a0 done j al G0 a w) {i : Nat} {o : Oper} (ho : ops[i]? = some o) (hd : done i = false) (hpr : ∀ e ∈ o.after, Region.binds .any e = true → done e.on = true) : Next ops an rk done j i := by
  have hanc : ∀ k, isAnc an k i = true → done k = true := fun k hk => by
    obtain ⟨e, he, hb, h1⟩ := hcl.snd i o k ho hk
    rcases h1 with rfl | h1
    · exact hpr e he hb
    · exact h.cl e.on k (hpr e he hb) h1
  have hdn : ∀ k, needs ops an rk j i k → done k = true := fun k hk => hk.elim (hanc k) (h.basd k)
  refine ⟨hd, hanc, fun hb => ?_, fun k hk => ?_, fun k l hk hl => ?_, hdn, fun hi => ?_⟩
  · have := h.basd i hb
    rw [hd] at this; cases this
  · cases hx : isAnc an i k with
    | false => rfl
    | true =>
      have := h.cl k i hk hx
      rw [hd] at this; cases this
  · rcases hk with hk | hk
    · exact .inl (hcl.trans i k l (Array.getElem?_eq_some_iff.1 ho).1 hk hl)
    · exact .inr (bas_closed hcl hk hl)
  · have := hdn i hi
    rw [hd] at this; cases this
theorem Inv.ts (hcl : Cl ops an) (h : Inv ops an n0 m0 val blk rk hc M alI Gi gI nI wI a0 done j al G0 a w) (hI : ∀ G, Ag alI Gi G → TR G T0 m0 a0.tmps) {i : Nat} {o : Oper} (ho : ops[i]? = some o) (hx : Next ops an rk done j i) {T : Tr Value} (hT : Rst ops an T0 val T i o) :
    TS (alD ops an n0 blk rk al (needs ops an rk j i) j) G0 T m0 (onlyA m0 o a) := by
  intro G hG
  obtain ⟨_, st2, st3⟩ := h.st (needs ops an rk j i) hx.dn (fun k hk => .inr hk) hx.cl
  refine ⟨by simp [onlyA], fun t => ?_⟩
  by_cases ht : Operand.tmp t ∈ o.op.operands
  · rw [(onlyA_get h.sz t).1 ht]
    obtain ⟨h1, h2⟩ := hT.2 t ht
    by_cases hk : ∃ k ok, ops[k]? = some ok ∧ ok.dst = some t ∧ isAnc an k i = true
    · obtain ⟨k, ok, e1, e2, e3⟩ := hk
      rw [h1 k ok e1 e2 e3]
      exact st3 k ok t (.inl e3) e1 e2 G hG
    · have hk' : ∀ (k : Nat) (ok : Oper), ops[k]? = some ok → ok.dst = some t → isAnc an k i = false := fun k ok e1 e2 => by
        cases e3 : isAnc an k i with
        | false => rfl
        | true => exact absurd ⟨k, ok, e1, e2, e3⟩ hk
      rw [h2 hk', h.old t fun k ok hdk e1 e2 => ?_]
      · exact (hI G fun k hk => (hG k (st2.up k hk).1).trans (st2.up k hk).2).2 t
      · have hne : k ≠ i := fun e => by rw [e, hx.nd] at hdk; cases hdk
        rcases (hcl.slot k i ok o t e1 ho hne e2).2 with e3 | e3 | e3
        · rw [hk' k ok e1 e2] at e3; cases e3
        · rw [hx.up k hdk] at e3; cases e3
        · exact e3 ht
  · rw [(onlyA_get h.sz t).2 ht, hT.1 t ht]
    simp
def asB (v : Value) : Option Bool := match v with
  | .bool b => some b
  | _ => none
theorem yielded_at {tm : Array Value} {v : Value} {G : Gh} {j d : Nat} {oj : Oper} (hj : ops[j]? = some oj) (hd : oj.dst = some d) (h1 : tm.getD d undef = den G v) : yielded ops tm j = asB v := by
  unfold yielded
  rw [hj, Option.bind_some, hd, Option.bind_some]
  rw [Array.getD_eq_getD_getElem?] at h1
  cases hx : tm[d]? with
  | none =>
    rw [hx] at h1
    simp only [Option.getD_none] at h1
    cases v <;> first | rfl | (exfalso; simp [undef] at h1)
  | some y =>
    rw [hx] at h1
    simp only [Option.getD_some] at h1
    subst h1
    cases v with
    | pointer a => cases a <;> rfl
    | slice a l c => cases a <;> rfl
    | map r => cases r <;> rfl
    | func fn f c => obtain ⟨f⟩ := f; obtain ⟨c⟩ := c; rfl
    | tuple vs => obtain ⟨vs⟩ := vs; rfl
    | agg vs => obtain ⟨vs⟩ := vs; rfl
    | _ => rfl
theorem Inv.wanted (hcl : Cl ops an) (h : Inv ops an n0 m0 val blk rk hc M alI Gi gI nI wI a0 done j al G0 a w) {i : Nat} {o : Oper} (ho : ops[i]? = some o) (hx : Next ops an rk done j i) {b : Bool} (hb : Wn ops val o b) : Region.wanted o (yielded ops a.tmps) = b := by
  unfold Wn at hb
  cases hg : o.guard with
  | none => rw [hg] at hb; rw [hb]; exact wanted_none hg _
  | some p =>
    obtain ⟨k, c⟩ := p
    rw [hg] at hb
    obtain ⟨oj, d, e1, e2, rfl⟩ := hb
    have hk := hcl.grd i o k c ho hg
    obtain ⟨_, _, st3⟩ := h.st (needs ops an rk j i) hx.dn (fun k hk => .inr hk) hx.cl
    have hy := yielded_at e1 e2 (st3 k oj d (.inl hk) e1 e2 G0 .rfl)
    cases hv : val k with
    | bool b' =>
      rw [hv] at hy
      rw [wanted_some hg hy]
      rfl
    | _ => rw [hv] at hy; simp [Region.wanted, hg, hy, isTrue, asB]
end
end Go.Proofs.YtmhnlkakbadkgaaGreat.Ck
