/- A symbolic run of straight code: what the symbols stand for, judgements. No program is in sight. -/
import Derived.Test.YtnkpmeplapkobaaEngA
namespace Go.Proofs.Ytnkpmeplapkobaa
open Go.RowKit Go.Shelf

/-- Nothing is done but to the heap, and that does not shrink. -/
structure Grow (w w' : World) : Prop where
  os : w'.os = w.os
  tape : w'.tape = w.tape
  output : w'.output = w.output
  size : w.heap.size ≤ w'.heap.size
theorem Grow.refl (w : World) : Grow w w := ⟨rfl, rfl, rfl, Nat.le_refl _⟩
/-- A fact of memory that hangs on some blocks alone, and stays where they stay. -/
structure Fact where
  h : (Nat → Prop) → World → Prop
  ok : ∀ {A A' : Nat → Prop} {w w' : World}, (∀ b, A b → A' b) → (∀ b, A b → w'.heap[b]? = w.heap[b]?) → Grow w w' → h A w → h A' w'
def Fact.pure (p : Prop) : Fact := ⟨fun _ _ => p, fun _ _ _ h => h⟩

/-- W' is W but for new blocks and the blocks of M. -/
structure Kp (M : List Nat) (w w' : World) : Prop where
  os : w'.os = w.os
  tape : w'.tape = w.tape
  output : w'.output = w.output
  size : w.heap.size ≤ w'.heap.size
  keep : ∀ b, b < w.heap.size → b ∉ M → w'.heap[b]? = w.heap[b]?
theorem Kp.refl (M : List Nat) (w : World) : Kp M w w := ⟨rfl, rfl, rfl, Nat.le_refl _, fun _ _ _ => rfl⟩
theorem Kp.trans {M : List Nat} {a b c : World} (h : Kp M a b) (k : Kp M b c) : Kp M a c :=
  ⟨k.os.trans h.os, k.tape.trans h.tape, k.output.trans h.output, Nat.le_trans h.size k.size, fun i h1 h2 => (k.keep i (Nat.lt_of_lt_of_le h1 h.size) h2).trans (h.keep i h1 h2)⟩
theorem Kp.grow {M : List Nat} {w w' : World} (h : Kp M w w') : Grow w w' := ⟨h.os, h.tape, h.output, h.size⟩
theorem Kp.below {w w' : World} (h : Kp [] w w') : Below w.heap.size w w' := ⟨h.os, h.tape, h.output, h.size, fun b hb => h.keep b hb (by simp)⟩
theorem Kp.of_below {w w' : World} (h : Below w.heap.size w w') : Kp [] w w' := ⟨h.os, h.tape, h.output, h.size, fun b hb _ => h.block b hb⟩

/-- A block of the call's own. -/
inductive LC where
  | c (cells : List SV) (t : TypeId)
  | own (x : Value) (e : TypeId) (sz n : Nat) (cells : List Value)
  | obj (o : Obj)
  | dead
def LC.holds (ρ : Nm) (k : Nat) (w : World) : LC → Prop
  | .c cells t => w.heap[ρ k]? = some (.cells (denL ρ cells).toArray t (0, 0))
  | .own x e sz n cells => w.ownsRow 0 e sz x n cells
  | .obj o => w.heap[ρ k]? = some o
  | .dead => True
def LC.blk (ρ : Nm) (k : Nat) : LC → Option Nat
  | .c _ _ => some (ρ k)
  | .own x _ _ _ _ => x.ownBlock
  | .obj _ => some (ρ k)
  | .dead => none
theorem LC.keep {ρ : Nm} {k : Nat} {w w' : World} {e : LC} (h : e.holds ρ k w) (hb : ∀ b, e.blk ρ k = some b → w'.heap[b]? = w.heap[b]?) : e.holds ρ k w' := by
  cases e with
  | c cells t => exact (hb _ rfl).trans h
  | obj o => exact (hb _ rfl).trans h
  | dead => trivial
  | own x e sz n cells =>
    refine ⟨h.1, ?_⟩
    rcases h.2 with h2 | ⟨g, cap, cur, rfl, hg, hh, rest⟩
    · exact .inl h2
    · exact .inr ⟨g, cap, cur, rfl, hg, (hb g (by simp [LC.blk, Value.ownBlock])).trans hh, rest⟩
theorem LC.lt {ρ : Nm} {k : Nat} {w : World} {e : LC} {b : Nat} (h : e.holds ρ k w) (hb : e.blk ρ k = some b) : b < w.heap.size := by
  cases e with
  | c cells t => cases hb; exact lt_of_block h
  | obj o => cases hb; exact lt_of_block h
  | dead => cases hb
  | own x e sz n cells =>
    rcases h.2 with ⟨rfl, _⟩ | ⟨g, cap, cur, rfl, hg, hh, rest⟩
    · simp [LC.blk, Value.ownBlock] at hb
    · simp only [LC.blk, Value.ownBlock, Option.some.injEq] at hb
      subst hb; exact lt_of_block hh

abbrev TE := List (Nat × TV)
abbrev LE := List (Nat × LC)
abbrev DF := Nm → List Deferred
/-- What stays the same while a function's body is walked. -/
structure Fx where
  P : Program
  tab : Tab
  ok : tab.Ok P
  r : Option Nat
  nn : Nat
  k : Nat
  w0 : World
  A0 : Nat → Prop
  M : List Nat
  N : List Nat
def Fx.fe (X : Fx) : Fence := { Fence.wide with round := X.r }
/-- What an operation that only reads can see. -/
structure Vw (T : TE) (L : LE) (F : List Fact) (A : Nat → Prop) (ρ : Nm) (a : Act) (w : World) : Prop where
  tm : ∀ t x, alook T t = some x → a.tmps.getD t undef = x.den ρ
  lo : ∀ k e, alook L k = some e → e.holds ρ k w
  a3 : ∀ f ∈ F, f.h A w
structure Rel0 (X : Fx) (T : TE) (L : LE) (F : List Fact) (D : DF) (A : Nat → Prop) (ρ : Nm) (a : Act) (w : World) : Prop extends Vw T L F A ρ a w where
  sz : a.tmps.size = X.k
  df : a.defers = D ρ
  kp : Kp X.M X.w0 w
  nw : ∀ k e b, alook L k = some e → e.blk ρ k = some b → b ∈ X.M ∨ X.w0.heap.size ≤ b
  ds : ∀ k k' e e' b, alook L k = some e → alook L k' = some e' → e.blk ρ k = some b → e'.blk ρ k' = some b → k = k'
  a1 : ∀ b, A b → X.A0 b ∨ X.w0.heap.size ≤ b
  a2 : ∀ b, A b → b < w.heap.size ∧ ∀ k e, alook L k = some e → e.blk ρ k ≠ some b
  mb : ∀ i b, X.N[i]? = some b → ρ i = b
/-- The names from n on are free. -/
def Rel (X : Fx) (T : TE) (L : LE) (n : Nat) (F : List Fact) (D : DF) (a : Act) (w : World) : Prop :=
  (∀ k e, alook L k = some e → k < n) ∧ ∃ (ρ0 : Nm) (A : Nat → Prop), ∀ ρ : Nm, (∀ j, j < n → ρ j = ρ0 j) → Rel0 X T L F D A ρ a w
abbrev KK := Exit → TE → LE → Nat → List Fact → DF → Prop
def Imp (X : Fx) (K : KK) (Q : Exit → Act → World → Prop) : Prop := ∀ e T L n F D, K e T L n F D → ∀ a w, Rel X T L n F D a w → Q e a w
def RLs (X : Fx) (ops : List Oper) (l : List Oper) (T : TE) (L : LE) (n : Nat) (F : List Fact) (D : DF) (K : KK) : Prop :=
  ∀ Q, Imp X K Q → ∀ a w, Rel X T L n F D a w → wpListIn X.fe X.nn X.P ops.toArray Q l a w
def CJs (X : Fx) (c : Code) (T : TE) (L : LE) (n : Nat) (F : List Fact) (D : DF) (K : KK) : Prop :=
  ∀ Q, Imp X K Q → ∀ a w, Rel X T L n F D a w → c.wpIn X.fe X.nn X.P Q a w

/-- One operation; k is what is asked behind it. -/
abbrev KS := TE → LE → Nat → List Fact → DF → Prop
def OJs (X : Fx) (o : Oper) (T : TE) (L : LE) (n : Nat) (F : List Fact) (D : DF) (k : KS) (K : KK) : Prop :=
  ∀ Q, Imp X K Q → ∀ Φ : Act → World → Prop, (∀ T' L' n' F' D', k T' L' n' F' D' → ∀ a w, Rel X T' L' n' F' D' a w → Φ a w) → ∀ a w, Rel X T L n F D a w → o.wpIn X.fe X.nn X.P a w Φ Q

theorem rls_nil {X : Fx} {ops : List Oper} {T : TE} {L : LE} {n : Nat} {F : List Fact} {D : DF} {K : KK} (h : K .normal T L n F D) : RLs X ops [] T L n F D K :=
  fun _ hQ a w hr => hQ _ _ _ _ _ _ h a w hr

def evS (T : TE) : Operand → Option TV
  | .tmp t => alook T t
  | .const v => some (.o (.v v))
  | .global g => some (.o (.v (.pointer (some ⟨g, 0, none⟩))))
  | .func f => some (.o (.v (.func (.func f) #[] #[])))
theorem Vw.ev {T : TE} {L : LE} {F : List Fact} {A : Nat → Prop} {ρ : Nm} {a : Act} {w : World} (h : Vw T L F A ρ a w) {x : Operand} {u : TV} (hx : evS T x = some u) : a.eval x = u.den ρ := by
  cases x with
  | tmp t => exact h.tm t u hx
  | const v => cases hx; rfl
  | global g => cases hx; rfl
  | func f => cases hx; rfl
theorem getD_lt {xs : Array Value} {d : Nat} {v : Value} (h : xs.getD d undef = v) (hu : v ≠ undef) : xs[d]? = some v := by
  rw [Array.getD_eq_getD_getElem?] at h
  cases hx : xs[d]? with
  | none => rw [hx] at h; exact absurd h.symm hu
  | some y => rw [hx] at h; simp at h; rw [h]
/-- The guard's place, and what is asked of it. -/
def guardS (ops : List Oper) (j : Nat) (T : TE) : Option Bool :=
  match (ops[j]?).bind (·.dst) with
  | some d => match alook T d with
    | some (.o (.v (.bool c))) => some c
    | _ => none
  | none => none
theorem Vw.guard {T : TE} {L : LE} {F : List Fact} {A : Nat → Prop} {ρ : Nm} {a : Act} {w : World} (h : Vw T L F A ρ a w) {ops : List Oper} {j : Nat} {c : Bool} (hg : guardS ops j T = some c) : yielded ops.toArray a.tmps j = some c := by
  unfold guardS at hg
  split at hg
  · rename_i d hd
    split at hg
    · rename_i c' hc
      cases hg
      have h1 := getD_lt (h.tm d _ hc) (by simp [TV.den, SV.den, undef])
      unfold yielded
      rw [List.getElem?_toArray, hd]
      simp [h1, TV.den, SV.den]
    · cases hg
  · cases hg
theorem wanted_none {o : Oper} (h : o.guard = none) (y : Nat → Option Bool) : Region.wanted o y = true := by simp [Region.wanted, h]
theorem wanted_some {o : Oper} {j : Nat} {b c : Bool} {y : Nat → Option Bool} (h : o.guard = some (j, b)) (hy : y j = some c) : Region.wanted o y = (c == b) := by
  simp only [Region.wanted, h, hy]
  cases c <;> cases b <;> rfl

def putS (k : Nat) (d : Option Nat) (u : TV) (T : TE) : Option TE :=
  match d with
  | none => some T
  | some d => bif Nat.blt d k then some ((d, u) :: T) else none
theorem putS_tm {k : Nat} {d : Option Nat} {u : TV} {T T' : TE} {a : Act} {ρ : Nm} {v : Value} (h : putS k d u T = some T') (hs : a.tmps.size = k) (ht : ∀ t x, alook T t = some x → a.tmps.getD t undef = x.den ρ) (hv : v = u.den ρ) :
    ((a.put d v).tmps.size = k ∧ (a.put d v).defers = a.defers) ∧ ∀ t x, alook T' t = some x → (a.put d v).tmps.getD t undef = x.den ρ := by
  subst hv
  unfold putS at h
  split at h
  · cases h; exact ⟨⟨hs, rfl⟩, ht⟩
  · rename_i d
    rw [cond_eq_ite] at h
    split at h
    · rename_i hd
      cases h
      rw [Nat.blt_eq] at hd
      refine ⟨⟨by simpa [Act.put] using hs, rfl⟩, fun t x hx => ?_⟩
      rw [alook_cons] at hx
      split at hx
      · rename_i e
        cases hx
        subst e
        simp [Act.put, Array.getD_eq_getD_getElem?, hs, hd]
      · rename_i e
        have := ht t x hx
        rw [← this]
        simp only [Act.put, Array.getD_eq_getD_getElem?]
        rw [Array.getElem?_setIfInBounds_ne (fun h => e h.symm)]
    · cases h
def noDef (o : Oper) : Bool := match o.op with | .defer _ => false | _ => true
theorem noDef_is {o : Oper} (h : noDef o = true) : ∀ c, o.op ≠ .defer c := by
  intro c e
  unfold noDef at h
  rw [e] at h
  cases h
theorem Oper.wpIn_of_run {X : Fx} {o : Oper} {a : Act} {w : World} {K : Act → World → Prop} {Q : Exit → Act → World → Prop} (hd : noDef o = true) (h : o.uponIn X.fe X.nn X.P a K Q ((execOp a.eval o).run X.P w)) : o.wpIn X.fe X.nn X.P a w K Q := by
  refine ⟨fun _ _ => trivial, ?_⟩
  rw [Oper.semAt_eq _ _ _ (noDef_is hd)]
  exact h

/-- What an operation yields whose guard lets it be. -/
def Yd (X : Fx) (o : Oper) (T : TE) (L : LE) (F : List Fact) (u : TV) : Prop := noDef o = true ∧ ∀ A ρ a w, Vw T L F A ρ a w → (execOp a.eval o).run X.P w = .ok (.value (u.den ρ)) w
theorem Rel.put {X : Fx} {T T' : TE} {L : LE} {n : Nat} {F : List Fact} {D : DF} {a : Act} {w : World} {d : Option Nat} {u : TV} {v : Value} (h : Rel X T L n F D a w) (hv : ∀ A ρ, Rel0 X T L F D A ρ a w → v = u.den ρ) (hp : putS X.k d u T = some T') : Rel X T' L n F D (a.put d v) w := by
  obtain ⟨hkb, ρ0, A, h0⟩ := h
  refine ⟨hkb, ρ0, A, fun ρ hρ => ?_⟩
  have h1 := h0 ρ hρ
  obtain ⟨⟨e1, e2⟩, e3⟩ := putS_tm hp h1.sz h1.tm (hv A ρ h1)
  exact ⟨⟨e3, h1.lo, h1.a3⟩, e1, by rw [e2]; exact h1.df, h1.kp, h1.nw, h1.ds, h1.a1, h1.a2, h1.mb⟩
theorem Rel.one {X : Fx} {T : TE} {L : LE} {n : Nat} {F : List Fact} {D : DF} {a : Act} {w : World} (h : Rel X T L n F D a w) : ∃ A ρ, Rel0 X T L F D A ρ a w := by
  obtain ⟨_, ρ0, A, h0⟩ := h
  exact ⟨A, ρ0, h0 ρ0 fun _ _ => rfl⟩

theorem rls_op {X : Fx} {ops : List Oper} {o : Oper} {l : List Oper} {T : TE} {L : LE} {n : Nat} {F : List Fact} {D : DF} {K : KK} {k : KS} (hg : o.guard = none ∨ ∃ j b, o.guard = some (j, b) ∧ guardS ops j T = some b)
    (hk : ∀ T' L' n' F' D', k T' L' n' F' D' → RLs X ops l T' L' n' F' D' K) (h : OJs X o T L n F D k K) : RLs X ops (o :: l) T L n F D K := by
  intro Q hQ a w hr
  obtain ⟨A, ρ, h0⟩ := hr.one
  refine wpListIn_step fun K' hK => ?_
  have hw : Region.wanted o (yielded ops.toArray a.tmps) = true := by
    rcases hg with hg | ⟨j, b, hg, hj⟩
    · exact wanted_none hg _
    · rw [wanted_some hg (h0.guard hj)]; simp
  rw [if_pos hw]
  exact Oper.wpIn_mono (fun a w => hK a w) (h Q hQ _ (fun T' L' n' F' D' hk' a w hr' => hk T' L' n' F' D' hk' Q hQ a w hr') a w hr)
theorem rls_skip {X : Fx} {ops : List Oper} {o : Oper} {l : List Oper} {T T' : TE} {L : LE} {n : Nat} {F : List Fact} {D : DF} {K : KK} {j : Nat} {b c : Bool} (hg : o.guard = some (j, b)) (hj : guardS ops j T = some c) (hc : (c == b) = false)
    (hp : putS X.k o.dst (.o (.v undef)) T = some T') (h : RLs X ops l T' L n F D K) : RLs X ops (o :: l) T L n F D K := by
  intro Q hQ a w hr
  obtain ⟨A, ρ, h0⟩ := hr.one
  refine wpListIn_step fun K' hK => ?_
  rw [if_neg (by rw [wanted_some hg (h0.guard hj), hc]; simp)]
  exact ⟨fun _ _ => trivial, hK _ _ (h Q hQ _ w (hr.put (fun _ _ _ => rfl) hp))⟩
theorem ojs_yd {X : Fx} {o : Oper} {T T' : TE} {L : LE} {n : Nat} {F : List Fact} {D : DF} {k : KS} {K : KK} {u : TV} (hy : Yd X o T L F u) (hp : putS X.k o.dst u T = some T') (h : k T' L n F D) : OJs X o T L n F D k K := by
  intro Q hQ Φ hΦ a w hr
  obtain ⟨A, ρ, h0⟩ := hr.one
  refine Oper.wpIn_of_run hy.1 ?_
  have h1 := hy.2 A ρ a w h0.toVw
  rw [h1]
  refine hΦ _ _ _ _ _ h _ w (hr.put (fun A' ρ' h' => ?_) hp)
  have h2 := hy.2 A' ρ' a w h'.toVw
  rw [h1] at h2
  injection h2 with h3 h4
  injection h3 with h5

/-- A new block. -/
theorem ojs_new {X : Fx} {o : Oper} {T T' : TE} {L : LE} {n : Nat} {F : List Fact} {D : DF} {k : KS} {K : KK} {u : TV} {cells : List SV} {t : TypeId} (hd : noDef o = true)
    (hv : ∀ A ρ a w, Rel0 X T L F D A ρ a w → ∃ z, (execOp a.eval o).run X.P w = .ok (.value z) (w.alloc (.cells (denL ρ cells).toArray t)) ∧ ∀ ρ', ρ' n = w.heap.size → (∀ j, j < n → ρ' j = ρ j) → z = u.den ρ')
    (hp : putS X.k o.dst u T = some T') (h : k T' ((n, .c cells t) :: L) (n + 1) F D) : OJs X o T L n F D k K := by
  intro Q hQ Φ hΦ a w hr
  obtain ⟨hkb, ρ0, A, hr0⟩ := hr
  have h0 := hr0 ρ0 (fun _ _ => rfl)
  obtain ⟨z, hz, hz'⟩ := hv A ρ0 a w h0
  refine Oper.wpIn_of_run hd ?_
  rw [hz]
  refine hΦ _ _ _ _ _ h _ _ ⟨fun k e hk => ?_, fun j => if j = n then w.heap.size else ρ0 j, A, fun ρ hρ => ?_⟩
  · rw [alook_cons] at hk
    split at hk
    · omega
    · have := hkb k e hk; omega
  have hn : ρ n = w.heap.size := by simpa using hρ n (by omega)
  have hlt : ∀ j, j < n → ρ j = ρ0 j := fun j hj => by simpa [Nat.ne_of_lt hj] using hρ j (by omega)
  have h1 := hr0 ρ hlt
  obtain ⟨z2, hz2, hz2'⟩ := hv A ρ a w h1
  have e2 : w.alloc (.cells (denL ρ0 cells).toArray t) = w.alloc (.cells (denL ρ cells).toArray t) := by
    rw [hz] at hz2; injection hz2
  obtain ⟨⟨e1, e2'⟩, e3⟩ := putS_tm hp h1.sz h1.tm (hz' ρ hn hlt)
  have hW : X.w0.heap.size ≤ w.heap.size := h1.kp.size
  have old : ∀ b, b < w.heap.size → (w.alloc (.cells (denL ρ0 cells).toArray t)).heap[b]? = w.heap[b]? := fun b hb => Below.heap_alloc w _ b hb
  have bl : ∀ k e b, alook ((n, LC.c cells t) :: L) k = some e → e.blk ρ k = some b → (k = n ∧ b = w.heap.size) ∨ (k ≠ n ∧ alook L k = some e ∧ b < w.heap.size) := by
    intro k e b hk hb
    rw [alook_cons] at hk
    split at hk
    · rename_i ek
      cases hk
      subst ek
      simp only [LC.blk, Option.some.injEq, hn] at hb
      exact .inl ⟨rfl, hb.symm⟩
    · rename_i ek
      exact .inr ⟨ek, hk, LC.lt (h1.lo k e hk) hb⟩
  refine ⟨⟨e3, ?_, fun f hf => f.ok (fun _ h => h) (fun b hb => old b (h1.a2 b hb).1) ⟨rfl, rfl, rfl, by simp⟩ (h1.a3 f hf)⟩, e1, by rw [e2']; exact h1.df, h1.kp.trans ⟨rfl, rfl, rfl, by simp, fun b hb _ => old b hb⟩, ?_, ?_, h1.a1, ?_, h1.mb⟩
  · intro k e hk
    rw [alook_cons] at hk
    split at hk
    · rename_i ek
      cases hk
      subst ek
      show (w.alloc _).heap[ρ k]? = _
      rw [hn, e2]
      exact World.alloc_heap_new w _
    · exact LC.keep (h1.lo k e hk) fun b hb => old b (LC.lt (h1.lo k e hk) hb)
  · intro k e b hk hb
    rcases bl k e b hk hb with ⟨_, rfl⟩ | ⟨_, h3, _⟩
    · exact .inr hW
    · exact h1.nw k e b h3 hb
  · intro k k' e e' b hk hk' hb hb'
    rcases bl k e b hk hb with ⟨rfl, rfl⟩ | ⟨_, h3, h4⟩ <;> rcases bl k' e' _ hk' hb' with ⟨rfl, _⟩ | ⟨_, h3', h4'⟩
    · rfl
    · omega
    · omega
    · exact h1.ds k k' e e' b h3 h3' hb hb'
  · intro b hb
    refine ⟨by have := (h1.a2 b hb).1; simp; omega, fun k e hk hbk => ?_⟩
    rcases bl k e b hk hbk with ⟨_, rfl⟩ | ⟨_, h3, _⟩
    · have := (h1.a2 _ hb).1; omega
    · exact (h1.a2 b hb).2 k e h3 hbk

/-- A block of the call's own, written. -/
theorem Rel.setRow {X : Fx} {T : TE} {L : LE} {n : Nat} {F : List Fact} {D : DF} {k : Nat} {cs cells : List SV} {t : TypeId} {a : Act} {w w' : World} (hr : Rel X T L n F D a w)
    (hk : alook L k = some (.c cs t)) (hw : ∀ A ρ, Rel0 X T L F D A ρ a w → w' = w.setRow (ρ k) (denL ρ cells).toArray) : Rel X T ((k, .c cells t) :: L) n F D a w' := by
  obtain ⟨hkb, ρ0, A, hr0⟩ := hr
  refine ⟨fun k' e hk' => ?_, ρ0, A, fun ρ hρ => ?_⟩
  · rw [alook_cons] at hk'
    split at hk'
    · rename_i ek; rw [ek]; exact hkb _ _ hk
    · exact hkb _ _ hk'
  have h1 := hr0 ρ hρ
  obtain rfl := hw A ρ h1
  have hkk : w.heap[ρ k]? = some (.cells (denL ρ cs).toArray t (0, 0)) := h1.lo k _ hk
  have old : ∀ b, b ≠ ρ k → (w.setRow (ρ k) (denL ρ cells).toArray).heap[b]? = w.heap[b]? := fun b hb => setRow_other w _ _ _ hb
  have bl : ∀ k' e b, alook ((k, LC.c cells t) :: L) k' = some e → e.blk ρ k' = some b → (k' = k ∧ b = ρ k) ∨ (k' ≠ k ∧ alook L k' = some e ∧ b ≠ ρ k) := by
    intro k' e b hk' hb
    rw [alook_cons] at hk'
    split at hk'
    · rename_i ek
      cases hk'
      subst ek
      simp only [LC.blk, Option.some.injEq] at hb
      exact .inl ⟨rfl, hb.symm⟩
    · rename_i ek
      refine .inr ⟨ek, hk', fun eb => ek ?_⟩
      subst eb
      exact h1.ds k' k e _ _ hk' hk hb rfl
  refine ⟨⟨h1.tm, ?_, fun f hf => f.ok (fun _ h => h) (fun b hb => old b fun e => ?_) ⟨rfl, rfl, rfl, by rw [size_setRow]; exact Nat.le_refl _⟩ (h1.a3 f hf)⟩, h1.sz, h1.df, ?_, ?_, ?_, h1.a1, ?_, h1.mb⟩
  · intro k' e hk'
    rw [alook_cons] at hk'
    split at hk'
    · rename_i ek
      cases hk'
      subst ek
      exact setRow_heap w _ _ _ _ _ hkk
    · rename_i ek
      refine LC.keep (h1.lo k' e hk') fun b hb => old b fun eb => ek ?_
      subst eb
      exact h1.ds k' k e _ _ hk' hk hb rfl
  · subst e
    exact (h1.a2 _ hb).2 k _ hk rfl
  · refine ⟨h1.kp.os, h1.kp.tape, h1.kp.output, by rw [size_setRow]; exact h1.kp.size, fun b hb hm => ?_⟩
    rw [old b ?_]
    · exact h1.kp.keep b hb hm
    · intro e
      subst e
      rcases h1.nw k _ _ hk rfl with h2 | h2
      · exact hm h2
      · omega
  · intro k' e b hk' hb
    rcases bl k' e b hk' hb with ⟨rfl, rfl⟩ | ⟨_, h3, _⟩
    · exact h1.nw _ _ _ hk rfl
    · exact h1.nw k' e b h3 hb
  · intro k1 k2 f1 f2 b hk1 hk2 hb1 hb2
    rcases bl k1 f1 b hk1 hb1 with ⟨g1, g2⟩ | ⟨_, h3, h4⟩ <;> rcases bl k2 f2 b hk2 hb2 with ⟨g3, g4⟩ | ⟨_, h3', h4'⟩
    · rw [g1, g3]
    · exact absurd g2 h4'
    · exact absurd g4 h4
    · exact h1.ds k1 k2 f1 f2 b h3 h3' hb1 hb2
  · intro b hb
    refine ⟨by rw [size_setRow]; exact (h1.a2 b hb).1, fun k' e hk' hbk => ?_⟩
    rcases bl k' e b hk' hbk with ⟨_, rfl⟩ | ⟨_, h3, _⟩
    · exact (h1.a2 _ hb).2 k _ hk rfl
    · exact (h1.a2 b hb).2 k' e h3 hbk
theorem ojs_set {X : Fx} {o : Oper} {T : TE} {L : LE} {n : Nat} {F : List Fact} {D : DF} {kk : KS} {K : KK} {k : Nat} {cs cells : List SV} {t : TypeId} (hd : noDef o = true) (ho : o.dst = none)
    (hk : alook L k = some (.c cs t)) (hv : ∀ A ρ a w, Rel0 X T L F D A ρ a w → (execOp a.eval o).run X.P w = .ok .skip (w.setRow (ρ k) (denL ρ cells).toArray))
    (h : kk T ((k, .c cells t) :: L) n F D) : OJs X o T L n F D kk K := by
  intro Q hQ Φ hΦ a w hr
  obtain ⟨A, ρ0, h0⟩ := hr.one
  have hz := hv A ρ0 a w h0
  refine Oper.wpIn_of_run hd ?_
  rw [hz]
  have hput : a.put o.dst undef = a := by rw [ho]; rfl
  show Φ (a.put o.dst undef) _
  rw [hput]
  refine hΦ _ _ _ _ _ h _ _ (hr.setRow hk fun A ρ h1 => ?_)
  have hz2 := hv A ρ a w h1
  rw [hz] at hz2; injection hz2

end Go.Proofs.Ytnkpmeplapkobaa
