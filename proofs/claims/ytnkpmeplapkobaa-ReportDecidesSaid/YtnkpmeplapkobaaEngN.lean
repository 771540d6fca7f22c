/- A symbolic run: the range over a function. No program is in sight. -/
import Derived.Test.YtnkpmeplapkobaaEngM
namespace Go.Proofs.Ytnkpmeplapkobaa
open Go.RowKit Go.Shelf

section
variable {X : Fx} {T : TE} {L : LE} {n : Nat} {F : List Fact} {D : DF} {K : KK}

/-- What is asked behind a round that jumps away. -/
def stpK (X : Fx) (T : TE) (D : DF) (K : KK) (c : Code) (n : Nat) (L' : LE) (n' : Nat) (F' : List Fact) : Prop :=
  Nat.ble n n' = true ∧ sx X c T ((n', markL) :: L') (n' + 1) F' (fun ρ => markD (ρ n') :: D ρ) K
def rndK (X Xr : Fx) {γ : Type} (p : Nat → γ → Prop) (σ : Nat → γ → LE × List Fact) (T : TE) (D : DF) (K : KK) (n k : Nat) : KK := fun e T' L' n' F' D' => match e with
  | .normal => ∃ g, p (k + 1) g ∧ Wk Xr T' L' n' F' D' ⟨[], (σ (k + 1) g).1, n, (σ (k + 1) g).2, fun _ => []⟩
  | .ret => stpK X T D K .ret n L' n' F'
  | .exit id => stpK X T D K (.exit id) n L' n' F'
  | .goto t => stpK X T D K (.goto t) n L' n' F'
  | _ => False

theorem zroot {XE : Fx} {r : Option Nat} {nn : Nat} {V Wa Wb : World} {A : Nat → Prop} {M N : List Nat} {a : Act} {Z : Nat → Prop} {n0 : Nat} (h : Rel (Rt X r nn V A M N) T L n F D a Wa) (hn : n0 ≤ n) (hanc : Anc XE A V M) (hZ : ∀ b, Z b → (¬ A b ∧ b ∉ M) ∧ b < V.heap.size) (hZE : ∀ b, Z b → XE.w0.heap.size ≤ b)
    (hg : Grow Wa Wb) (hw : ∀ b, b < Wa.heap.size → ¬ Z b → Wb.heap[b]? = Wa.heap[b]?) (r' : Option Nat) (nn' : Nat) :
    ∃ (A2 : Nat → Prop) (M2 N2 : List Nat), N2.length = n0 ∧ (∀ i b, i < n0 → N[i]? = some b → N2[i]? = some b) ∧ Anc XE A2 Wb M2 ∧ (∀ b, Z b → ¬ A2 b ∧ b ∉ M2) ∧ (∀ b, A2 b → b < Wa.heap.size) ∧ (∀ b ∈ M2, b < Wa.heap.size) ∧ Rel (Rt X r' nn' Wb A2 M2 N2) T L n F D a Wb ∧ Kp M V Wa := by
  obtain ⟨A0, ρ0, h0⟩ := h.one
  obtain ⟨A2, M2, N2, h1, h2, h3, h4, h5, h6, h7, _, _, h8⟩ := h.root hn Z (fun b hz => ⟨(hZ b hz).1.1, (hZ b hz).1.2, (hZ b hz).2⟩) hg hw r' nn'
  exact ⟨A2, M2, N2, h1, h2, (hanc.step h4 h5 h0.kp).z hg hZE hw, h3, h6, h7, h8, h0.kp⟩

set_option maxHeartbeats 4000000 in
/-- for .. range f, f an iterator by contract. p, σ: what the rounds keep (p k g: k elements have been given). -/
theorem cjs_range {α γ : Type} {enc : α → List Value} {xs : List α} {gf : Nat} {lb : List Value} {F0 : List Fact} {g : Operand} {ps : Array Tmp} {assign body : Code} (p : Nat → γ → Prop) (σ : Nat → γ → LE × List Fact) (g0 : γ)
    (hseq : SeqC X.P gf lb F0 enc xs) (hr : X.r = none) (hg : evS T g = some (.o (.v (.func (.func gf) #[] lb.toArray)))) (hfn : alook X.tab.fn gf = some ()) (hps : ∀ x, (enc x).length = ps.size) (hpk : (ps.toList.all fun p => Nat.blt p X.k) = true) (hXN : X.N.length ≤ n)
    (h0 : p 0 g0) (hw : Wk X T L n F D ⟨T, (σ 0 g0).1, n, (σ 0 g0).2, D⟩) (hF0 : ∀ f ∈ F0, f ∈ (σ 0 g0).2)
    (hround : ∀ k x gk, xs[k]? = some x → p k gk → ∀ l w0 A0 M N, N.length = n → sx (Rt X (some l) (X.nn - 1 - 1) w0 A0 M N) assign (parT ps.toList (enc x) T) (σ k gk).1 n (σ k gk).2 (fun _ => []) (fun e T' L' n' F' D' => match e with
      | .normal => ∀ w0 A0 M N, N.length = n → Nat.ble n n' = true ∧ sx (Rt X (some l) (X.nn - 1 - 1) w0 A0 M N) body T' L' n' F' D' (rndK X (Rt X (some l) (X.nn - 1 - 1) w0 A0 M N) p σ T D K n k)
      | _ => False))
    (hdone : ∀ gk, p xs.length gk → K .normal T ((n, markL) :: (σ xs.length gk).1) (n + 1) (σ xs.length gk).2 (fun ρ => markD (ρ n) :: D ρ)) : CJs X (.rangeFunc g ps assign body) T L n F D K := by
  intro Q hQ a w hr0
  have eg' : ∀ args w, (callFunc gf args).run X.P w = .ok (.enter gf args) w := tyB_spec (X.ok.fn _ _ hfn)
  have hro : X.fe.round = none := hr
  have hfe : X.fe = Fence.wide := by unfold Fx.fe; rw [hr]; rfl
  rw [hfe]
  have hr1 : Rel X T (σ 0 g0).1 n (σ 0 g0).2 D a w := hw a w hr0
  obtain ⟨A', ρ', hev0⟩ := hr1.one
  have hgv : a.eval g = .func (.func gf) #[] lb.toArray := hev0.ev hg
  have hszw : X.w0.heap.size ≤ w.heap.size := hev0.kp.size
  obtain ⟨Ae, Me, Ne, hNe, hNN, _, hAe, hMe, hAl, hMl, hAM, hFe, hrE⟩ := hr1.root (n0 := n) (Nat.le_refl _) (fun _ => False) (fun _ h => h.elim) (Grow.refl w) (fun _ _ _ => rfl) none X.nn
  have ancE : Anc X Ae w Me := ⟨hAe, hMe, hev0.kp⟩
  refine wpIn_rangeFunc fun fn hfn' => ?_
  obtain ⟨rc, hrc⟩ : ∃ rc : LoopState → Option Code → Loop, rc = fun st pe => { state := st, pending := pe, fn, tmps := a.tmps, params := ps, assign, body, defers := w.heap.size } := ⟨_, rfl⟩
  obtain ⟨V, hV⟩ : ∃ V, V = (w.alloc (.deferred (some []))).alloc (.loop (rc .ready none)) := ⟨_, rfl⟩
  have hs : V.heap.size = w.heap.size + 1 + 1 := by rw [hV]; simp
  have hL : V.heap[w.heap.size + 1]? = some (.loop (rc .ready none)) := by
    rw [hV]; have := World.alloc_heap_new (w.alloc (.deferred (some []))) (.loop (rc .ready none)); rwa [World.size_alloc] at this
  have hD : V.heap[w.heap.size]? = some (.deferred (some [])) := by
    rw [hV]; exact (Below.heap_alloc _ _ _ (by simp)).trans (World.alloc_heap_new w _)
  have hwV : Below w.heap.size w V := by rw [hV]; exact ((Below.refl _ w).alloc (Nat.le_refl _) _).alloc (by simp) _
  obtain ⟨B, hB⟩ : ∃ B, B = w.heap.size := ⟨_, rfl⟩
  rw [← hB] at hL hD hs
  let XE : Fx := Rt X none X.nn w Ae Me Ne
  let Z : (Nat → Prop) → Nat → Prop := fun O b => O b ∨ b = B ∨ b = B + 1
  have hZE : ∀ O : Nat → Prop, (∀ b, O b → B + 2 ≤ b) → ∀ b, Z O b → XE.w0.heap.size ≤ b := by
    intro O hO b hb
    show w.heap.size ≤ b
    rcases hb with h | h | h
    · have := hO b h; omega
    · omega
    · omega
  let Jc : Nat → (Nat → Prop) → World → (TE → LE → Nat → List Fact → DF → Act → Loop → Prop) → Prop := fun k O V cnd => ∃ (A : Nat → Prop) (M N : List Nat) (T' : TE) (L' : LE) (n' : Nat) (F' : List Fact) (D' : DF) (a' : Act) (lp : Loop),
    cnd T' L' n' F' D' a' lp ∧ N.length = n ∧ n ≤ n' ∧ (∀ i b, i < n → Ne[i]? = some b → N[i]? = some b) ∧ Anc XE A V M ∧ (∀ b, Z O b → (¬ A b ∧ b ∉ M) ∧ b < V.heap.size) ∧ Rel (Rt X none X.nn V A M N) T' L' n' F' D' a' V ∧
      V.heap[B + 1]? = some (.loop lp) ∧ V.heap[B]? = some (.deferred (some [])) ∧ ∀ b, O b → B + 2 ≤ b
  have stab : ∀ k O V V' cnd, Jc k O V cnd → Chg O V V' → Jc k (Grown O V V') V' cnd := by
    rintro k O V V' cnd ⟨A, M, N, T', L', n', F', D', a', lp, hc, h1, h2, h3, h4, h5, h6, h7, h8, h9⟩ hch
    have hw' : ∀ b, b < V.heap.size → ¬ Z O b → V'.heap[b]? = V.heap[b]? := fun b hb hz => hch.keep b hb fun ho => hz (.inl ho)
    obtain ⟨A2, M2, N2, g1, g2, g3, g4, g5, g6, g7, _⟩ := zroot (Z := Z O) h6 h2 h4 h5 (hZE O h9) hch.toGrow hw' none X.nn
    refine ⟨A2, M2, N2, T', L', n', F', D', a', lp, hc, g1, h2, fun i b hi hb => g2 i b hi (h3 i b hi hb), g3, fun b hb => ?_, g7, ?_, ?_, ?_⟩
    · rcases hb with (hb | hb) | hb
      · exact ⟨g4 b (.inl hb), Nat.lt_of_lt_of_le (h5 b (.inl hb)).2 hch.size⟩
      · exact ⟨⟨fun h => by have := g5 b h; omega, fun h => by have := g6 b h; omega⟩, hb.2⟩
      · exact ⟨g4 b (.inr hb), Nat.lt_of_lt_of_le (h5 b (.inr hb)).2 hch.size⟩
    · rw [hch.keep _ (lt_of_block h7) fun h => by have := h9 _ h; omega]; exact h7
    · rw [hch.keep _ (lt_of_block h8) fun h => by have := h9 _ h; omega]; exact h8
    · rintro b (hb | hb)
      · exact h9 b hb
      · have := lt_of_block h7; omega
  let cJ : Nat → TE → LE → Nat → List Fact → DF → Act → Loop → Prop := fun k T' L' n' F' D' a' lp => lp = rc .ready none ∧ ∃ gk, p k gk ∧ T = T' ∧ L' = (σ k gk).1 ∧ n = n' ∧ F' = (σ k gk).2 ∧ D = D' ∧ a = a'
  let cX : TE → LE → Nat → List Fact → DF → Act → Loop → Prop := fun T' L' n' F' D' a' lp => ∃ c, lp = rc .done (some c) ∧ stpK X T D K c n L' n' F'
  have bp : ∀ (l : Nat) (V : World) (ob : Obj) (r0 : Loop), l = B + 1 → V.heap[B + 1]? = some (.loop r0) → Grow V (V.putObj l ob) ∧ ∀ (O : Nat → Prop) b, b < V.heap.size → ¬ Z O b → (V.putObj l ob).heap[b]? = V.heap[b]? := by
    rintro l V ob r0 rfl _
    refine ⟨⟨rfl, rfl, rfl, by simp⟩, fun O b hb hz => World.putObj_heap_other fun e => hz (.inr (.inr e))⟩
  have lpn : ∀ st pe, (rc st pe).params = ps := fun st pe => by rw [hrc]
  refine ⟨B + 1, [markD B], V, { target := .fn (.func gf) lb.toArray, args := #[.func (.yield (B + 1)) #[] #[]] }, V, gf, #[.func (.yield (B + 1)) #[] #[]] ++ lb.toArray, V, ?_, ?_, fun _ _ => trivial, ?_, fun h => by simp [Fence.wide] at h, ?_⟩
  · rw [hV, hrc, hB]; exact run_enterLoop_outer _ _ _ _ _
  · simp only [resolve, hgv]
    simp [go_sem]
  · simp [invoke, go_sem, eg']
  -- the end, a jump or none
  have fin : ∀ (k : Nat) (O : Nat → Prop) (W' : World) (T' : TE) (L' : LE) (n' : Nat) (F' : List Fact) (D' : DF) (a' : Act) (lp lp2 : Loop) (A : Nat → Prop) (M N : List Nat), N.length = n → n ≤ n' → (∀ i b, i < n → Ne[i]? = some b → N[i]? = some b) → Anc XE A W' M → (∀ b, Z O b → (¬ A b ∧ b ∉ M) ∧ b < W'.heap.size) →
      Rel (Rt X none X.nn W' A M N) T' L' n' F' D' a' W' → W'.heap[B + 1]? = some (.loop lp) → W'.heap[B]? = some (.deferred (some [])) → (∀ b, O b → B + 2 ≤ b) →
      Rel X T ((n', markL) :: L') (n' + 1) F' (fun ρ => markD (ρ n') :: D ρ) { a with defers := [markD B] ++ a.defers } (W'.putObj (B + 1) (.loop lp2)) := by
    intro k O W' T' L' n' F' D' a' lp lp2 A M N h1 h2 h3 h4 h5 h6 h7 h8 h9
    obtain ⟨hg, hw'⟩ := bp (B + 1) W' (.loop lp2) lp rfl h7
    obtain ⟨A2, M2, N2, g1, g2, g3, g4, g5, g6, g7, _⟩ := zroot (Z := Z O) h6 h2 h4 h5 (hZE O h9) hg (hw' O) none X.nn
    have g8 := Rel.back (X := Rt X none X.nn (W'.putObj (B + 1) (.loop lp2)) A2 M2 N2) hrE hNe rfl g7 fun i b hi hb => g2 i b hi (h3 i b hi hb)
    refine g8.out (ancE.step g3.a g3.m g3.kp) (fun i b hb => ?_) ((World.putObj_heap_other (by omega)).trans h8) (g4 B (.inr (.inl rfl))) (by omega)
    have hi : i < n := Nat.lt_of_lt_of_le (List.getElem?_eq_some_iff.1 hb).1 hXN
    exact g2 i b hi (h3 i b hi (hNN i b hi hb))
  have round : ∀ (k : Nat) (x : α) (O : Nat → Prop) (W1 : World), xs[k]? = some x → Jc k O W1 (cJ k) → V.heap.size ≤ W1.heap.size → (∀ b, O b → V.heap.size ≤ b ∧ b < W1.heap.size) → YieldAt Fence.wide (X.nn - 1 - 1) X.P (B + 1) (enc x).toArray W1 fun e V' =>
      (e = .returned (.bool true) ∧ Jc (k + 1) O V' (cJ (k + 1)) ∧ Keep (fun b => Ae b ∨ O b) W1 V') ∨ (e = .returned (.bool false) ∧ Jc (k + 1) O V' cX ∧ Keep O W1 V') := by
    rintro k x O W1 hx ⟨A, M, N, T', L', n', F', D', a', lp, ⟨rfl, gk, hp, rfl, rfl, rfl, rfl, rfl, rfl⟩, h1, h2, h3, h4, h5, h6, h7, h8, h9⟩ hVs hOb
    have hy := run_yield (P := X.P) (args := (enc x).toArray) h7 (by rw [lpn]; simp [hps x])
    refine ⟨fn, _, assign, body, by rw [hrc] at hy; exact hy, roundIn_of_wpIn hfn' ?_⟩
    obtain ⟨A1, M1, N1, a1, a2, a3, a4, a5, a6, a7, _⟩ := zroot (Z := Z O) h6 h2 h4 h5 (hZE O h9) (Grow.refl W1) (fun _ _ _ => rfl) (some (B + 1)) (X.nn - 1 - 1)
    refine sx_sound (hround k x gk hx hp (B + 1) W1 A1 M1 N1 a1) _ ?_ _ _ (rel_params (X := Rt X (some (B + 1)) (X.nn - 1 - 1) W1 A1 M1 N1) hpk a7)
    intro e Ta La na Fa Da hK aa Wa hra
    cases e with
    | normal =>
      have kp1 : Kp M1 W1 Wa := by obtain ⟨_, _, h⟩ := hra.one; exact h.kp
      have z1 : ∀ b, Z O b → (¬ A1 b ∧ b ∉ M1) ∧ b < W1.heap.size := fun b hb => ⟨a4 b hb, (h5 b hb).2⟩
      have l2a : Wa.heap[B + 1]? = some (.loop (rc .ready none)) := (kp1.keep _ (lt_of_block h7) (a4 _ (.inr (.inr rfl))).2).trans h7
      have l3a : Wa.heap[B]? = some (.deferred (some [])) := (kp1.keep _ (lt_of_block h8) (a4 _ (.inr (.inl rfl))).2).trans h8
      refine ⟨_, run_beginRound l2a (by rw [hrc]), ?_⟩
      obtain ⟨Wb, hWb⟩ : ∃ Wb, Wb = Wa.putObj (B + 1) (.loop { rc .ready none with state := .busy }) := ⟨_, rfl⟩
      rw [← hWb]
      obtain ⟨hg1, hw1⟩ := bp (B + 1) Wa (.loop { rc .ready none with state := .busy }) _ rfl l2a
      rw [← hWb] at hg1 hw1
      obtain ⟨hnb, _⟩ := hK Wb A1 M1 N1 a1
      have hnb : n ≤ na := by simpa using hnb
      obtain ⟨A2, M2, N2, b1, b2, b3, b4, b5, b6, b7, _⟩ := zroot (Z := Z O) hra hnb a3 z1 (hZE O h9) hg1 (hw1 O) (some (B + 1)) (X.nn - 1 - 1)
      have l2b : Wb.heap[B + 1]? = some (.loop { rc .ready none with state := .busy }) := by rw [hWb]; exact World.putObj_heap_same (lt_of_block l2a)
      have l3b : Wb.heap[B]? = some (.deferred (some [])) := by rw [hWb]; exact (World.putObj_heap_other (by omega)).trans l3a
      have z2 : ∀ b, Z O b → (¬ A2 b ∧ b ∉ M2) ∧ b < Wb.heap.size := fun b hb => ⟨b4 b hb, Nat.lt_of_lt_of_le (z1 b hb).2 (Nat.le_trans kp1.size hg1.size)⟩
      refine sx_sound (hK Wb A2 M2 N2 b1).2 _ ?_ _ _ b7
      intro e Tc Lc nc Fc Dc hK2 ac Wc hrc2
      have kp2 : Kp M2 Wb Wc := by obtain ⟨_, _, h⟩ := hrc2.one; exact h.kp
      have l2c : Wc.heap[B + 1]? = some (.loop { rc .ready none with state := .busy }) := (kp2.keep _ (lt_of_block l2b) (b4 _ (.inr (.inr rfl))).2).trans l2b
      have l3c : Wc.heap[B]? = some (.deferred (some [])) := (kp2.keep _ (lt_of_block l3b) (b4 _ (.inr (.inl rfl))).2).trans l3b
      have out : ∀ (jump : Option Code), ∃ Wd, (Instr.endRound (B + 1) jump).run X.P Wc = .ok (.bool jump.isNone) Wd ∧ Wd.heap[B + 1]? = some (.loop (rc (if jump.isNone then .ready else .done) jump)) ∧ Wd.heap[B]? = some (.deferred (some [])) ∧ Grow Wc Wd ∧ (∀ b, b < Wc.heap.size → ¬ Z O b → Wd.heap[b]? = Wc.heap[b]?) ∧ Keep (fun b => Ae b ∨ O b) W1 Wd := by
        intro jump
        have e1 := run_endRound (P := X.P) jump l2c
        rw [hrc] at e1
        obtain ⟨hg2, hw2⟩ := bp (B + 1) Wc (.loop (rc (if jump.isNone then .ready else .done) jump)) _ rfl l2c
        refine ⟨_, by rw [hrc]; exact e1, World.putObj_heap_same (lt_of_block l2c), (World.putObj_heap_other (by omega)).trans l3c, hg2, hw2 O, ⟨⟨?_, ?_, ?_, ?_⟩, ?_⟩⟩
        · exact hg2.os.trans (kp2.os.trans (hg1.os.trans kp1.os))
        · exact hg2.tape.trans (kp2.tape.trans (hg1.tape.trans kp1.tape))
        · exact hg2.output.trans (kp2.output.trans (hg1.output.trans kp1.output))
        · exact Nat.le_trans kp1.size (Nat.le_trans hg1.size (Nat.le_trans kp2.size hg2.size))
        · intro b hb hAO
          have n1 : b ∉ M1 := by
            intro hm
            rcases hAO with h | h
            · rcases a3.m b hm with h' | h'
              · exact hAM b h h'
              · have := hAl b h; have : w.heap.size ≤ b := h'; omega
            · exact (a4 b (.inl h)).2 hm
          have n2 : b ∉ M2 := by
            intro hm
            rcases hAO with h | h
            · rcases b3.m b hm with h' | h'
              · exact hAM b h h'
              · have := hAl b h; have : w.heap.size ≤ b := h'; omega
            · exact (b4 b (.inl h)).2 hm
          have n3 : b ≠ B + 1 := by
            rcases hAO with h | h
            · have := hAl b h; omega
            · have := h9 b h; omega
          have hb2 : b < Wb.heap.size := Nat.lt_of_lt_of_le hb (Nat.le_trans kp1.size hg1.size)
          rw [World.putObj_heap_other n3, kp2.keep b hb2 n2, hWb, World.putObj_heap_other n3, kp1.keep b hb n1]
      have away : ∀ (c : Code), stpK X T D K c n Lc nc Fc → ∃ v w', (Instr.endRound (B + 1) (some c)).run X.P Wc = .ok v w' ∧ ((Ending.returned v = .returned (.bool true) ∧ Jc (k + 1) O w' (cJ (k + 1)) ∧ Keep (fun b => Ae b ∨ O b) W1 w') ∨ (Ending.returned v = .returned (.bool false) ∧ Jc (k + 1) O w' cX ∧ Keep O W1 w')) := by
        intro c hst
        obtain ⟨Wd, c1, c2, c3, c4, c5, c6⟩ := out (some c)
        have hnc : n ≤ nc := by simpa using hst.1
        obtain ⟨A3, M3, N3, d1, d2, d3, d4, d5, d6, d7, _⟩ := zroot (Z := Z O) hrc2 hnc b3 z2 (hZE O h9) c4 c5 none X.nn
        refine ⟨_, _, c1, .inr ⟨rfl, ⟨A3, M3, N3, Tc, Lc, nc, Fc, Dc, ac, _, ⟨c, rfl, hst⟩, d1, hnc, fun i b hi hb => d2 i b hi (b2 i b hi (a2 i b hi (h3 i b hi hb))), d3, fun b hb => ⟨d4 b hb, ?_⟩, d7, c2, c3, h9⟩, ⟨c6.toGrow, fun b hb ho => c6.keep b hb (.inr ho)⟩⟩⟩
        exact Nat.lt_of_lt_of_le (z2 b hb).2 (Nat.le_trans kp2.size c4.size)
      cases e with
      | normal =>
        obtain ⟨g', hp', hwk⟩ := hK2
        obtain ⟨Wd, c1, c2, c3, c4, c5, c6⟩ := out none
        obtain ⟨A3, M3, N3, d1, d2, d3, d4, d5, d6, d7, _⟩ := zroot (Z := Z O) (hwk ac Wc hrc2) (Nat.le_refl n) b3 z2 (hZE O h9) c4 c5 none X.nn
        have d8 := Rel.back (X := Rt X none X.nn Wd A3 M3 N3) h6 h1 rfl d7 fun i b hi hb => d2 i b hi (b2 i b hi (a2 i b hi hb))
        refine ⟨_, _, c1, .inl ⟨rfl, ⟨A3, M3, N3, T, _, n, _, D, a, _, ⟨rfl, g', hp', rfl, rfl, rfl, rfl, rfl, rfl⟩, d1, Nat.le_refl _, fun i b hi hb => d2 i b hi (b2 i b hi (a2 i b hi (h3 i b hi hb))), d3, fun b hb => ⟨d4 b hb, ?_⟩, d8, c2, c3, h9⟩, c6⟩⟩
        exact Nat.lt_of_lt_of_le (z2 b hb).2 (Nat.le_trans kp2.size c4.size)
      | exit id => exact away _ hK2
      | goto l => exact away _ hK2
      | ret => exact away _ hK2
      | panic ch => exact hK2.elim
      | outgrown => exact hK2.elim
    | exit id => exact hK.elim
    | goto l => exact hK.elim
    | ret => exact hK.elim
    | panic ch => exact hK.elim
    | outgrown => exact hK.elim
  have key := hseq { n := X.nn - 1, l := B + 1, A := Ae, J := fun k O V => Jc k O V (cJ k), Jx := fun k O V => Jc k O V cX, W := V, hJ := fun k O V V' h hc => stab k O V V' _ h hc, hJx := fun k O V V' h hc => stab k O V V' _ h hc, hY := round }
    (fun b hb => by have := hAl b hb; show b < V.heap.size; omega) (fun f hf => f.ok (w := w) (fun _ h => h) (fun b hb => hwV.block b (hAl b hb)) ⟨hwV.os, hwV.tape, hwV.output, hwV.size⟩ (hFe f (hF0 f hf))) ?_
  · refine key.mono ?_
    rintro e W' ⟨⟨v, rfl⟩, ⟨O, A, M, N, T', L', n', F', D', a', lp, ⟨rfl, gk, hp, rfl, rfl, rfl, rfl, rfl, rfl⟩, h1, h2, h3, h4, h5, h6, h7, h8, h9⟩ | ⟨k, O, ⟨A, M, N, T', L', n', F', D', a', lp, ⟨c, rfl, hst⟩, h1, h2, h3, h4, h5, h6, h7, h8, h9⟩, hk0, hk1⟩⟩
    · refine ⟨none, _, by have := run_endLoop (P := X.P) h7 (by rw [hrc]; simp); rw [hrc] at this; exact this, ?_⟩
      exact hQ _ _ _ _ _ _ (hdone gk hp) _ _ (fin xs.length O W' _ _ _ _ _ _ _ _ A M N h1 h2 h3 h4 h5 h6 h7 h8 h9)
    · refine ⟨some c, _, by have := run_endLoop (P := X.P) h7 (by rw [hrc]; simp); rw [hrc] at this; exact this, ?_⟩
      show c.wpIn Fence.wide X.nn X.P Q _ _
      rw [← hfe]
      exact sx_sound hst.2 Q hQ _ _ (fin k O W' _ _ _ _ _ _ _ _ A M N h1 h2 h3 h4 h5 h6 h7 h8 h9)
  · obtain ⟨A2, M2, N2, g1, g2, g3, g4, g5, g6, g7, _⟩ := zroot (XE := XE) (Z := fun _ => False) (V := w) (Wa := w) (Wb := V) hrE (Nat.le_refl n) ⟨fun b hb => .inl hb, fun b hb => .inl hb, Kp.refl _ _⟩ (fun _ h => h.elim) (fun _ h => h.elim) ⟨hwV.os, hwV.tape, hwV.output, hwV.size⟩ (fun b hb _ => hwV.block b hb) none X.nn
    refine ⟨A2, M2, N2, T, (σ 0 g0).1, n, (σ 0 g0).2, D, a, _, ⟨rfl, g0, h0, rfl, rfl, rfl, rfl, rfl, rfl⟩, g1, Nat.le_refl _, g2, g3, fun b hb => ?_, g7, hL, hD, fun b h => h.elim⟩
    rcases hb with h | h | h
    · exact h.elim
    · exact ⟨⟨fun h' => by have := g5 b h'; omega, fun h' => by have := g6 b h'; omega⟩, by show b < V.heap.size; omega⟩
    · exact ⟨⟨fun h' => by have := g5 b h'; omega, fun h' => by have := g6 b h'; omega⟩, by show b < V.heap.size; omega⟩
end

end Go.Proofs.Ytnkpmeplapkobaa
