/- A symbolic run: deferred calls, what is given up with and caught. No program is in sight. -/
import Derived.Test.YtnkpmeplapkobaaEngI
import Derived.RecoverIn
namespace Go.Proofs.Ytnkpmeplapkobaa
open Go.RowKit Go.Shelf

section
variable {X : Fx} {ops l : List Oper} {o : Oper} {T : TE} {L : LE} {n : Nat} {F : List Fact} {D : DF} {K : KK} {k : KS} {c : Code}

/-- A defer statement. -/
theorem ojs_defer {cl : Call} {f : Operand} {g : Nat} {fi ca : List PV} {us : List TV} (hr : X.r = none) (ho : o.op = .defer cl) (hd : o.dst = none) (hc : cl.callee = .value f) (hf : calS T f = some (g, fi, ca)) (hus : argS T cl.args.toList = some us)
    (h : k T L n F (fun ρ => { target := .fn (.func g) (ca.map (PV.den ρ)).toArray, args := (fi.map (PV.den ρ) ++ us.map (TV.den ρ)).toArray } :: D ρ)) : OJs X o T L n F D k K := by
  intro Q hQ Φ hΦ a w hr0
  have hrun : ∀ A ρ, Rel0 X T L F D A ρ a w → (execOp a.eval o).run X.P w = .ok (.defer { target := .fn (.func g) (ca.map (PV.den ρ)).toArray, args := (fi.map (PV.den ρ) ++ us.map (TV.den ρ)).toArray }) w := by
    intro A ρ h0
    have e1 := argS_den h0.toVw hus
    have e2 : cl.args.map a.eval = (us.map (TV.den ρ)).toArray := by apply Array.ext'; rw [Array.toList_map]; exact e1
    unfold calS at hf
    split at hf
    · rename_i g' fi' ca' hv
      cases hf
      have e3 := h0.ev hv
      simp only [TV.den, SV.den] at e3
      simp [execOp, ho, resolve, hc, e3, Deferred.ofValue, e2, PV.den, Function.comp_def]
    · rename_i g' fi' ca' hv
      cases hf
      have e3 := h0.ev hv
      simp only [TV.den, SV.den] at e3
      simp [execOp, ho, resolve, hc, e3, Deferred.ofValue, e2]
    · cases hf
  obtain ⟨hkb, ρ0, A, hr1⟩ := hr0
  have h0 := hr1 ρ0 (fun _ _ => rfl)
  refine ⟨fun f' hf' => trivial, ?_⟩
  have hfe : X.fe.round = none := hr
  rw [hfe, Oper.semAt_none, hrun A ρ0 h0]
  show Φ ({ a with defers := _ :: a.defers }.put o.dst undef) w
  rw [hd]
  refine hΦ _ _ _ _ _ h _ _ ⟨hkb, ρ0, A, fun ρ hρ => ?_⟩
  have h1 := hr1 ρ hρ
  refine ⟨⟨h1.tm, h1.lo, h1.a3⟩, h1.sz, ?_, h1.kp, h1.nw, h1.ds, h1.a1, h1.a2, h1.mb⟩
  have e1 := hrun A ρ h1
  rw [hrun A ρ0 h0] at e1
  injection e1 with e1
  injection e1 with e1
  show _ :: a.defers = _
  rw [e1, h1.df]

/-- panic. -/
theorem ojs_panic {x : Operand} {t : TypeId} {v : Value} (ho : o.op = .panic x) (hx : evS T x = some (.o (.v (.iface t v)))) (h : K (.panic [{ v := .iface t v, recovered := false }]) T L n F D) : OJs X o T L n F D k K := by
  intro Q hQ Φ hΦ a w hr
  obtain ⟨A, ρ, h0⟩ := hr.one
  refine Oper.wpIn_of_run (by simp [noDef, ho]) ?_
  have e1 := h0.ev hx
  simp only [TV.den, SV.den] at e1
  have : (execOp a.eval o).run X.P w = .halt (.panic (.iface t v)) w := by
    simp [execOp, ho, e1, Instr.panic]
  rw [this]
  exact hQ _ _ _ _ _ _ h a w hr

/-! ### Leaving -/
/-- What is to be shown where a body is left. -/
def Lv (X : Fx) (res : List ResultVar) (mu : List MB) (Out : OutT) (u : FrameMode) (T : TE) (L : LE) (n : Nat) (F : List Fact) (D : DF) : Prop :=
  ∀ a w, Rel X T L n F D a w → ∀ fn : Func, fn.results.toList = res → LeavesInM Fence.wide 8 X.P fn a.tmps (Res X.w0 X.A0 mu Out) a.defers u w
def endD (X : Fx) (res : List ResultVar) (mu : List MB) (Out : OutT) : KK := fun e T L n F D => match e with
  | .normal => Lv X res mu Out .returning T L n F D
  | .ret => Lv X res mu Out .returning T L n F D
  | .panic ch => Lv X res mu Out (.panicking ch) T L n F D
  | _ => False
theorem lv_ret {res : List ResultVar} {mu : List MB} {Out : OutT} (h : EndR X res mu Out T L n F D) : Lv X res mu Out .returning T L n F D := by
  intro a w hr fn hfn
  obtain ⟨h1, h2⟩ := h a w hr
  obtain ⟨v, h3, h4⟩ := h2 fn hfn
  rw [h1]
  exact ⟨v, h3, h4⟩
theorem lv_panic {ch : List PanicEntry} {res : List ResultVar} {mu : List MB} {Out : OutT} (h : EndP X ch mu Out T L n F D) : Lv X res mu Out (.panicking ch) T L n F D := by
  intro a w hr fn hfn
  obtain ⟨h1, h2⟩ := h a w hr
  rw [h1]
  exact h2
/-- A contract from a run of the body, deferred calls and all. -/
theorem cm_ofD {P : Program} {tab : Tab} {ok : tab.Ok P} {g : Nat} {fn : Func} {body : Code} {args : List Value} {mu : List MB} {F0 : List Fact} {Out : OutT} {k : Nat} (us : List TV) (hf : P.funcs[g]? = some fn) (hk : fn.ntmps = k) (hb : fn.body = some body) (hul : Nat.ble us.length k = true)
    (hargs : ∀ ρ : Nm, (∀ i b, (mu.map (·.1))[i]? = some b → ρ i = b) → us.map (TV.den ρ) = args)
    (h : ∀ w0 A0, sx ⟨P, tab, ok, none, 8, k, w0, A0, mu.map (·.1), mu.map (·.1)⟩ body (argT 0 us) (muL 0 mu) mu.length F0 (fun _ => []) (endD ⟨P, tab, ok, none, 8, k, w0, A0, mu.map (·.1), mu.map (·.1)⟩ fn.results.toList mu Out)) : Cm P g args mu F0 Out := by
  intro A w hnd hmu hA hF
  refine (callsIn_wide (n := 8)).1 (callsIn_of_wp_marks hf hb trivial ?_ rfl)
  rw [hk]
  have hk2 : us.length ≤ k := by rwa [Nat.ble_eq] at hul
  refine sx_sound (h w A) _ ?_ _ _ (rel_begin ⟨rfl, rfl, rfl, rfl, rfl⟩ hk2 hnd hmu hA hF hargs)
  intro e T L n F D hK a w' hr
  cases e with
  | normal => exact hK a w' hr fn rfl
  | ret => exact hK a w' hr fn rfl
  | panic ch => exact hK a w' hr fn rfl
  | exit id => exact hK.elim
  | goto l => exact hK.elim
  | outgrown => exact hK.elim

/-! ### Caught -/
/-- Nobody gave up: caught does nothing. -/
def CaughtIdle (P : Program) (g : FuncId) : Prop := ∀ (n : Nat) (pe : Addr) (K : Nat) (lb : Array Value) (w : World),
  CallsDIn Fence.wide n P g #[.pointer (some pe), .func (.func K) #[] lb] .returning w fun e u' w' => e = .returned (.tuple #[]) ∧ u' = .returning ∧ w' = w
/-- What was given up with is told; ahead of that K is called. -/
def CaughtUp (P : Program) (g : FuncId) (tI tE : TypeId) : Prop := ∀ (n : Nat) (pe : Nat) (K : Nat) (lb : Array Value) (z : Int) (older : List PanicEntry) (w : World) (R : World → Prop), 1 ≤ n → Enters P K →
  Calls P K lb w (fun e w' => e = .returned (.tuple #[]) ∧ R w') → (∀ w', R w' → ∃ v, w'.heap[pe]? = some (.cells #[v] tE (0, 0))) →
  CallsDIn Fence.wide n P g #[.pointer (some ⟨pe, 0, none⟩), .func (.func K) #[] lb] (.panicking ({ v := .iface tI (.int .i64 z), recovered := false } :: older)) w fun e u' w' =>
    e = .returned (.tuple #[]) ∧ u' = .panicking ({ v := .iface tI (.int .i64 z), recovered := true } :: older) ∧ ∃ w1, R w1 ∧ w' = w1.setCell ⟨pe, 0, none⟩ (.int .i64 z)
/-- The deferred call of caught, by an own block for the error and a clearing. -/
def cauD (g ke kg : Nat) (ca : List PV) (D : DF) : DF := fun ρ => { target := .fn (.func g) #[], args := #[.pointer (some ⟨ρ ke, 0, none⟩), .func (.func kg) #[] (ca.map (PV.den ρ)).toArray] } :: D ρ
theorem Rel.popD {d : Nm → Deferred} {a : Act} {w : World} (h : Rel X T L n F (fun ρ => d ρ :: D ρ) a w) : Rel X T L n F D { a with defers := a.defers.tail } w := by
  obtain ⟨hkb, ρ0, A, h0⟩ := h
  refine ⟨hkb, ρ0, A, fun ρ hρ => ?_⟩
  have h1 := h0 ρ hρ
  exact ⟨⟨h1.tm, h1.lo, h1.a3⟩, h1.sz, by show a.defers.tail = _; rw [h1.df]; rfl, h1.kp, h1.nw, h1.ds, h1.a1, h1.a2, h1.mb⟩
/-- defer caught(&e, func() { .. }). -/
theorem ojs_caught {cl : Call} {f x y : Operand} {g ke kg : Nat} {ca : List PV} (hr : X.r = none) (ho : o.op = .defer cl) (hd : o.dst = none) (hc : cl.callee = .value f) (hf : calS T f = some (g, [], [])) (hargs : cl.args.toList = [x, y])
    (hx : evS T x = some (.o (.p ke 0))) (hy : evS T y = some (.o (.f (.func kg) [] ca))) (h : k T L n F (cauD g ke kg ca D)) : OJs X o T L n F D k K :=
  ojs_defer (us := [.o (.p ke 0), .o (.f (.func kg) [] ca)]) hr ho hd hc hf (by rw [hargs]; simp only [argS, hx, hy]) h
def PV.ltn (n : Nat) : PV → Bool
  | .v _ => true
  | .p k _ => Nat.blt k n
/-- defer caught(&e, f), f a function that captures nothing. -/
theorem ojs_caughtV {cl : Call} {f x y : Operand} {g ke kg : Nat} (hr : X.r = none) (ho : o.op = .defer cl) (hd : o.dst = none) (hc : cl.callee = .value f) (hf : calS T f = some (g, [], [])) (hargs : cl.args.toList = [x, y])
    (hx : evS T x = some (.o (.p ke 0))) (hy : evS T y = some (.o (.v (.func (.func kg) #[] #[])))) (h : k T L n F (cauD g ke kg [] D)) : OJs X o T L n F D k K :=
  ojs_defer (us := [.o (.p ke 0), .o (.v (.func (.func kg) #[] #[]))]) hr ho hd hc hf (by rw [hargs]; simp only [argS, hx, hy]) h
theorem cauD_same {g ke kg : Nat} {ca : List PV} {m : Nat} {ρ ρ' : Nm} (h : ∀ j, j < m → ρ' j = ρ j) (h1 : Nat.blt ke m = true) (h2 : ca.all (PV.ltn m) = true) (hD : D ρ' = D ρ) : cauD g ke kg ca D ρ' = cauD g ke kg ca D ρ := by
  unfold cauD
  rw [h ke (by simpa using h1), hD]
  have e : ca.map (PV.den ρ') = ca.map (PV.den ρ) := by
   apply List.map_congr_left
   intro x hx
   have := List.all_eq_true.1 h2 x hx
   cases x with
   | v x => rfl
   | p k o => simp only [PV.ltn, Nat.blt_eq] at this; simp only [PV.den, h k this]
  rw [e]
/-- A like state, the deferred call of caught and all. -/
theorem wk_cau {g ke kg : Nat} {ca : List PV} {T' : TE} {L' : LE} {n' : Nat} {F' : List Fact} (hT : subT idN n' T T') (hL : subL idN n' L L') (hF : ∀ f ∈ F', f ∈ F) (hM : X.N.length ≤ n') (h1 : Nat.blt ke n' = true) (h2 : ca.all (PV.ltn n') = true) :
    Wk X T L n F (cauD g ke kg ca fun _ => []) ⟨T', L', n', F', cauD g ke kg ca fun _ => []⟩ :=
  wk_ren idN hT hL (fun _ _ _ _ h => h) (fun A w h f hf => h f (hF f hf)) (fun _ _ h => cauD_same h h1 h2 rfl) (fun i hi => ⟨by omega, rfl⟩)
/-- An old contract. -/
theorem cm_any {P : Program} {g : FuncId} {args : List Value} {F0 : List Fact} {R : Ending → Prop} (h : ∀ A w, (∀ b, A b → b < w.heap.size) → (∀ f ∈ F0, f.h A w) → Calls P g args.toArray w fun e w' => R e ∧ Below w.heap.size w w') : Cm P g args [] F0 (fun e _ F1 => R e ∧ F1 = []) := by
  intro A w _ _ hA hF
  refine (h A w hA hF).mono ?_
  rintro e w' ⟨hR, hb⟩
  exact ⟨[], [], ⟨hR, rfl⟩, Kp.of_below hb, rfl, fun i x c hx => by simp at hx, fun _ => False, fun _ h => h.elim, fun _ h => h.elim, fun f hf => by simp at hf⟩
theorem lv_idle {g ke kg : Nat} {ca : List PV} {res : List ResultVar} {mu : List MB} {Out : OutT} (hg : CaughtIdle X.P g) (hE : Enters X.P g) (h : Lv X res mu Out .returning T L n F D) : Lv X res mu Out .returning T L n F (cauD g ke kg ca D) := by
  intro a w hr fn hfn
  obtain ⟨A, ρ, h0⟩ := hr.one
  have hd : a.defers = cauD g ke kg ca D ρ := h0.df
  have hp := h _ w hr.popD fn hfn
  rw [hd] at hp ⊢
  have eK : ∀ args w, (callFunc g args).run X.P w = .ok (.enter g args) w := hE
  refine ⟨by simp, .inr ⟨fun hd => by simp [Fence.wide] at hd, _, _, g, #[.pointer (some ⟨ρ ke, 0, none⟩), .func (.func kg) #[] (ca.map (PV.den ρ)).toArray], rfl, by simp [invoke, eK], fun _ _ => trivial, ?_⟩⟩
  · refine CallsDIn.mono (hg 7 _ kg _ w) ?_
    rintro e u' w' ⟨rfl, rfl, rfl⟩
    exact hp
theorem setCell_row {w : World} {b : Nat} {v0 v : Value} {t : TypeId} {fr : Nat × Nat} (h : w.heap[b]? = some (.cells #[v0] t fr)) : w.setCell ⟨b, 0, none⟩ v = w.setRow b #[v] := by
  unfold World.setCell World.setRow
  congr 1
  apply Array.ext_getElem?
  intro i
  rw [Array.getElem?_modify, Array.getElem?_modify]
  split
  · rename_i e
    subst e
    rw [h]
    simp
  · rfl
theorem lv_up {g ke kg : Nat} {ca : List PV} {res : List ResultVar} {mu : List MB} {Out : OutT} {z : Int} {tI tE : TypeId} {ls : List (Nat × List SV × TypeId)} {v0 : SV} {css : List (List Value)} (mk : List Nat) (hg : CaughtUp X.P g tI tE) (hE : Enters X.P g) (hEk : Enters X.P kg)
    (hmu : lentS L mk = some ls) (hnd : mk.Nodup) (ct : ∀ ρ, Cm X.P kg (ca.map (PV.den ρ)) (lentV ρ ls) [] fun e cs F1 => e = .returned (.tuple #[]) ∧ cs = css ∧ F1 = [])
    (hke : alook (backL ls css L) ke = some (.c [v0] tE)) (h : Lv X res mu Out .returning T ((ke, .c [.v (.int .i64 z)] tE) :: backL ls css L) n F D) :
    Lv X res mu Out (.panicking [{ v := .iface tI (.int .i64 z), recovered := false }]) T L n F (cauD g ke kg ca D) := by
  intro a w hr fn hfn
  obtain ⟨A, ρ, h0, hC⟩ := rel_call (X := X) (fi := []) (us := []) (ca := ca) (rk := []) (mk := mk) (ro := []) (F0 := []) hr rfl hmu (by simpa using hnd) (fun ρ => by simpa [argV, lentV] using ct ρ) (by simp) (.inl rfl)
  have hd : a.defers = cauD g ke kg ca D ρ := h0.df
  rw [hd]
  have eK : ∀ args w, (callFunc g args).run X.P w = .ok (.enter g args) w := hE
  refine ⟨by simp, .inr ⟨fun hd => by simp [Fence.wide] at hd, _, _, g, #[.pointer (some ⟨ρ ke, 0, none⟩), .func (.func kg) #[] (ca.map (PV.den ρ)).toArray], rfl, by simp [invoke, eK], fun _ _ => trivial, ?_⟩⟩
  have hC2 : Calls X.P kg (ca.map (PV.den ρ)).toArray w fun e w' => e = .returned (.tuple #[]) ∧ Rel X T (backL ls css L) n F (cauD g ke kg ca D) a w' := by
    refine Calls.mono (by simpa [argV] using hC) ?_
    rintro e w' ⟨cs, F1, _, ⟨rfl, rfl, rfl⟩, hr'⟩
    exact ⟨rfl, by simpa using hr'⟩
  have hb : ∀ w', Rel X T (backL ls css L) n F (cauD g ke kg ca D) a w' → ∀ A ρ', Rel0 X T (backL ls css L) F (cauD g ke kg ca D) A ρ' a w' → ρ' ke = ρ ke := by
    intro w' _ A' ρ' h1
    have e1 := h1.df
    rw [h0.df] at e1
    simp only [cauD, List.cons.injEq, Deferred.mk.injEq] at e1
    have := e1.1.2
    simp at this
    exact this.1.symm
  refine CallsDIn.mono (hg 7 (ρ ke) kg _ z [] w _ (by omega) hEk hC2 ?_) ?_
  · intro w' hr'
    obtain ⟨A', ρ', h1⟩ := hr'.one
    have := h1.lo ke _ hke
    rw [← hb w' hr' A' ρ' h1]
    exact ⟨_, this⟩
  · rintro e u' w' ⟨rfl, rfl, w1, hr1, rfl⟩
    have hr2 : Rel X T ((ke, .c [.v (.int .i64 z)] tE) :: backL ls css L) n F (cauD g ke kg ca D) a (w1.setCell ⟨ρ ke, 0, none⟩ (.int .i64 z)) := by
      refine hr1.setRow hke fun A' ρ' h1 => ?_
      have e1 := hb w1 hr1 A' ρ' h1
      have := h1.lo ke _ hke
      simp only [LC.holds, denL, List.map_cons, List.map_nil] at this
      rw [← e1, setCell_row this]
      rfl
    have hp := h _ _ hr2.popD fn hfn
    rw [hd] at hp
    exact hp
end

end Go.Proofs.Ytnkpmeplapkobaa
