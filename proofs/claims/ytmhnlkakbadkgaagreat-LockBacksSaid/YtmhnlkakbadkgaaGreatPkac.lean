/- Part 3 of the proof of LockBacks: contracts of functions that the law reaches, or the rules by which they are walked. No condition. -/
import Derived.Test.YtmhnlkakbadkgaaGreatPkab
import Derived.RecoverIn
import Derived.Lib.MinMax
import Derived.Laws.Slices
import Derived.Laws.OwnMore
import Derived.Laws.StructEq
namespace Go.Proofs.YtmhnlkakbadkgaaGreat
open Go.RowKit Go.Shelf
section
variable {X : Fx} {ops l : List Oper} {o : Oper} {T : TE} {L : LE} {n : Nat} {F : List Fact} {D : DF} {K : KK} {k : KS} {c : Code}
theorem ojs_defer {cl : Call} {f : Operand} {g : Nat} {fi ca : List PV} {us : List TV} (hr : X.r = none) (ho : o.op = .defer cl) (hd : o.dst = none) (hc : cl.callee = .value f) (hf : calS T f = some (g, fi, ca)) (hus : argS T cl.args.toList = some us)
    (h : k T L n F (fun ρ => { target := .fn (.func g) (ca.map (PV.den ρ)).toArray, args := (fi.map (PV.den ρ) ++ us.map (TV.den ρ)).toArray } :: D ρ)) : OJs X o T L n F D k K := by
  intro Q hQ Φ hΦ a w hr0
  have hrun : ∀ A ρ, Rel0 X T L F D A ρ a w → (execOp a.eval o).run X.P w = .ok (.defer { target := .fn (.func g) (ca.map (PV.den ρ)).toArray, args := (fi.map (PV.den ρ) ++ us.map (TV.den ρ)).toArray }) w := by
    intro A ρ h0
    have e1 := argS_den h0.toVw hus
    have e2 : cl.args.map a.eval = (us.map (TV.den ρ)).toArray := by apply Array.ext'; rw [Array.toList_map]; exact e1
    unfold calS at hf
    split at hf
    · rename_i g' fi' ca' hv
      cases hf
      have e3 := h0.ev hv
      simp only [TV.den, SV.den] at e3
      simp [execOp, ho, resolve, hc, e3, Deferred.ofValue, e2, PV.den, Function.comp_def]
    · rename_i g' fi' ca' hv
      cases hf
      have e3 := h0.ev hv
      simp only [TV.den, SV.den] at e3
      simp [execOp, ho, resolve, hc, e3, Deferred.ofValue, e2]
    · cases hf
  obtain ⟨hkb, ρ0, A, hr1⟩ := hr0
  have h0 := hr1 ρ0 (fun _ _ => rfl)
  refine ⟨fun f' hf' => trivial, ?_⟩
  have hfe : X.fe.round = none := hr
  rw [hfe, Oper.semAt_none, hrun A ρ0 h0]
  show Φ ({ a with defers := _ :: a.defers }.put o.dst undef) w
  rw [hd]
  refine hΦ _ _ _ _ _ h _ _ ⟨hkb, ρ0, A, fun ρ hρ => ?_⟩
  have h1 := hr1 ρ hρ
  refine ⟨⟨h1.tm, h1.lo, h1.a3⟩, h1.sz, ?_, h1.kp, h1.nw, h1.ds, h1.a1, h1.a2, h1.mb⟩
  have e1 := hrun A ρ h1
  rw [hrun A ρ0 h0] at e1
  injection e1 with e1
  injection e1 with e1
  show _ :: a.defers = _
  rw [e1, h1.df]
theorem ojs_panic {x : Operand} {t : TypeId} {v : Value} (ho : o.op = .panic x) (hx : evS T x = some (.o (.v (.iface t v)))) (h : K (.panic [{ v := .iface t v, recovered := false }]) T L n F D) : OJs X o T L n F D k K := by
  intro Q hQ Φ hΦ a w hr
  obtain ⟨A, ρ, h0⟩ := hr.one
  refine Oper.wpIn_of_run (by simp [noDef, ho]) ?_
  have e1 := h0.ev hx
  simp only [TV.den, SV.den] at e1
  have : (execOp a.eval o).run X.P w = .halt (.panic (.iface t v)) w := by
    simp [execOp, ho, e1, Instr.panic]
  rw [this]
  exact hQ _ _ _ _ _ _ h a w hr
def Lv (X : Fx) (res : List ResultVar) (mu : List MB) (Out : OutT) (u : FrameMode) (T : TE) (L : LE) (n : Nat) (F : List Fact) (D : DF) : Prop :=
  ∀ a w, Rel X T L n F D a w → ∀ fn : Func, fn.results.toList = res → LeavesInM Fence.wide 8 X.P fn a.tmps (Res X.w0 X.A0 mu Out) a.defers u w
def endD (X : Fx) (res : List ResultVar) (mu : List MB) (Out : OutT) : KK := fun e T L n F D => match e with
  | .normal => Lv X res mu Out .returning T L n F D
  | .ret => Lv X res mu Out .returning T L n F D
  | .panic ch => Lv X res mu Out (.panicking ch) T L n F D
  | _ => False
theorem lv_ret {res : List ResultVar} {mu : List MB} {Out : OutT} (h : EndR X res mu Out T L n F D) : Lv X res mu Out .returning T L n F D := by
  intro a w hr fn hfn
  obtain ⟨h1, h2⟩ := h a w hr
  obtain ⟨v, h3, h4⟩ := h2 fn hfn
  rw [h1]
  exact ⟨v, h3, h4⟩
theorem cm_ofD {P : Program} {tab : Tab} {ok : tab.Ok P} {g : Nat} {fn : Func} {body : Code} {args : List Value} {mu : List MB} {F0 : List Fact} {Out : OutT} {k : Nat} (us : List TV) (hf : P.funcs[g]? = some fn) (hk : fn.ntmps = k) (hb : fn.body = some body) (hul : Nat.ble us.length k = true)
    (hargs : ∀ ρ : Nm, (∀ i b, (mu.map (·.1))[i]? = some b → ρ i = b) → us.map (TV.den ρ) = args)
    (h : ∀ w0 A0, sx ⟨P, tab, ok, none, 8, k, w0, A0, mu.map (·.1), mu.map (·.1)⟩ body (argT 0 us) (muL 0 mu) mu.length F0 (fun _ => []) (endD ⟨P, tab, ok, none, 8, k, w0, A0, mu.map (·.1), mu.map (·.1)⟩ fn.results.toList mu Out)) : Cm P g args mu F0 Out := by
  intro A w hnd hmu hA hF
  refine (callsIn_wide (n := 8)).1 (callsIn_of_wp_marks hf hb trivial ?_ rfl)
  rw [hk]
  have hk2 : us.length ≤ k := by rwa [Nat.ble_eq] at hul
  refine sx_sound (h w A) _ ?_ _ _ (rel_begin ⟨rfl, rfl, rfl, rfl, rfl⟩ hk2 hnd hmu hA hF hargs)
  intro e T L n F D hK a w' hr
  cases e with
  | normal => exact hK a w' hr fn rfl
  | ret => exact hK a w' hr fn rfl
  | panic ch => exact hK a w' hr fn rfl
  | exit id => exact hK.elim
  | goto l => exact hK.elim
  | outgrown => exact hK.elim
def CaughtIdle (P : Program) (g : FuncId) : Prop := ∀ (n : Nat) (pe : Addr) (K : Nat) (lb : Array Value) (w : World),
  CallsDIn Fence.wide n P g #[.pointer (some pe), .func (.func K) #[] lb] .returning w fun e u' w' => e = .returned (.tuple #[]) ∧ u' = .returning ∧ w' = w
def CaughtUp (P : Program) (g : FuncId) (tI tE : TypeId) : Prop := ∀ (n : Nat) (pe : Nat) (K : Nat) (lb : Array Value) (z : Int) (older : List PanicEntry) (w : World) (R : World → Prop), 1 ≤ n → Enters P K →
  Calls P K lb w (fun e w' => e = .returned (.tuple #[]) ∧ R w') → (∀ w', R w' → ∃ v, w'.heap[pe]? = some (.cells #[v] tE (0, 0))) →
  CallsDIn Fence.wide n P g #[.pointer (some ⟨pe, 0, none⟩), .func (.func K) #[] lb] (.panicking ({ v := .iface tI (.int .i64 z), recovered := false } :: older)) w fun e u' w' =>
    e = .returned (.tuple #[]) ∧ u' = .panicking ({ v := .iface tI (.int .i64 z), recovered := true } :: older) ∧ ∃ w1, R w1 ∧ w' = w1.setCell ⟨pe, 0, none⟩ (.int .i64 z)
def cauD (g ke kg : Nat) (ca : List PV) (D : DF) : DF := fun ρ => { target := .fn (.func g) #[], args := #[.pointer (some ⟨ρ ke, 0, none⟩), .func (.func kg) #[] (ca.map (PV.den ρ)).toArray] } :: D ρ
theorem Rel.popD {d : Nm → Deferred} {a : Act} {w : World} (h : Rel X T L n F (fun ρ => d ρ :: D ρ) a w) : Rel X T L n F D { a with defers := a.defers.tail } w := by
  obtain ⟨hkb, ρ0, A, h0⟩ := h
  refine ⟨hkb, ρ0, A, fun ρ hρ => ?_⟩
  have h1 := h0 ρ hρ
  exact ⟨⟨h1.tm, h1.lo, h1.a3⟩, h1.sz, by show a.defers.tail = _; rw [h1.df]; rfl, h1.kp, h1.nw, h1.ds, h1.a1, h1.a2, h1.mb⟩
theorem ojs_caught {cl : Call} {f x y : Operand} {g ke kg : Nat} {ca : List PV} (hr : X.r = none) (ho : o.op = .defer cl) (hd : o.dst = none) (hc : cl.callee = .value f) (hf : calS T f = some (g, [], [])) (hargs : cl.args.toList = [x, y])
    (hx : evS T x = some (.o (.p ke 0))) (hy : evS T y = some (.o (.f (.func kg) [] ca))) (h : k T L n F (cauD g ke kg ca D)) : OJs X o T L n F D k K :=
  ojs_defer (us := [.o (.p ke 0), .o (.f (.func kg) [] ca)]) hr ho hd hc hf (by rw [hargs]; simp only [argS, hx, hy]) h
theorem ojs_caughtV {cl : Call} {f x y : Operand} {g ke kg : Nat} (hr : X.r = none) (ho : o.op = .defer cl) (hd : o.dst = none) (hc : cl.callee = .value f) (hf : calS T f = some (g, [], [])) (hargs : cl.args.toList = [x, y])
    (hx : evS T x = some (.o (.p ke 0))) (hy : evS T y = some (.o (.v (.func (.func kg) #[] #[])))) (h : k T L n F (cauD g ke kg [] D)) : OJs X o T L n F D k K :=
  ojs_defer (us := [.o (.p ke 0), .o (.v (.func (.func kg) #[] #[]))]) hr ho hd hc hf (by rw [hargs]; simp only [argS, hx, hy]) h
theorem lv_idle {g ke kg : Nat} {ca : List PV} {res : List ResultVar} {mu : List MB} {Out : OutT} (hg : CaughtIdle X.P g) (hE : Enters X.P g) (h : Lv X res mu Out .returning T L n F D) : Lv X res mu Out .returning T L n F (cauD g ke kg ca D) := by
  intro a w hr fn hfn
  obtain ⟨A, ρ, h0⟩ := hr.one
  have hd : a.defers = cauD g ke kg ca D ρ := h0.df
  have hp := h _ w hr.popD fn hfn
  rw [hd] at hp ⊢
  have eK : ∀ args w, (callFunc g args).run X.P w = .ok (.enter g args) w := hE
  refine ⟨by simp, .inr ⟨fun hd => by simp [Fence.wide] at hd, _, _, g, #[.pointer (some ⟨ρ ke, 0, none⟩), .func (.func kg) #[] (ca.map (PV.den ρ)).toArray], rfl, by simp [invoke, eK], fun _ _ => trivial, ?_⟩⟩
  · refine CallsDIn.mono (hg 7 _ kg _ w) ?_
    rintro e u' w' ⟨rfl, rfl, rfl⟩
    exact hp
theorem setCell_row {w : World} {b : Nat} {v0 v : Value} {t : TypeId} {fr : Nat × Nat} (h : w.heap[b]? = some (.cells #[v0] t fr)) : w.setCell ⟨b, 0, none⟩ v = w.setRow b #[v] := by
  unfold World.setCell World.setRow
  congr 1
  apply Array.ext_getElem?
  intro i
  rw [Array.getElem?_modify, Array.getElem?_modify]
  split
  · rename_i e
    subst e
    rw [h]
    simp
  · rfl
theorem lv_up {g ke kg : Nat} {ca : List PV} {res : List ResultVar} {mu : List MB} {Out : OutT} {z : Int} {tI tE : TypeId} {ls : List (Nat × List SV × TypeId)} {v0 : SV} {css : List (List Value)} (mk : List Nat) (hg : CaughtUp X.P g tI tE) (hE : Enters X.P g) (hEk : Enters X.P kg)
    (hmu : lentS L mk = some ls) (hnd : mk.Nodup) (ct : ∀ ρ, Cm X.P kg (ca.map (PV.den ρ)) (lentV ρ ls) [] fun e cs F1 => e = .returned (.tuple #[]) ∧ cs = css ∧ F1 = [])
    (hke : alook (backL ls css L) ke = some (.c [v0] tE)) (h : Lv X res mu Out .returning T ((ke, .c [.v (.int .i64 z)] tE) :: backL ls css L) n F D) :
    Lv X res mu Out (.panicking [{ v := .iface tI (.int .i64 z), recovered := false }]) T L n F (cauD g ke kg ca D) := by
  intro a w hr fn hfn
  obtain ⟨A, ρ, h0, hC⟩ := rel_call (X := X) (fi := []) (us := []) (ca := ca) (rk := []) (mk := mk) (ro := []) (F0 := []) hr rfl hmu (by simpa using hnd) (fun ρ => by simpa [argV, lentV] using ct ρ) (by simp) (.inl rfl)
  have hd : a.defers = cauD g ke kg ca D ρ := h0.df
  rw [hd]
  have eK : ∀ args w, (callFunc g args).run X.P w = .ok (.enter g args) w := hE
  refine ⟨by simp, .inr ⟨fun hd => by simp [Fence.wide] at hd, _, _, g, #[.pointer (some ⟨ρ ke, 0, none⟩), .func (.func kg) #[] (ca.map (PV.den ρ)).toArray], rfl, by simp [invoke, eK], fun _ _ => trivial, ?_⟩⟩
  have hC2 : Calls X.P kg (ca.map (PV.den ρ)).toArray w fun e w' => e = .returned (.tuple #[]) ∧ Rel X T (backL ls css L) n F (cauD g ke kg ca D) a w' := by
    refine Calls.mono (by simpa [argV] using hC) ?_
    rintro e w' ⟨cs, F1, _, ⟨rfl, rfl, rfl⟩, hr'⟩
    exact ⟨rfl, by simpa using hr'⟩
  have hb : ∀ w', Rel X T (backL ls css L) n F (cauD g ke kg ca D) a w' → ∀ A ρ', Rel0 X T (backL ls css L) F (cauD g ke kg ca D) A ρ' a w' → ρ' ke = ρ ke := by
    intro w' _ A' ρ' h1
    have e1 := h1.df
    rw [h0.df] at e1
    simp only [cauD, List.cons.injEq, Deferred.mk.injEq] at e1
    have := e1.1.2
    simp at this
    exact this.1.symm
  refine CallsDIn.mono (hg 7 (ρ ke) kg _ z [] w _ (by omega) hEk hC2 ?_) ?_
  · intro w' hr'
    obtain ⟨A', ρ', h1⟩ := hr'.one
    have := h1.lo ke _ hke
    rw [← hb w' hr' A' ρ' h1]
    exact ⟨_, this⟩
  · rintro e u' w' ⟨rfl, rfl, w1, hr1, rfl⟩
    have hr2 : Rel X T ((ke, .c [.v (.int .i64 z)] tE) :: backL ls css L) n F (cauD g ke kg ca D) a (w1.setCell ⟨ρ ke, 0, none⟩ (.int .i64 z)) := by
      refine hr1.setRow hke fun A' ρ' h1 => ?_
      have e1 := hb w1 hr1 A' ρ' h1
      have := h1.lo ke _ hke
      simp only [LC.holds, denL, List.map_cons, List.map_nil] at this
      rw [← e1, setCell_row this]
      rfl
    have hp := h _ _ hr2.popD fn hfn
    rw [hd] at hp
    exact hp
end
end Go.Proofs.YtmhnlkakbadkgaaGreat
namespace Go.Proofs.YtmhnlkakbadkgaaGreat
open Go.RowKit Go.Shelf
section
variable {X : Fx} {ops l : List Oper} {o : Oper} {T : TE} {L : LE} {n : Nat} {F : List Fact} {D : DF} {K : KK} {k : KS} {c : Code}
theorem endR_weak {res : List ResultVar} {mu : List MB} {Out : OutT} {σ : Sg} (hw : Wk X T L n F D σ) (h : EndR X res mu Out σ.T σ.L σ.n σ.F σ.D) : EndR X res mu Out T L n F D := fun a w hr => h a w (hw a w hr)
theorem lt_all_v {cs : List Value} {t : TypeId} {m : Nat} : (LC.c (cs.map SV.v) t).lt' m = true := by
  simp only [LC.lt', List.all_map, List.all_eq_true]
  intro x _
  rfl
def objC (hs : List Value) (t : TypeId) : LC := .obj (.cells hs.toArray t (0, 0))
theorem Wk.trans {σ τ : Sg} (h : Wk X T L n F D σ) (k : Wk X σ.T σ.L σ.n σ.F σ.D τ) : Wk X T L n F D τ := fun a w hr => k a w (h a w hr)
end
end Go.Proofs.YtmhnlkakbadkgaaGreat
namespace Go.Proofs.YtmhnlkakbadkgaaGreat
open Go.RowKit Go.Shelf
structure Chg (O : Nat → Prop) (V V' : World) : Prop extends Grow V V' where
  keep : ∀ b, b < V.heap.size → ¬ O b → V'.heap[b]? = V.heap[b]?
def Grown (O : Nat → Prop) (V V' : World) : Nat → Prop := fun b => O b ∨ (V.heap.size ≤ b ∧ b < V'.heap.size)
structure Keep (B : Nat → Prop) (V V' : World) : Prop extends Grow V V' where
  keep : ∀ b, b < V.heap.size → B b → V'.heap[b]? = V.heap[b]?
structure It (P : Program) {α : Type} (enc : α → List Value) (xs : List α) where
  n : Nat
  l : Nat
  A : Nat → Prop
  J : Nat → (Nat → Prop) → World → Prop
  Jx : Nat → (Nat → Prop) → World → Prop
  W : World
  hJ : ∀ k O V V', J k O V → Chg O V V' → J k (Grown O V V') V'
  hJx : ∀ k O V V', Jx k O V → Chg O V V' → Jx k (Grown O V V') V'
  hY : ∀ k x O V, xs[k]? = some x → J k O V → W.heap.size ≤ V.heap.size → (∀ b, O b → W.heap.size ≤ b ∧ b < V.heap.size) → YieldAt Fence.wide (n - 1) P l (enc x).toArray V fun e V' =>
    (e = .returned (.bool true) ∧ J (k + 1) O V' ∧ Keep (fun b => A b ∨ O b) V V') ∨ (e = .returned (.bool false) ∧ Jx (k + 1) O V' ∧ Keep O V V')
section
variable {P : Program} {α : Type} {enc : α → List Value} {xs : List α}
def It.post (S : It P enc xs) : Ending → World → Prop := fun e W' => (∃ v, e = .returned v) ∧ ((∃ O, S.J xs.length O W') ∨ ∃ k O, S.Jx k O W' ∧ 0 < k ∧ k ≤ xs.length)
def SeqC (P : Program) (gf : FuncId) (lb : List Value) (F0 : List Fact) (enc : α → List Value) (xs : List α) : Prop :=
  ∀ S : It P enc xs, (∀ b, S.A b → b < S.W.heap.size) → (∀ f ∈ F0, f.h S.A S.W) → S.J 0 (fun _ => False) S.W → CallsIn Fence.wide S.n P gf (#[.func (.yield S.l) #[] #[]] ++ lb.toArray) S.W S.post
def jFact (m : Nat) (J : (Nat → Prop) → World → Prop) (hJ : ∀ O V V', J O V → Chg O V V' → J (Grown O V V') V') : Fact where
  h A w := m ≤ w.heap.size ∧ ∃ O, J O w ∧ (∀ b, O b → m ≤ b ∧ b < w.heap.size) ∧ ∀ b, b < w.heap.size → O b ∨ A b
  ok := by
    rintro A A' w w' hA hw hg ⟨h1, O, h2, h3, h4⟩
    refine ⟨Nat.le_trans h1 hg.size, Grown O w w', hJ O w w' h2 ⟨hg, fun b hb hO => hw b ((h4 b hb).resolve_left hO)⟩, ?_, ?_⟩
    · rintro b (hb | hb)
      · exact ⟨(h3 b hb).1, Nat.lt_of_lt_of_le (h3 b hb).2 hg.size⟩
      · omega
    · intro b hb
      by_cases hlt : b < w.heap.size
      · rcases h4 b hlt with h | h
        · exact .inl (.inl h)
        · exact .inr (hA b h)
      · exact .inl (.inr ⟨by omega, hb⟩)
def It.jF (S : It P enc xs) (k : Nat) : Fact := jFact S.W.heap.size (S.J k) (S.hJ k)
def It.jxF (S : It P enc xs) (k : Nat) : Fact := jFact S.W.heap.size (S.Jx k) (S.hJx k)
def It.inF (S : It P enc xs) (f : Fact) : Fact where
  h A w := (∀ b, S.A b → A b) ∧ f.h S.A w
  ok := fun hA hw hg h => ⟨fun b hb => hA b (h.1 b hb), f.ok (fun _ h => h) (fun b hb => hw b (h.1 b hb)) hg h.2⟩
def It.X (S : It P enc xs) (tab : Tab) (ok : tab.Ok P) (k : Nat) : Fx := ⟨P, tab, ok, none, S.n, k, S.W, fun b => b < S.W.heap.size, List.range S.W.heap.size, []⟩
def LvR (X : Fx) (nn : Nat) (R : Ending → World → Prop) (res : List ResultVar) (u : FrameMode) (T : TE) (L : LE) (n : Nat) (F : List Fact) (D : DF) : Prop :=
  ∀ a w, Rel X T L n F D a w → ∀ fn : Func, fn.results.toList = res → LeavesInM Fence.wide nn X.P fn a.tmps R a.defers u w
theorem lv_of {X : Fx} {res : List ResultVar} {mu : List MB} {Out : OutT} {u : FrameMode} {T : TE} {L : LE} {n : Nat} {F : List Fact} {D : DF} (h : LvR X 8 (Res X.w0 X.A0 mu Out) res u T L n F D) : Lv X res mu Out u T L n F D := h
def It.endK (S : It P enc xs) (X : Fx) (res : List ResultVar) : KK := fun e T L n F D => match e with
  | .normal => LvR X S.n S.post res .returning T L n F D
  | .ret => LvR X S.n S.post res .returning T L n F D
  | _ => False
theorem endS_done {S : It P enc xs} {X : Fx} {res : List ResultVar} {T : TE} {L : LE} {n : Nat} {F : List Fact} {D : DF} {us : List TV} (h : S.jF xs.length ∈ F) (hD : D = fun _ => []) (hres : resS X.tab T L res = some us) : LvR X S.n S.post res .returning T L n F D := by
  intro a w hr fn hfn
  obtain ⟨A, ρ, h0⟩ := hr.one
  rw [h0.df, hD]
  obtain ⟨_, O, h2, _⟩ := h0.a3 _ h
  exact ⟨retV ρ us, results_run h0.toVw (by rw [hfn]; exact hres), ⟨_, rfl⟩, .inl ⟨O, h2⟩⟩
theorem endS_stop {S : It P enc xs} {X : Fx} {res : List ResultVar} {T : TE} {L : LE} {n : Nat} {F : List Fact} {D : DF} {us : List TV} (k : Nat) (h : S.jxF k ∈ F) (hk : 0 < k) (hk2 : k ≤ xs.length) (hD : D = fun _ => []) (hres : resS X.tab T L res = some us) : LvR X S.n S.post res .returning T L n F D := by
  intro a w hr fn hfn
  obtain ⟨A, ρ, h0⟩ := hr.one
  rw [h0.df, hD]
  obtain ⟨_, O, h2, _⟩ := h0.a3 _ h
  exact ⟨retV ρ us, results_run h0.toVw (by rw [hfn]; exact hres), ⟨_, rfl⟩, .inr ⟨k, O, h2, hk, hk2⟩⟩
theorem seq_of {tab : Tab} {ok : tab.Ok P} {gf : Nat} {fn : Func} {body : Code} {lb : List Value} {F0 : List Fact} {k : Nat} (us : List TV) (hf : P.funcs[gf]? = some fn) (hk : fn.ntmps = k) (hb : fn.body = some body) (hul : Nat.ble (us.length + 1) k = true) (hargs : ∀ ρ, us.map (TV.den ρ) = lb)
    (h : ∀ S : It P enc xs, sx (S.X tab ok k) body (argT 0 (.o (.v (.func (.yield S.l) #[] #[])) :: us)) [] 0 (S.jF 0 :: F0.map S.inF) (fun _ => []) (S.endK (S.X tab ok k) fn.results.toList)) : SeqC P gf lb F0 enc xs := by
  intro S hA hF h0
  refine callsIn_of_wp_marks hf hb trivial ?_ rfl
  rw [hk]
  have hk2 : us.length + 1 ≤ k := by rwa [Nat.ble_eq] at hul
  have hll : lb.length = us.length := by rw [← hargs (fun _ => 0)]; simp
  refine sx_sound (h S) _ ?_ _ _ ?_
  · intro e T L n F D hK a w' hr
    cases e with
    | normal => exact hK a w' hr fn rfl
    | ret => exact hK a w' hr fn rfl
    | panic ch => exact hK.elim
    | exit id => exact hK.elim
    | goto l => exact hK.elim
    | outgrown => exact hK.elim
  · refine ⟨fun k e hk => (by cases hk), fun _ => 0, fun b => b < S.W.heap.size, fun ρ _ => ⟨⟨?_, fun k e hk => (by cases hk), ?_⟩, by simp [It.X]; omega, rfl, Kp.refl _ _, fun k e b hk => (by cases hk), fun k k' e e' b hk => (by cases hk), fun b hb => .inl hb, fun b hb => ⟨hb, fun k e hk => (by cases hk)⟩, fun i b hi => (by cases hi)⟩⟩
    · intro t x hx
      obtain ⟨j, rfl, hj⟩ := argT_look hx
      rw [Nat.zero_add]
      have e : (#[Value.func (.yield S.l) #[] #[]] ++ lb.toArray) = ((.o (.v (.func (.yield S.l) #[] #[])) :: us).map (TV.den ρ)).toArray := by
        rw [List.map_cons, hargs ρ]; simp [TV.den, SV.den]
      rw [e, Array.getD_eq_getD_getElem?, Array.getElem?_append_left (by simp; have := (List.getElem?_eq_some_iff.1 hj).1; simpa using this)]
      rw [List.getElem?_toArray, List.getElem?_map, hj]
      rfl
    · intro f hf
      rcases List.mem_cons.1 hf with rfl | hf
      · exact ⟨Nat.le_refl _, _, h0, fun _ h => h.elim, fun b hb => .inr hb⟩
      · obtain ⟨f0, hf0, rfl⟩ := List.mem_map.1 hf
        exact ⟨hA, hF f0 hf0⟩
set_option maxHeartbeats 1000000 in
theorem ojs_yield {S : It P enc xs} {tab : Tab} {ok : tab.Ok P} {kk : Nat} {o : Oper} {T : TE} {L : LE} {n : Nat} {F : List Fact} {D : DF} {kq : KS} {K : KK} {cl : Call} {f : Operand} {us : List TV} {x : α} (k : Nat) (fs : List Fact) (ho : o.op = .call cl) (hc : cl.callee = .value f) (hf : evS T f = some (.o (.v (.func (.yield S.l) #[] #[]))))
    (hus : argS T cl.args.toList = some us) (hx : xs[k]? = some x) (henc : ∀ ρ, us.map (TV.den ρ) = enc x) (hj : S.jF k ∈ F) (hfs : ∀ f ∈ fs, S.inF f ∈ F)
    (h1 : match putS kk o.dst (.o (.v (.bool true))) T with | some T' => kq T' L n (S.jF (k + 1) :: fs.map S.inF) D | none => False)
    (h2 : match putS kk o.dst (.o (.v (.bool false))) T with | some T' => kq T' L n [S.jxF (k + 1)] D | none => False) : OJs (S.X tab ok kk) o T L n F D kq K := by
  intro Q hQ Φ hΦ a w hr
  obtain ⟨hkb, ρ0, A, hr0⟩ := hr
  have h0 := hr0 ρ0 (fun _ _ => rfl)
  obtain ⟨hm, O, hJ, hO, hcov⟩ := h0.a3 _ hj
  obtain ⟨fn', tmps', as', bd', hy, hR⟩ := S.hY k x O w hx hJ hm hO
  have e1 := argS_den h0.toVw hus
  have e2 : cl.args.map a.eval = (enc x).toArray := by apply Array.ext'; rw [Array.toList_map, e1, henc]
  have e3 := h0.ev hf
  simp only [TV.den, SV.den] at e3
  have run : (execOp a.eval o).run P w = .ok (.round S.l fn' tmps' as' bd') w := by
    simp [execOp, ho, resolve, hc, e3, Deferred.ofValue, invoke, e2, hy]
  have own : ∀ k e b, alook L k = some e → e.blk ρ0 k = some b → O b ∧ b < w.heap.size := by
    intro k e b hk hb
    have hlt := LC.lt (h0.lo k e hk) hb
    rcases hcov b hlt with h | h
    · exact ⟨h, hlt⟩
    · exact absurd hb ((h0.a2 b h).2 k e hk)
  have gen : ∀ (V' : World) (Fn : List Fact) (v : Value) (T' : TE), Keep O w V' → putS kk o.dst (.o (.v v)) T = some T' → (∀ f ∈ Fn, f.h (fun b => b < V'.heap.size ∧ ∀ k e, alook L k = some e → e.blk ρ0 k ≠ some b) V') →
      Rel (S.X tab ok kk) T' L n Fn D (a.put o.dst v) V' := by
    intro V' Fn v T' hK hp hFn
    refine Rel.put (T := T) (u := .o (.v v)) ⟨hkb, ρ0, fun b => b < V'.heap.size ∧ ∀ k e, alook L k = some e → e.blk ρ0 k ≠ some b, fun ρ hρ => ?_⟩ (fun _ _ _ => rfl) hp
    have h3 := hr0 ρ hρ
    have bk : ∀ k e b, alook L k = some e → e.blk ρ k = some b → e.blk ρ0 k = some b := fun k e b hk hb => by rw [← LC.blk_congr (hρ k (hkb k e hk))]; exact hb
    refine ⟨⟨h3.tm, fun k e hk => LC.keep (w := w) (h3.lo k e hk) fun b hb => ?_, hFn⟩, h3.sz, h3.df, ⟨hK.os.trans h3.kp.os, hK.tape.trans h3.kp.tape, hK.output.trans h3.kp.output, Nat.le_trans h3.kp.size hK.size, fun b hb hm => ?_⟩, h3.nw, h3.ds, fun b hb => ?_, fun b hb => ⟨hb.1, fun k e hk hbk => hb.2 k e hk (bk k e b hk hbk)⟩, h3.mb⟩
    · obtain ⟨g1, g2⟩ := own k e b hk (bk k e b hk hb)
      exact hK.keep b g2 g1
    · exact absurd (List.mem_range.2 hb) hm
    · by_cases hlt : b < S.W.heap.size
      · exact .inl hlt
      · exact .inr (Nat.le_of_not_lt hlt)
  refine Oper.wpIn_of_run (by simp [noDef, ho]) ?_
  show o.uponIn _ _ _ _ _ _ ((execOp a.eval o).run P w)
  rw [run]
  refine ⟨fun hd => by simp [Fx.fe, Fence.wide] at hd, hR.mono ?_⟩
  rintro e V' (⟨rfl, hJ', hK⟩ | ⟨rfl, hJ', hK⟩)
  · split at h1
    · rename_i T' hp
      refine hΦ _ _ _ _ _ h1 _ V' (gen V' _ _ T' ⟨hK.toGrow, fun b hb hO => hK.keep b hb (.inr hO)⟩ hp ?_)
      intro f hf
      rcases List.mem_cons.1 hf with rfl | hf
      · refine ⟨Nat.le_trans hm hK.size, O, hJ', fun b hb => ⟨(hO b hb).1, Nat.lt_of_lt_of_le (hO b hb).2 hK.size⟩, fun b hb => ?_⟩
        by_cases hob : O b
        · exact .inl hob
        · exact .inr ⟨hb, fun k e hk hbk => hob (own k e b hk hbk).1⟩
      · obtain ⟨f0, hf0, rfl⟩ := List.mem_map.1 hf
        obtain ⟨g1, g2⟩ := h0.a3 _ (hfs f0 hf0)
        refine ⟨fun b hb => ⟨Nat.lt_of_lt_of_le (h0.a2 b (g1 b hb)).1 hK.size, fun k e hk hbk => (h0.a2 b (g1 b hb)).2 k e hk hbk⟩, f0.ok (w := w) (fun _ h => h) (fun b hb => hK.keep b (h0.a2 b (g1 b hb)).1 (.inl hb)) hK.toGrow g2⟩
    · exact h1.elim
  · split at h2
    · rename_i T' hp
      refine hΦ _ _ _ _ _ h2 _ V' (gen V' _ _ T' hK hp ?_)
      intro f hf
      cases List.mem_singleton.1 hf
      refine ⟨Nat.le_trans hm hK.size, O, hJ', fun b hb => ⟨(hO b hb).1, Nat.lt_of_lt_of_le (hO b hb).2 hK.size⟩, fun b hb => ?_⟩
      by_cases hob : O b
      · exact .inl hob
      · exact .inr ⟨hb, fun k e hk hbk => hob (own k e b hk hbk).1⟩
    · exact h2.elim
end
end Go.Proofs.YtmhnlkakbadkgaaGreat
namespace Go.Proofs.YtmhnlkakbadkgaaGreat
open Go.RowKit Go.Shelf
section
variable {X : Fx} {T : TE} {L : LE} {n : Nat} {F : List Fact} {D : DF} {K : KK}
def Rt (X : Fx) (r : Option Nat) (nn : Nat) (w : World) (A : Nat → Prop) (M N : List Nat) : Fx := ⟨X.P, X.tab, X.ok, r, nn, X.k, w, A, M, N⟩
structure Anc (X : Fx) (A : Nat → Prop) (w : World) (M : List Nat) : Prop where
  a : ∀ b, A b → X.A0 b ∨ X.w0.heap.size ≤ b
  m : ∀ b ∈ M, b ∈ X.M ∨ X.w0.heap.size ≤ b
  kp : Kp X.M X.w0 w
theorem Anc.step {A1 A2 : Nat → Prop} {w1 w2 : World} {M1 M2 : List Nat} (h : Anc X A1 w1 M1) (ha : ∀ b, A2 b → A1 b ∨ w1.heap.size ≤ b) (hm : ∀ b ∈ M2, b ∈ M1 ∨ w1.heap.size ≤ b) (hk : Kp M1 w1 w2) : Anc X A2 w2 M2 := by
  refine ⟨fun b hb => ?_, fun b hb => ?_, ?_⟩
  · rcases ha b hb with h1 | h1
    · exact h.a b h1
    · exact .inr (Nat.le_trans h.kp.size h1)
  · rcases hm b hb with h1 | h1
    · exact h.m b h1
    · exact .inr (Nat.le_trans h.kp.size h1)
  · refine ⟨hk.os.trans h.kp.os, hk.tape.trans h.kp.tape, hk.output.trans h.kp.output, Nat.le_trans h.kp.size hk.size, fun b hb hbm => ?_⟩
    rw [hk.keep b (Nat.lt_of_lt_of_le hb h.kp.size) fun h1 => ?_]
    · exact h.kp.keep b hb hbm
    · rcases h.m b h1 with h2 | h2
      · exact hbm h2
      · omega
theorem Anc.z {A : Nat → Prop} {w w' : World} {M : List Nat} {Z : Nat → Prop} (h : Anc X A w M) (hg : Grow w w') (hz : ∀ b, Z b → X.w0.heap.size ≤ b) (hw : ∀ b, b < w.heap.size → ¬ Z b → w'.heap[b]? = w.heap[b]?) : Anc X A w' M :=
  ⟨h.a, h.m, ⟨hg.os.trans h.kp.os, hg.tape.trans h.kp.tape, hg.output.trans h.kp.output, Nat.le_trans h.kp.size hg.size, fun b hb hbm => (hw b (Nat.lt_of_lt_of_le hb h.kp.size) fun hz' => by have := hz b hz'; omega).trans (h.kp.keep b hb hbm)⟩⟩
open Classical in
theorem Rel.root {a : Act} {w w' : World} (h : Rel X T L n F D a w) {n0 : Nat} (hn0 : n0 ≤ n) (Z : Nat → Prop) (hZ : ∀ b, Z b → ¬ X.A0 b ∧ b ∉ X.M ∧ b < X.w0.heap.size) (hg : Grow w w') (hw : ∀ b, b < w.heap.size → ¬ Z b → w'.heap[b]? = w.heap[b]?) (r : Option Nat) (nn : Nat) :
    ∃ (A : Nat → Prop) (M N : List Nat), N.length = n0 ∧ (∀ i b, i < n0 → X.N[i]? = some b → N[i]? = some b) ∧ (∀ b, Z b → ¬ A b ∧ b ∉ M) ∧ (∀ b, A b → X.A0 b ∨ X.w0.heap.size ≤ b) ∧ (∀ b ∈ M, b ∈ X.M ∨ X.w0.heap.size ≤ b) ∧ (∀ b, A b → b < w.heap.size) ∧ (∀ b ∈ M, b < w.heap.size) ∧
      (∀ b, A b → b ∉ M) ∧ (∀ f ∈ F, f.h A w') ∧ Rel (Rt X r nn w' A M N) T L n F D a w' := by
  obtain ⟨hkb, ρ0, A, h0⟩ := h
  have h1 := h0 ρ0 (fun _ _ => rfl)
  have nz : ∀ k e b, alook L k = some e → e.blk ρ0 k = some b → ¬ Z b := by
    intro k e b hk hb hz
    obtain ⟨_, z2, z3⟩ := hZ b hz
    rcases h1.nw k e b hk hb with h | h
    · exact z2 h
    · omega
  have az : ∀ b, A b → ¬ Z b := by
    intro b hb hz
    obtain ⟨z1, _, z3⟩ := hZ b hz
    rcases h1.a1 b hb with h | h
    · exact z1 h
    · omega
  let M := (List.range w.heap.size).filter fun b => decide (∃ k e, alook L k = some e ∧ e.blk ρ0 k = some b)
  have hM : ∀ b, b ∈ M ↔ b < w.heap.size ∧ ∃ k e, alook L k = some e ∧ e.blk ρ0 k = some b := by
    intro b
    simp only [M, List.mem_filter, List.mem_range, decide_eq_true_eq]
  have hF : ∀ f ∈ F, f.h A w' := fun f hf => f.ok (w := w) (fun _ h => h) (fun b hb => hw b (h1.a2 b hb).1 (az b hb)) hg (h1.a3 f hf)
  refine ⟨A, M, (List.range n0).map ρ0, by simp, fun i b hi hb => ?_, fun b hz => ⟨fun hb => az b hb hz, fun hb => ?_⟩, h1.a1, fun b hb => ?_, fun b hb => (h1.a2 b hb).1, fun b hb => ((hM b).1 hb).1, fun b hb hbm => ?_, hF, hkb, ρ0, A, fun ρ hρ => ?_⟩
  · rw [List.getElem?_map, List.getElem?_range hi, Option.map_some, h1.mb i b hb]
  · obtain ⟨_, k, e, hk, hkb'⟩ := (hM b).1 hb
    exact nz k e b hk hkb' hz
  · obtain ⟨_, k, e, hk, hkb'⟩ := (hM b).1 hb
    exact h1.nw k e b hk hkb'
  · obtain ⟨_, k, e, hk, hkb'⟩ := (hM b).1 hbm
    exact (h1.a2 b hb).2 k e hk hkb'
  · have h2 := h0 ρ hρ
    have bk : ∀ k e b, alook L k = some e → e.blk ρ k = some b → e.blk ρ0 k = some b := fun k e b hk hb => by rw [← LC.blk_congr (hρ k (hkb k e hk))]; exact hb
    refine ⟨⟨h2.tm, fun k e hk => LC.keep (w := w) (h2.lo k e hk) fun b hb => hw b (LC.lt (h2.lo k e hk) hb) (nz k e b hk (bk k e b hk hb)), hF⟩, h2.sz, h2.df, Kp.refl _ _, fun k e b hk hb => .inl ((hM b).2 ⟨LC.lt (h2.lo k e hk) hb, k, e, hk, bk k e b hk hb⟩), h2.ds, fun b hb => .inl hb, fun b hb => ⟨Nat.lt_of_lt_of_le (h2.a2 b hb).1 hg.size, (h2.a2 b hb).2⟩, fun i b hi => ?_⟩
    simp only [Rt, List.getElem?_map, Option.map_eq_some_iff] at hi
    obtain ⟨j, hj, rfl⟩ := hi
    obtain ⟨g1, g2⟩ := List.getElem?_eq_some_iff.1 hj
    simp at g1 g2
    subst g2
    exact hρ i (by omega)
def parT : List Nat → List Value → TE → TE
  | p :: ps, v :: vs, T => parT ps vs ((p, .o (.v v)) :: T)
  | _, _, T => T
theorem rel_params0 {w : World} : ∀ (ps : List Nat) (vs : List Value) {T : TE} {a : Act}, (ps.all fun p => Nat.blt p X.k) = true → Rel X T L n F D a w → Rel X (parT ps vs T) L n F D { a with tmps := (ps.zip vs).foldl (fun t (p, v) => t.setIfInBounds p v) a.tmps } w
  | [], vs, T, a, _, h => by cases vs <;> exact h
  | p :: ps, [], T, a, _, h => h
  | p :: ps, v :: vs, T, a, hp, h => by
    simp only [List.all_cons, Bool.and_eq_true] at hp
    have := rel_params0 ps vs (a := a.put (some p) v) hp.2 (h.put (u := .o (.v v)) (d := some p) (T' := (p, .o (.v v)) :: T) (fun _ _ _ => rfl) (by simp only [putS, hp.1, cond_true]))
    exact this
theorem Rel.noD {a : Act} {w : World} (h : Rel X T L n F D a w) : Rel X T L n F (fun _ => []) { tmps := a.tmps, defers := [] } w := by
  obtain ⟨hkb, ρ0, A, h0⟩ := h
  refine ⟨hkb, ρ0, A, fun ρ hρ => ?_⟩
  have h1 := h0 ρ hρ
  exact ⟨⟨h1.tm, h1.lo, h1.a3⟩, h1.sz, rfl, h1.kp, h1.nw, h1.ds, h1.a1, h1.a2, h1.mb⟩
theorem rel_params {a : Act} {w : World} {ps : Array Tmp} {vs : List Value} (hp : (ps.toList.all fun p => Nat.blt p X.k) = true) (h : Rel X T L n F D a w) : Rel X (parT ps.toList vs T) L n F (fun _ => []) { tmps := (ps.zip vs.toArray).foldl (fun t (p, v) => t.setIfInBounds p v) a.tmps, defers := [] } w := by
  have := rel_params0 ps.toList vs hp h.noD
  rw [← Array.foldl_toList, Array.toList_zip]
  exact this
theorem Rel.back {X1 : Fx} {L1 : LE} {F1 : List Fact} {a a2 : Act} {w1 w : World} {n' : Nat} {L' : LE} {F' : List Fact} {T2 : TE} {D2 : DF} (hold : Rel X1 T L1 n F1 D a w1) (hN1 : X1.N.length = n) (hk : X1.k = X.k) (h : Rel X T2 L' n' F' D2 a2 w) (hN : ∀ i b, i < n → X1.N[i]? = some b → X.N[i]? = some b) : Rel X T L' n' F' D a w := by
  obtain ⟨hkb, ρ0, A, h0⟩ := h
  obtain ⟨_, ρ1, A1, h1⟩ := hold
  refine ⟨hkb, ρ0, A, fun ρ hρ => ?_⟩
  have h2 := h0 ρ hρ
  have e : ∀ j, j < n → ρ j = ρ1 j := fun j hj => by
    have g : X1.N[j]? = some (X1.N[j]'(by omega)) := List.getElem?_eq_getElem (by omega)
    rw [h2.mb j _ (hN j _ hj g), (h1 ρ1 (fun _ _ => rfl)).mb j _ g]
  have h3 := h1 ρ e
  exact ⟨⟨h3.tm, h2.lo, h2.a3⟩, by rw [h3.sz, hk], h3.df, h2.kp, h2.nw, h2.ds, h2.a1, h2.a2, h2.mb⟩
def markD (B : Nat) : Deferred := { target := .collected B, args := #[] }
def markL : LC := .obj (.deferred (some []))
theorem Rel.out {r : Option Nat} {nn : Nat} {A : Nat → Prop} {M N : List Nat} {a : Act} {w : World} {B : Nat} (h : Rel (Rt X r nn w A M N) T L n F D a w) (hA : Anc X A w M) (hN : ∀ (i b : Nat), X.N[i]? = some b → N[i]? = some b)
    (hB : w.heap[B]? = some (.deferred (some []))) (hB1 : ¬ A B ∧ B ∉ M) (hB2 : X.w0.heap.size ≤ B) : Rel X T ((n, markL) :: L) (n + 1) F (fun ρ => markD (ρ n) :: D ρ) { a with defers := markD B :: a.defers } w := by
  obtain ⟨hkb, ρ0, A', h0⟩ := h
  have hlt := lt_of_block hB
  refine ⟨fun k e hk => ?_, fun j => if j = n then B else ρ0 j, A', fun ρ hρ => ?_⟩
  · rw [alook_cons] at hk
    split at hk
    · omega
    · have := hkb k e hk; omega
  have hn : ρ n = B := by simpa using hρ n (by omega)
  have hl : ∀ j, j < n → ρ j = ρ0 j := fun j hj => by simpa [Nat.ne_of_lt hj] using hρ j (by omega)
  have h1 := h0 ρ hl
  have nB : ∀ k e, alook L k = some e → e.blk ρ k ≠ some B := by
    intro k e hk hb
    rcases h1.nw k e B hk hb with h | h
    · exact hB1.2 h
    · have : w.heap.size ≤ B := h
      omega
  have aB : ¬ A' B := by
    intro hb
    rcases h1.a1 B hb with h | h
    · exact hB1.1 h
    · have : w.heap.size ≤ B := h
      omega
  have bl : ∀ k e b, alook ((n, markL) :: L) k = some e → e.blk ρ k = some b → (k = n ∧ b = B) ∨ (k ≠ n ∧ alook L k = some e) := by
    intro k e b hk hb
    rw [alook_cons] at hk
    split at hk
    · rename_i ek
      cases hk
      subst ek
      simp only [markL, LC.blk, Option.some.injEq, hn] at hb
      exact .inl ⟨rfl, hb.symm⟩
    · rename_i ek
      exact .inr ⟨ek, hk⟩
  have own : ∀ k e b, alook L k = some e → e.blk ρ k = some b → b ∈ X.M ∨ X.w0.heap.size ≤ b := by
    intro k e b hk hb
    rcases h1.nw k e b hk hb with h | h
    · exact hA.m b h
    · exact .inr (Nat.le_trans hA.kp.size h)
  refine ⟨⟨h1.tm, fun k e hk => ?_, h1.a3⟩, h1.sz, by show markD B :: a.defers = _; rw [hn, h1.df], hA.kp, fun k e b hk hb => ?_, fun k1 k2 f1 f2 b hk1 hk2 hb1 hb2 => ?_, fun b hb => ?_, fun b hb => ⟨(h1.a2 b hb).1, fun k e hk hbk => ?_⟩, fun i b hi => ?_⟩
  · rw [alook_cons] at hk
    split at hk
    · rename_i ek
      cases hk
      subst ek
      show w.heap[ρ k]? = _
      rw [hn]; exact hB
    · exact h1.lo k e hk
  · rcases bl k e b hk hb with ⟨_, rfl⟩ | ⟨_, h2⟩
    · exact .inr hB2
    · exact own k e b h2 hb
  · rcases bl k1 f1 b hk1 hb1 with ⟨rfl, rfl⟩ | ⟨_, h2⟩ <;> rcases bl k2 f2 _ hk2 hb2 with ⟨rfl, h5⟩ | ⟨_, h3⟩
    · rfl
    · exact absurd hb2 (nB k2 f2 h3)
    · subst h5; exact absurd hb1 (nB k1 f1 h2)
    · exact h1.ds k1 k2 f1 f2 b h2 h3 hb1 hb2
  · rcases h1.a1 b hb with h | h
    · exact hA.a b h
    · exact .inr (Nat.le_trans hA.kp.size h)
  · rcases bl k e b hk hbk with ⟨_, rfl⟩ | ⟨_, h2⟩
    · exact aB hb
    · exact (h1.a2 b hb).2 k e h2 hbk
  · exact h1.mb i b (hN i b hi)
end
end Go.Proofs.YtmhnlkakbadkgaaGreat
namespace Go.Proofs.YtmhnlkakbadkgaaGreat
open Go.RowKit Go.Shelf
section
variable {X : Fx} {T : TE} {L : LE} {n : Nat} {F : List Fact} {D : DF} {K : KK}
def stpK (X : Fx) (T : TE) (D : DF) (K : KK) (c : Code) (n : Nat) (L' : LE) (n' : Nat) (F' : List Fact) : Prop :=
  Nat.ble n n' = true ∧ sx X c T ((n', markL) :: L') (n' + 1) F' (fun ρ => markD (ρ n') :: D ρ) K
def rndK (X Xr : Fx) {γ : Type} (p : Nat → γ → Prop) (σ : Nat → γ → LE × List Fact) (T : TE) (D : DF) (K : KK) (n k : Nat) : KK := fun e T' L' n' F' D' => match e with
  | .normal => ∃ g, p (k + 1) g ∧ Wk Xr T' L' n' F' D' ⟨[], (σ (k + 1) g).1, n, (σ (k + 1) g).2, fun _ => []⟩
  | .ret => stpK X T D K .ret n L' n' F'
  | .exit id => stpK X T D K (.exit id) n L' n' F'
  | .goto t => stpK X T D K (.goto t) n L' n' F'
  | _ => False
theorem zroot {XE : Fx} {r : Option Nat} {nn : Nat} {V Wa Wb : World} {A : Nat → Prop} {M N : List Nat} {a : Act} {Z : Nat → Prop} {n0 : Nat} (h : Rel (Rt X r nn V A M N) T L n F D a Wa) (hn : n0 ≤ n) (hanc : Anc XE A V M) (hZ : ∀ b, Z b → (¬ A b ∧ b ∉ M) ∧ b < V.heap.size) (hZE : ∀ b, Z b → XE.w0.heap.size ≤ b)
    (hg : Grow Wa Wb) (hw : ∀ b, b < Wa.heap.size → ¬ Z b → Wb.heap[b]? = Wa.heap[b]?) (r' : Option Nat) (nn' : Nat) :
    ∃ (A2 : Nat → Prop) (M2 N2 : List Nat), N2.length = n0 ∧ (∀ i b, i < n0 → N[i]? = some b → N2[i]? = some b) ∧ Anc XE A2 Wb M2 ∧ (∀ b, Z b → ¬ A2 b ∧ b ∉ M2) ∧ (∀ b, A2 b → b < Wa.heap.size) ∧ (∀ b ∈ M2, b < Wa.heap.size) ∧ Rel (Rt X r' nn' Wb A2 M2 N2) T L n F D a Wb ∧ Kp M V Wa := by
  obtain ⟨A0, ρ0, h0⟩ := h.one
  obtain ⟨A2, M2, N2, h1, h2, h3, h4, h5, h6, h7, _, _, h8⟩ := h.root hn Z (fun b hz => ⟨(hZ b hz).1.1, (hZ b hz).1.2, (hZ b hz).2⟩) hg hw r' nn'
  exact ⟨A2, M2, N2, h1, h2, (hanc.step h4 h5 h0.kp).z hg hZE hw, h3, h6, h7, h8, h0.kp⟩
set_option maxHeartbeats 4000000 in
theorem cjs_range {α γ : Type} {enc : α → List Value} {xs : List α} {gf : Nat} {lb : List Value} {F0 : List Fact} {g : Operand} {ps : Array Tmp} {assign body : Code} (p : Nat → γ → Prop) (σ : Nat → γ → LE × List Fact) (g0 : γ)
    (hseq : SeqC X.P gf lb F0 enc xs) (hr : X.r = none) (hg : evS T g = some (.o (.v (.func (.func gf) #[] lb.toArray)))) (hfn : alook X.tab.fn gf = some ()) (hps : ∀ x, (enc x).length = ps.size) (hpk : (ps.toList.all fun p => Nat.blt p X.k) = true) (hXN : X.N.length ≤ n)
    (h0 : p 0 g0) (hw : Wk X T L n F D ⟨T, (σ 0 g0).1, n, (σ 0 g0).2, D⟩) (hF0 : ∀ f ∈ F0, f ∈ (σ 0 g0).2)
    (hround : ∀ k x gk, xs[k]? = some x → p k gk → ∀ l w0 A0 M N, N.length = n → sx (Rt X (some l) (X.nn - 1 - 1) w0 A0 M N) assign (parT ps.toList (enc x) T) (σ k gk).1 n (σ k gk).2 (fun _ => []) (fun e T' L' n' F' D' => match e with
      | .normal => ∀ w0 A0 M N, N.length = n → Nat.ble n n' = true ∧ sx (Rt X (some l) (X.nn - 1 - 1) w0 A0 M N) body T' L' n' F' D' (rndK X (Rt X (some l) (X.nn - 1 - 1) w0 A0 M N) p σ T D K n k)
      | _ => False))
    (hdone : ∀ gk, p xs.length gk → K .normal T ((n, markL) :: (σ xs.length gk).1) (n + 1) (σ xs.length gk).2 (fun ρ => markD (ρ n) :: D ρ)) : CJs X (.rangeFunc g ps assign body) T L n F D K := by
  intro Q hQ a w hr0
  have eg' : ∀ args w, (callFunc gf args).run X.P w = .ok (.enter gf args) w := tyB_spec (X.ok.fn _ _ hfn)
  have hro : X.fe.round = none := hr
  have hfe : X.fe = Fence.wide := by unfold Fx.fe; rw [hr]; rfl
  rw [hfe]
  have hr1 : Rel X T (σ 0 g0).1 n (σ 0 g0).2 D a w := hw a w hr0
  obtain ⟨A', ρ', hev0⟩ := hr1.one
  have hgv : a.eval g = .func (.func gf) #[] lb.toArray := hev0.ev hg
  have hszw : X.w0.heap.size ≤ w.heap.size := hev0.kp.size
  obtain ⟨Ae, Me, Ne, hNe, hNN, _, hAe, hMe, hAl, hMl, hAM, hFe, hrE⟩ := hr1.root (n0 := n) (Nat.le_refl _) (fun _ => False) (fun _ h => h.elim) (Grow.refl w) (fun _ _ _ => rfl) none X.nn
  have ancE : Anc X Ae w Me := ⟨hAe, hMe, hev0.kp⟩
  refine wpIn_rangeFunc fun fn hfn' => ?_
  obtain ⟨rc, hrc⟩ : ∃ rc : LoopState → Option Code → Loop, rc = fun st pe => { state := st, pending := pe, fn, tmps := a.tmps, params := ps, assign, body, defers := w.heap.size } := ⟨_, rfl⟩
  obtain ⟨V, hV⟩ : ∃ V, V = (w.alloc (.deferred (some []))).alloc (.loop (rc .ready none)) := ⟨_, rfl⟩
  have hs : V.heap.size = w.heap.size + 1 + 1 := by rw [hV]; simp
  have hL : V.heap[w.heap.size + 1]? = some (.loop (rc .ready none)) := by
    rw [hV]; have := World.alloc_heap_new (w.alloc (.deferred (some []))) (.loop (rc .ready none)); rwa [World.size_alloc] at this
  have hD : V.heap[w.heap.size]? = some (.deferred (some [])) := by
    rw [hV]; exact (Below.heap_alloc _ _ _ (by simp)).trans (World.alloc_heap_new w _)
  have hwV : Below w.heap.size w V := by rw [hV]; exact ((Below.refl _ w).alloc (Nat.le_refl _) _).alloc (by simp) _
  obtain ⟨B, hB⟩ : ∃ B, B = w.heap.size := ⟨_, rfl⟩
  rw [← hB] at hL hD hs
  let XE : Fx := Rt X none X.nn w Ae Me Ne
  let Z : (Nat → Prop) → Nat → Prop := fun O b => O b ∨ b = B ∨ b = B + 1
  have hZE : ∀ O : Nat → Prop, (∀ b, O b → B + 2 ≤ b) → ∀ b, Z O b → XE.w0.heap.size ≤ b := by
    intro O hO b hb
    show w.heap.size ≤ b
    rcases hb with h | h | h
    · have := hO b h; omega
    · omega
    · omega
  let Jc : Nat → (Nat → Prop) → World → (TE → LE → Nat → List Fact → DF → Act → Loop → Prop) → Prop := fun k O V cnd => ∃ (A : Nat → Prop) (M N : List Nat) (T' : TE) (L' : LE) (n' : Nat) (F' : List Fact) (D' : DF) (a' : Act) (lp : Loop),
    cnd T' L' n' F' D' a' lp ∧ N.length = n ∧ n ≤ n' ∧ (∀ i b, i < n → Ne[i]? = some b → N[i]? = some b) ∧ Anc XE A V M ∧ (∀ b, Z O b → (¬ A b ∧ b ∉ M) ∧ b < V.heap.size) ∧ Rel (Rt X none X.nn V A M N) T' L' n' F' D' a' V ∧
      V.heap[B + 1]? = some (.loop lp) ∧ V.heap[B]? = some (.deferred (some [])) ∧ ∀ b, O b → B + 2 ≤ b
  have stab : ∀ k O V V' cnd, Jc k O V cnd → Chg O V V' → Jc k (Grown O V V') V' cnd := by
    rintro k O V V' cnd ⟨A, M, N, T', L', n', F', D', a', lp, hc, h1, h2, h3, h4, h5, h6, h7, h8, h9⟩ hch
    have hw' : ∀ b, b < V.heap.size → ¬ Z O b → V'.heap[b]? = V.heap[b]? := fun b hb hz => hch.keep b hb fun ho => hz (.inl ho)
    obtain ⟨A2, M2, N2, g1, g2, g3, g4, g5, g6, g7, _⟩ := zroot (Z := Z O) h6 h2 h4 h5 (hZE O h9) hch.toGrow hw' none X.nn
    refine ⟨A2, M2, N2, T', L', n', F', D', a', lp, hc, g1, h2, fun i b hi hb => g2 i b hi (h3 i b hi hb), g3, fun b hb => ?_, g7, ?_, ?_, ?_⟩
    · rcases hb with (hb | hb) | hb
      · exact ⟨g4 b (.inl hb), Nat.lt_of_lt_of_le (h5 b (.inl hb)).2 hch.size⟩
      · exact ⟨⟨fun h => by have := g5 b h; omega, fun h => by have := g6 b h; omega⟩, hb.2⟩
      · exact ⟨g4 b (.inr hb), Nat.lt_of_lt_of_le (h5 b (.inr hb)).2 hch.size⟩
    · rw [hch.keep _ (lt_of_block h7) fun h => by have := h9 _ h; omega]; exact h7
    · rw [hch.keep _ (lt_of_block h8) fun h => by have := h9 _ h; omega]; exact h8
    · rintro b (hb | hb)
      · exact h9 b hb
      · have := lt_of_block h7; omega
  let cJ : Nat → TE → LE → Nat → List Fact → DF → Act → Loop → Prop := fun k T' L' n' F' D' a' lp => lp = rc .ready none ∧ ∃ gk, p k gk ∧ T = T' ∧ L' = (σ k gk).1 ∧ n = n' ∧ F' = (σ k gk).2 ∧ D = D' ∧ a = a'
  let cX : TE → LE → Nat → List Fact → DF → Act → Loop → Prop := fun T' L' n' F' D' a' lp => ∃ c, lp = rc .done (some c) ∧ stpK X T D K c n L' n' F'
  have bp : ∀ (l : Nat) (V : World) (ob : Obj) (r0 : Loop), l = B + 1 → V.heap[B + 1]? = some (.loop r0) → Grow V (V.putObj l ob) ∧ ∀ (O : Nat → Prop) b, b < V.heap.size → ¬ Z O b → (V.putObj l ob).heap[b]? = V.heap[b]? := by
    rintro l V ob r0 rfl _
    refine ⟨⟨rfl, rfl, rfl, by simp⟩, fun O b hb hz => World.putObj_heap_other fun e => hz (.inr (.inr e))⟩
  have lpn : ∀ st pe, (rc st pe).params = ps := fun st pe => by rw [hrc]
  refine ⟨B + 1, [markD B], V, { target := .fn (.func gf) lb.toArray, args := #[.func (.yield (B + 1)) #[] #[]] }, V, gf, #[.func (.yield (B + 1)) #[] #[]] ++ lb.toArray, V, ?_, ?_, fun _ _ => trivial, ?_, fun h => by simp [Fence.wide] at h, ?_⟩
  · rw [hV, hrc, hB]; exact run_enterLoop_outer _ _ _ _ _
  · simp only [resolve, hgv]
    simp [go_sem]
  · simp [invoke, go_sem, eg']
  -- the end, a jump or none
  have fin : ∀ (k : Nat) (O : Nat → Prop) (W' : World) (T' : TE) (L' : LE) (n' : Nat) (F' : List Fact) (D' : DF) (a' : Act) (lp lp2 : Loop) (A : Nat → Prop) (M N : List Nat), N.length = n → n ≤ n' → (∀ i b, i < n → Ne[i]? = some b → N[i]? = some b) → Anc XE A W' M → (∀ b, Z O b → (¬ A b ∧ b ∉ M) ∧ b < W'.heap.size) →
      Rel (Rt X none X.nn W' A M N) T' L' n' F' D' a' W' → W'.heap[B + 1]? = some (.loop lp) → W'.heap[B]? = some (.deferred (some [])) → (∀ b, O b → B + 2 ≤ b) →
      Rel X T ((n', markL) :: L') (n' + 1) F' (fun ρ => markD (ρ n') :: D ρ) { a with defers := [markD B] ++ a.defers } (W'.putObj (B + 1) (.loop lp2)) := by
    intro k O W' T' L' n' F' D' a' lp lp2 A M N h1 h2 h3 h4 h5 h6 h7 h8 h9
    obtain ⟨hg, hw'⟩ := bp (B + 1) W' (.loop lp2) lp rfl h7
    obtain ⟨A2, M2, N2, g1, g2, g3, g4, g5, g6, g7, _⟩ := zroot (Z := Z O) h6 h2 h4 h5 (hZE O h9) hg (hw' O) none X.nn
    have g8 := Rel.back (X := Rt X none X.nn (W'.putObj (B + 1) (.loop lp2)) A2 M2 N2) hrE hNe rfl g7 fun i b hi hb => g2 i b hi (h3 i b hi hb)
    refine g8.out (ancE.step g3.a g3.m g3.kp) (fun i b hb => ?_) ((World.putObj_heap_other (by omega)).trans h8) (g4 B (.inr (.inl rfl))) (by omega)
    have hi : i < n := Nat.lt_of_lt_of_le (List.getElem?_eq_some_iff.1 hb).1 hXN
    exact g2 i b hi (h3 i b hi (hNN i b hi hb))
  have round : ∀ (k : Nat) (x : α) (O : Nat → Prop) (W1 : World), xs[k]? = some x → Jc k O W1 (cJ k) → V.heap.size ≤ W1.heap.size → (∀ b, O b → V.heap.size ≤ b ∧ b < W1.heap.size) → YieldAt Fence.wide (X.nn - 1 - 1) X.P (B + 1) (enc x).toArray W1 fun e V' =>
      (e = .returned (.bool true) ∧ Jc (k + 1) O V' (cJ (k + 1)) ∧ Keep (fun b => Ae b ∨ O b) W1 V') ∨ (e = .returned (.bool false) ∧ Jc (k + 1) O V' cX ∧ Keep O W1 V') := by
    rintro k x O W1 hx ⟨A, M, N, T', L', n', F', D', a', lp, ⟨rfl, gk, hp, rfl, rfl, rfl, rfl, rfl, rfl⟩, h1, h2, h3, h4, h5, h6, h7, h8, h9⟩ hVs hOb
    have hy := run_yield (P := X.P) (args := (enc x).toArray) h7 (by rw [lpn]; simp [hps x])
    refine ⟨fn, _, assign, body, by rw [hrc] at hy; exact hy, roundIn_of_wpIn hfn' ?_⟩
    obtain ⟨A1, M1, N1, a1, a2, a3, a4, a5, a6, a7, _⟩ := zroot (Z := Z O) h6 h2 h4 h5 (hZE O h9) (Grow.refl W1) (fun _ _ _ => rfl) (some (B + 1)) (X.nn - 1 - 1)
    refine sx_sound (hround k x gk hx hp (B + 1) W1 A1 M1 N1 a1) _ ?_ _ _ (rel_params (X := Rt X (some (B + 1)) (X.nn - 1 - 1) W1 A1 M1 N1) hpk a7)
    intro e Ta La na Fa Da hK aa Wa hra
    cases e with
    | normal =>
      have kp1 : Kp M1 W1 Wa := by obtain ⟨_, _, h⟩ := hra.one; exact h.kp
      have z1 : ∀ b, Z O b → (¬ A1 b ∧ b ∉ M1) ∧ b < W1.heap.size := fun b hb => ⟨a4 b hb, (h5 b hb).2⟩
      have l2a : Wa.heap[B + 1]? = some (.loop (rc .ready none)) := (kp1.keep _ (lt_of_block h7) (a4 _ (.inr (.inr rfl))).2).trans h7
      have l3a : Wa.heap[B]? = some (.deferred (some [])) := (kp1.keep _ (lt_of_block h8) (a4 _ (.inr (.inl rfl))).2).trans h8
      refine ⟨_, run_beginRound l2a (by rw [hrc]), ?_⟩
      obtain ⟨Wb, hWb⟩ : ∃ Wb, Wb = Wa.putObj (B + 1) (.loop { rc .ready none with state := .busy }) := ⟨_, rfl⟩
      rw [← hWb]
      obtain ⟨hg1, hw1⟩ := bp (B + 1) Wa (.loop { rc .ready none with state := .busy }) _ rfl l2a
      rw [← hWb] at hg1 hw1
      obtain ⟨hnb, _⟩ := hK Wb A1 M1 N1 a1
      have hnb : n ≤ na := by simpa using hnb
      obtain ⟨A2, M2, N2, b1, b2, b3, b4, b5, b6, b7, _⟩ := zroot (Z := Z O) hra hnb a3 z1 (hZE O h9) hg1 (hw1 O) (some (B + 1)) (X.nn - 1 - 1)
      have l2b : Wb.heap[B + 1]? = some (.loop { rc .ready none with state := .busy }) := by rw [hWb]; exact World.putObj_heap_same (lt_of_block l2a)
      have l3b : Wb.heap[B]? = some (.deferred (some [])) := by rw [hWb]; exact (World.putObj_heap_other (by omega)).trans l3a
      have z2 : ∀ b, Z O b → (¬ A2 b ∧ b ∉ M2) ∧ b < Wb.heap.size := fun b hb => ⟨b4 b hb, Nat.lt_of_lt_of_le (z1 b hb).2 (Nat.le_trans kp1.size hg1.size)⟩
      refine sx_sound (hK Wb A2 M2 N2 b1).2 _ ?_ _ _ b7
      intro e Tc Lc nc Fc Dc hK2 ac Wc hrc2
      have kp2 : Kp M2 Wb Wc := by obtain ⟨_, _, h⟩ := hrc2.one; exact h.kp
      have l2c : Wc.heap[B + 1]? = some (.loop { rc .ready none with state := .busy }) := (kp2.keep _ (lt_of_block l2b) (b4 _ (.inr (.inr rfl))).2).trans l2b
      have l3c : Wc.heap[B]? = some (.deferred (some [])) := (kp2.keep _ (lt_of_block l3b) (b4 _ (.inr (.inl rfl))).2).trans l3b
      have out : ∀ (jump : Option Code), ∃ Wd, (Instr.endRound (B + 1) jump).run X.P Wc = .ok (.bool jump.isNone) Wd ∧ Wd.heap[B + 1]? = some (.loop (rc (if jump.isNone then .ready else .done) jump)) ∧ Wd.heap[B]? = some (.deferred (some [])) ∧ Grow Wc Wd ∧ (∀ b, b < Wc.heap.size → ¬ Z O b → Wd.heap[b]? = Wc.heap[b]?) ∧ Keep (fun b => Ae b ∨ O b) W1 Wd := by
        intro jump
        have e1 := run_endRound (P := X.P) jump l2c
        rw [hrc] at e1
        obtain ⟨hg2, hw2⟩ := bp (B + 1) Wc (.loop (rc (if jump.isNone then .ready else .done) jump)) _ rfl l2c
        refine ⟨_, by rw [hrc]; exact e1, World.putObj_heap_same (lt_of_block l2c), (World.putObj_heap_other (by omega)).trans l3c, hg2, hw2 O, ⟨⟨?_, ?_, ?_, ?_⟩, ?_⟩⟩
        · exact hg2.os.trans (kp2.os.trans (hg1.os.trans kp1.os))
        · exact hg2.tape.trans (kp2.tape.trans (hg1.tape.trans kp1.tape))
        · exact hg2.output.trans (kp2.output.trans (hg1.output.trans kp1.output))
        · exact Nat.le_trans kp1.size (Nat.le_trans hg1.size (Nat.le_trans kp2.size hg2.size))
        · intro b hb hAO
          have n1 : b ∉ M1 := by
            intro hm
            rcases hAO with h | h
            · rcases a3.m b hm with h' | h'
              · exact hAM b h h'
              · have := hAl b h; have : w.heap.size ≤ b := h'; omega
            · exact (a4 b (.inl h)).2 hm
          have n2 : b ∉ M2 := by
            intro hm
            rcases hAO with h | h
            · rcases b3.m b hm with h' | h'
              · exact hAM b h h'
              · have := hAl b h; have : w.heap.size ≤ b := h'; omega
            · exact (b4 b (.inl h)).2 hm
          have n3 : b ≠ B + 1 := by
            rcases hAO with h | h
            · have := hAl b h; omega
            · have := h9 b h; omega
          have hb2 : b < Wb.heap.size := Nat.lt_of_lt_of_le hb (Nat.le_trans kp1.size hg1.size)
          rw [World.putObj_heap_other n3, kp2.keep b hb2 n2, hWb, World.putObj_heap_other n3, kp1.keep b hb n1]
      have away : ∀ (c : Code), stpK X T D K c n Lc nc Fc → ∃ v w', (Instr.endRound (B + 1) (some c)).run X.P Wc = .ok v w' ∧ ((Ending.returned v = .returned (.bool true) ∧ Jc (k + 1) O w' (cJ (k + 1)) ∧ Keep (fun b => Ae b ∨ O b) W1 w') ∨ (Ending.returned v = .returned (.bool false) ∧ Jc (k + 1) O w' cX ∧ Keep O W1 w')) := by
        intro c hst
        obtain ⟨Wd, c1, c2, c3, c4, c5, c6⟩ := out (some c)
        have hnc : n ≤ nc := by simpa using hst.1
        obtain ⟨A3, M3, N3, d1, d2, d3, d4, d5, d6, d7, _⟩ := zroot (Z := Z O) hrc2 hnc b3 z2 (hZE O h9) c4 c5 none X.nn
        refine ⟨_, _, c1, .inr ⟨rfl, ⟨A3, M3, N3, Tc, Lc, nc, Fc, Dc, ac, _, ⟨c, rfl, hst⟩, d1, hnc, fun i b hi hb => d2 i b hi (b2 i b hi (a2 i b hi (h3 i b hi hb))), d3, fun b hb => ⟨d4 b hb, ?_⟩, d7, c2, c3, h9⟩, ⟨c6.toGrow, fun b hb ho => c6.keep b hb (.inr ho)⟩⟩⟩
        exact Nat.lt_of_lt_of_le (z2 b hb).2 (Nat.le_trans kp2.size c4.size)
      cases e with
      | normal =>
        obtain ⟨g', hp', hwk⟩ := hK2
        obtain ⟨Wd, c1, c2, c3, c4, c5, c6⟩ := out none
        obtain ⟨A3, M3, N3, d1, d2, d3, d4, d5, d6, d7, _⟩ := zroot (Z := Z O) (hwk ac Wc hrc2) (Nat.le_refl n) b3 z2 (hZE O h9) c4 c5 none X.nn
        have d8 := Rel.back (X := Rt X none X.nn Wd A3 M3 N3) h6 h1 rfl d7 fun i b hi hb => d2 i b hi (b2 i b hi (a2 i b hi hb))
        refine ⟨_, _, c1, .inl ⟨rfl, ⟨A3, M3, N3, T, _, n, _, D, a, _, ⟨rfl, g', hp', rfl, rfl, rfl, rfl, rfl, rfl⟩, d1, Nat.le_refl _, fun i b hi hb => d2 i b hi (b2 i b hi (a2 i b hi (h3 i b hi hb))), d3, fun b hb => ⟨d4 b hb, ?_⟩, d8, c2, c3, h9⟩, c6⟩⟩
        exact Nat.lt_of_lt_of_le (z2 b hb).2 (Nat.le_trans kp2.size c4.size)
      | exit id => exact away _ hK2
      | goto l => exact away _ hK2
      | ret => exact away _ hK2
      | panic ch => exact hK2.elim
      | outgrown => exact hK2.elim
    | exit id => exact hK.elim
    | goto l => exact hK.elim
    | ret => exact hK.elim
    | panic ch => exact hK.elim
    | outgrown => exact hK.elim
  have key := hseq { n := X.nn - 1, l := B + 1, A := Ae, J := fun k O V => Jc k O V (cJ k), Jx := fun k O V => Jc k O V cX, W := V, hJ := fun k O V V' h hc => stab k O V V' _ h hc, hJx := fun k O V V' h hc => stab k O V V' _ h hc, hY := round }
    (fun b hb => by have := hAl b hb; show b < V.heap.size; omega) (fun f hf => f.ok (w := w) (fun _ h => h) (fun b hb => hwV.block b (hAl b hb)) ⟨hwV.os, hwV.tape, hwV.output, hwV.size⟩ (hFe f (hF0 f hf))) ?_
  · refine key.mono ?_
    rintro e W' ⟨⟨v, rfl⟩, ⟨O, A, M, N, T', L', n', F', D', a', lp, ⟨rfl, gk, hp, rfl, rfl, rfl, rfl, rfl, rfl⟩, h1, h2, h3, h4, h5, h6, h7, h8, h9⟩ | ⟨k, O, ⟨A, M, N, T', L', n', F', D', a', lp, ⟨c, rfl, hst⟩, h1, h2, h3, h4, h5, h6, h7, h8, h9⟩, hk0, hk1⟩⟩
    · refine ⟨none, _, by have := run_endLoop (P := X.P) h7 (by rw [hrc]; simp); rw [hrc] at this; exact this, ?_⟩
      exact hQ _ _ _ _ _ _ (hdone gk hp) _ _ (fin xs.length O W' _ _ _ _ _ _ _ _ A M N h1 h2 h3 h4 h5 h6 h7 h8 h9)
    · refine ⟨some c, _, by have := run_endLoop (P := X.P) h7 (by rw [hrc]; simp); rw [hrc] at this; exact this, ?_⟩
      show c.wpIn Fence.wide X.nn X.P Q _ _
      rw [← hfe]
      exact sx_sound hst.2 Q hQ _ _ (fin k O W' _ _ _ _ _ _ _ _ A M N h1 h2 h3 h4 h5 h6 h7 h8 h9)
  · obtain ⟨A2, M2, N2, g1, g2, g3, g4, g5, g6, g7, _⟩ := zroot (XE := XE) (Z := fun _ => False) (V := w) (Wa := w) (Wb := V) hrE (Nat.le_refl n) ⟨fun b hb => .inl hb, fun b hb => .inl hb, Kp.refl _ _⟩ (fun _ h => h.elim) (fun _ h => h.elim) ⟨hwV.os, hwV.tape, hwV.output, hwV.size⟩ (fun b hb _ => hwV.block b hb) none X.nn
    refine ⟨A2, M2, N2, T, (σ 0 g0).1, n, (σ 0 g0).2, D, a, _, ⟨rfl, g0, h0, rfl, rfl, rfl, rfl, rfl, rfl⟩, g1, Nat.le_refl _, g2, g3, fun b hb => ?_, g7, hL, hD, fun b h => h.elim⟩
    rcases hb with h | h | h
    · exact h.elim
    · exact ⟨⟨fun h' => by have := g5 b h'; omega, fun h' => by have := g6 b h'; omega⟩, by show b < V.heap.size; omega⟩
    · exact ⟨⟨fun h' => by have := g5 b h'; omega, fun h' => by have := g6 b h'; omega⟩, by show b < V.heap.size; omega⟩
end
end Go.Proofs.YtmhnlkakbadkgaaGreat
namespace Go.Proofs.YtmhnlkakbadkgaaGreat
open Go.RowKit Go.Shelf
section
variable {X : Fx} {T : TE} {L : LE} {n : Nat} {F : List Fact} {D : DF} {K : KK}
theorem Rel.chgOwn {k : Nat} {e e' : LC} {a : Act} {w w' : World} (h : Rel X T L n F D a w) (hk : alook L k = some e) (hb : ∀ ρ, e.blk ρ k = some (ρ k)) (hb' : ∀ ρ, e'.blk ρ k = some (ρ k))
    (hw : ∀ A ρ, Rel0 X T L F D A ρ a w → Grow w w' ∧ (∀ b, b ≠ ρ k → w'.heap[b]? = w.heap[b]?) ∧ e'.holds ρ k w') : Rel X T ((k, e') :: L) n F D a w' := by
  obtain ⟨hkb, ρ0, A, hr0⟩ := h
  refine ⟨fun k' e2 hk' => ?_, ρ0, A, fun ρ hρ => ?_⟩
  · rw [alook_cons] at hk'
    split at hk'
    · rename_i ek; rw [ek]; exact hkb _ _ hk
    · exact hkb _ _ hk'
  have h1 := hr0 ρ hρ
  obtain ⟨hg, old, hold⟩ := hw A ρ h1
  have bl : ∀ k' e2 b, alook ((k, e') :: L) k' = some e2 → e2.blk ρ k' = some b → (k' = k ∧ b = ρ k) ∨ (k' ≠ k ∧ alook L k' = some e2 ∧ b ≠ ρ k) := by
    intro k' e2 b hk' hb2
    rw [alook_cons] at hk'
    split at hk'
    · rename_i ek
      cases hk'
      subst ek
      rw [hb'] at hb2
      exact .inl ⟨rfl, (Option.some.inj hb2).symm⟩
    · rename_i ek
      refine .inr ⟨ek, hk', fun eb => ek ?_⟩
      subst eb
      exact h1.ds k' k e2 _ _ hk' hk hb2 (hb ρ)
  refine ⟨⟨h1.tm, ?_, fun f hf => f.ok (w := w) (fun _ h => h) (fun b hb2 => old b fun e => ?_) hg (h1.a3 f hf)⟩, h1.sz, h1.df, ?_, ?_, ?_, h1.a1, ?_, h1.mb⟩
  · intro k' e2 hk'
    have hk0 := hk'
    rw [alook_cons] at hk'
    split at hk'
    · rename_i ek
      cases hk'
      subst ek
      exact hold
    · rename_i ek
      refine LC.keep (w := w) (h1.lo k' e2 hk') fun b hb2 => old b fun eb => ek ?_
      subst eb
      exact h1.ds k' k e2 _ _ hk' hk hb2 (hb ρ)
  · subst e
    exact (h1.a2 _ hb2).2 k _ hk (hb ρ)
  · refine ⟨hg.os.trans h1.kp.os, hg.tape.trans h1.kp.tape, hg.output.trans h1.kp.output, Nat.le_trans h1.kp.size hg.size, fun b hb2 hm => ?_⟩
    rw [old b ?_]
    · exact h1.kp.keep b hb2 hm
    · intro e
      subst e
      rcases h1.nw k _ _ hk (hb ρ) with h2 | h2
      · exact hm h2
      · omega
  · intro k' e2 b hk' hb2
    rcases bl k' e2 b hk' hb2 with ⟨rfl, rfl⟩ | ⟨_, h3, _⟩
    · exact h1.nw _ _ _ hk (hb ρ)
    · exact h1.nw k' e2 b h3 hb2
  · intro k1 k2 f1 f2 b hk1 hk2 hb1 hb2
    rcases bl k1 f1 b hk1 hb1 with ⟨g1, g2⟩ | ⟨_, h3, h4⟩ <;> rcases bl k2 f2 b hk2 hb2 with ⟨g3, g4⟩ | ⟨_, h3', h4'⟩
    · rw [g1, g3]
    · exact absurd g2 h4'
    · exact absurd g4 h4
    · exact h1.ds k1 k2 f1 f2 b h3 h3' hb1 hb2
  · intro b hb2
    refine ⟨Nat.lt_of_lt_of_le (h1.a2 b hb2).1 hg.size, fun k' e2 hk' hbk => ?_⟩
    rcases bl k' e2 b hk' hbk with ⟨_, rfl⟩ | ⟨_, h3, _⟩
    · exact (h1.a2 _ hb2).2 k _ hk (hb ρ)
    · exact (h1.a2 b hb2).2 k' e2 h3 hbk
theorem lv_mark {nn : Nat} {R : Ending → World → Prop} {res : List ResultVar} {u : FrameMode} {k : Nat} (hu : u ≠ .run) (hk : alook L k = some markL) (h : LvR X nn R res u T ((k, .obj (.deferred none)) :: L) n F D) : LvR X nn R res u T L n F (fun ρ => markD (ρ k) :: D ρ) := by
  intro a w hr fn hfn
  obtain ⟨A, ρ, h0⟩ := hr.one
  have hb : w.heap[ρ k]? = some (.deferred (some [])) := h0.lo k _ hk
  have hpin : ∀ A' ρ', Rel0 X T L F (fun ρ => markD (ρ k) :: D ρ) A' ρ' a w → ρ' k = ρ k := by
    intro A' ρ' h1
    have e := h1.df
    rw [h0.df] at e
    have e := (List.cons.inj e).1
    simp only [markD, Deferred.mk.injEq, Target.collected.injEq] at e
    exact e.1.symm
  have hr2 : Rel X T ((k, .obj (.deferred none)) :: L) n F (fun ρ => markD (ρ k) :: D ρ) a (w.putObj (ρ k) (.deferred none)) := by
    refine hr.chgOwn hk (fun _ => rfl) (fun _ => rfl) fun A' ρ' h1 => ?_
    rw [hpin A' ρ' h1]
    exact ⟨⟨rfl, rfl, rfl, by simp⟩, fun b hb' => World.putObj_heap_other hb', by show (w.putObj (ρ k) _).heap[ρ' k]? = _; rw [hpin A' ρ' h1]; exact World.putObj_heap_same (lt_of_block hb)⟩
  have hp := h _ _ hr2.popD fn hfn
  have hd : a.defers = markD (ρ k) :: D ρ := h0.df
  rw [hd] at hp ⊢
  exact ⟨hu, .inl ⟨ρ k, _, rfl, run_takeDeferred hb, hp⟩⟩
def noGoK (K : KK) : KK := fun e T L n F D => match e with
  | .goto _ => False
  | e => K e T L n F D
theorem cjs_scope {c : Code} (hr : X.r = none) (h : sx X c T L n F D (noGoK K)) : CJs X (.scope c) T L n F D K := by
  intro Q hQ a w hrel
  have hfe : X.fe = Fence.wide := by unfold Fx.fe; rw [hr]; rfl
  have := sx_sound h (Exit.noGoto Q) (fun e T L n F D hK a w hr' => by
    cases e with
    | goto l => exact hK.elim
    | normal => exact hQ _ _ _ _ _ _ hK a w hr'
    | exit id => exact hQ _ _ _ _ _ _ hK a w hr'
    | ret => exact hQ _ _ _ _ _ _ hK a w hr'
    | panic ch => exact hQ _ _ _ _ _ _ hK a w hr'
    | outgrown => exact hQ _ _ _ _ _ _ hK a w hr') a w hrel
  rw [hfe] at this ⊢
  exact wpIn_scope_w this
def turnsS (X : Fx) (c : Code) (K : KK) : Nat → TE → LE → Nat → List Fact → DF → Prop
  | 0, _, _, _, _, _ => False
  | m + 1, T, L, n, F, D => sx X c T L n F D fun e T L n F D => match e with
    | .normal => turnsS X c K m T L n F D
    | e => K e T L n F D
theorem cjs_turns {c : Code} (m : Nat) (h : turnsS X c K m T L n F D) : CJs X (.loop c) T L n F D K := by
  intro Q hQ a w hr
  refine wpIn_loop_rounds m ?_
  induction m generalizing T L n F D a w with
  | zero => exact h.elim
  | succ m ih =>
    refine sx_sound h _ ?_ a w hr
    intro e T L n F D hK a w hr'
    cases e with
    | normal => exact ih hK a w hr'
    | goto l => exact hQ _ _ _ _ _ _ hK a w hr'
    | exit id => exact hQ _ _ _ _ _ _ hK a w hr'
    | ret => exact hQ _ _ _ _ _ _ hK a w hr'
    | panic ch => exact hQ _ _ _ _ _ _ hK a w hr'
    | outgrown => exact hQ _ _ _ _ _ _ hK a w hr'
theorem endR_seal {res : List ResultVar} {mu : List MB} {Out : OutT} {us : List TV} {css : List (List SV)} {ls : List (Nat × List SV × TypeId)} (ks : List Nat) (F1 : List Fact) (hls : lentS L ks = some ls) (hkm : (ks.all fun k => Nat.ble mu.length k) = true) (hres : resS X.tab T L res = some us) (hD : D = fun _ => []) (hM : X.M = mu.map (·.1) ∧ X.N = mu.map (·.1)) (hmu : muS L 0 mu = some css)
    (hout : ∀ ρ, Out (.returned (retV ρ us)) (css.map (denL ρ)) ((lentV ρ ls).map (fun x => blkF x.1 x.2.1 x.2.2) ++ F1)) (hF : ∀ f ∈ F1, f ∈ F) : EndR X res mu Out T L n F D := by
  intro a w hr
  obtain ⟨A, ρ, h0⟩ := hr.one
  refine ⟨by rw [h0.df, hD], fun fn hfn => ⟨retV ρ us, results_run h0.toVw (by rw [hfn]; exact hres), ?_⟩⟩
  obtain ⟨h1, h2⟩ := muS_spec hmu
  obtain ⟨l1, l2⟩ := lentS_spec hls
  have hlk : ∀ x ∈ ls, x.1 ∈ ks := fun x hx => by rw [← l1]; exact List.mem_map.2 ⟨x, hx, rfl⟩
  refine ⟨css.map (denL ρ), _, hout ρ, by rw [← hM.1]; exact h0.kp, by simp [h1], ?_, fun b => A b ∨ ∃ x ∈ ls, ρ x.1 = b, ?_, ?_, ?_⟩
  · intro i x c hx hc
    simp only [List.getElem?_map, Option.map_eq_some_iff] at hc
    obtain ⟨cs, hcs, rfl⟩ := hc
    have h3 := h2 i x cs hx hcs
    rw [Nat.zero_add] at h3
    have h4 := h0.lo i _ h3
    have h5 := h0.mb i x.1 (by rw [hM.2]; simp [hx])
    simp only [LC.holds] at h4
    rw [← h5]; exact h4
  · rintro b (hb | ⟨x, hx, rfl⟩)
    · exact h0.a1 b hb
    · rcases h0.nw x.1 _ _ (l2 x hx) rfl with h | h
      · exfalso
        rw [hM.1] at h
        obtain ⟨y, hy, hyb⟩ := List.mem_map.1 h
        obtain ⟨i, hi⟩ := List.mem_iff_getElem?.1 hy
        have hil := (List.getElem?_eq_some_iff.1 hi).1
        obtain ⟨cs, hcs⟩ : ∃ cs, css[i]? = some cs := ⟨_, List.getElem?_eq_getElem (by rw [h1]; exact hil)⟩
        have h3 := h2 i y cs hi hcs
        rw [Nat.zero_add] at h3
        have h5 := h0.mb i y.1 (by rw [hM.2]; simp [hi])
        have := h0.ds x.1 i _ _ (ρ x.1) (l2 x hx) h3 rfl (by simp only [LC.blk]; rw [h5, hyb])
        have h6 := List.all_eq_true.1 hkm x.1 (hlk x hx)
        simp only [Nat.ble_eq] at h6
        omega
      · exact .inr h
  · rintro b (hb | ⟨x, hx, rfl⟩)
    · exact (h0.a2 b hb).1
    · exact LC.lt (h0.lo x.1 _ (l2 x hx)) rfl
  · intro f hf
    rcases List.mem_append.1 hf with hf | hf
    · obtain ⟨y, hy, rfl⟩ := List.mem_map.1 hf
      obtain ⟨x, hx, rfl⟩ := List.mem_map.1 hy
      exact ⟨.inr ⟨x, hx, rfl⟩, h0.lo x.1 _ (l2 x hx)⟩
    · exact f.ok (fun _ h => .inl h) (fun _ _ => rfl) (Grow.refl _) (h0.a3 f (hF f hf))
theorem ret_ne : FrameMode.returning ≠ .run := by simp
end
end Go.Proofs.YtmhnlkakbadkgaaGreat
namespace Go.Proofs.YtmhnlkakbadkgaaGreat
open Go.RowKit Go.Shelf
section
variable {X : Fx} {o : Oper} {T : TE} {L : LE} {n : Nat} {F : List Fact} {D : DF} {K : KK} {k : KS} {c : Code}
theorem own_at {w : World} {e : TypeId} {sz m cap : Nat} {a : Option Addr} {cells : List Value} (h : w.ownsRow 0 e sz (.slice a m cap) m cells) (hm : 0 < m) : ∃ g cur, a = some ⟨g, 0, none⟩ ∧ w.heap[g]? = some (.cells cur e (0, 0)) ∧ m ≤ cap ∧ cap ≤ maxLen ∧ cur.size = cap * sz ∧ cur.toList.take (m * sz) = cells ∧ cells.length = m * sz := by
  rcases h.2 with ⟨_, h2⟩ | ⟨g, cap', cur, h2, _, h3, h4, h5, h6, h7⟩
  · omega
  · simp only [Value.slice.injEq] at h2
    obtain ⟨rfl, _, rfl⟩ := h2
    exact ⟨g, cur, rfl, h3, h4, h5, h6, h7, h.1⟩
theorem cjs_ownAddr (j : Nat) {a : Option Addr} {e : TypeId} {sz m cap : Nat} {cells : List Value} (hj : alook L j = some (.own (.slice a m cap) e sz m cells)) (hm : 0 < m) (h : ∀ g, a = some ⟨g, 0, none⟩ → CJs X c T L n F D K) : CJs X c T L n F D K := by
  intro Q hQ a' w hr
  obtain ⟨A, ρ, h0⟩ := hr.one
  obtain ⟨g, _, e1, _⟩ := own_at (h0.lo j _ hj) hm
  exact h g e1 Q hQ a' w hr
theorem partV_prefix {kd : Option Nat} {cs pre : List Value} {off : Nat} {v : Value} {m : Nat} (hp : cs.take m = pre) (h : partV kd pre off = some v) : partV kd cs off = some v := by
  subst hp
  cases kd with
  | none =>
    simp only [partV] at h ⊢
    rw [List.getElem?_take] at h
    split at h
    · exact h
    · cases h
  | some q =>
    simp only [partV] at h ⊢
    split at h
    · rename_i hq
      rw [List.length_take] at hq
      rw [if_pos (by omega)]
      cases h
      rw [List.drop_take, List.take_take, Nat.min_eq_left (by omega)]
    · cases h
theorem yd_loadW {t : TypeId} {x : Operand} {j g off m cap : Nat} {e : TypeId} {sz : Nat} {cells : List Value} {kd : Option Nat} {u : TV} (ho : o.op = .load t x) (hk : alook X.tab.kd t = some kd) (hx : evS T x = some (.o (.v (.pointer (some ⟨g, off, none⟩)))))
    (hj : alook L j = some (.own (.slice (some ⟨g, 0, none⟩) m cap) e sz m cells)) (hm : 0 < m) (hp : partS kd (cells.map SV.v) off = some u) : Yd X o T L F u := by
  refine ⟨by simp [noDef, ho], fun A ρ a w h0 => ?_⟩
  obtain ⟨g', cur, e1, h3, h4, h5, h6, h7, h8⟩ := own_at (h0.lo j _ hj) hm
  cases e1
  have h9 := partS_den hp ρ
  rw [map_v_denL] at h9
  have := run_loadVar_part (X.ok.kd _ _ hk) (b := g) (cs := cur.toList) (by simpa using h3) (partV_prefix h7 h9)
  simp [execOp, ho, h0.ev hx, TV.den, SV.den, Instr.loadAt, Instr.sureAddr, this]
theorem ojs_loadW {t : TypeId} {x : Operand} (j : Nat) {g off m cap : Nat} {e : TypeId} {sz : Nat} {cells : List Value} {kd : Option Nat} {u : TV} (hj : alook L j = some (.own (.slice (some ⟨g, 0, none⟩) m cap) e sz m cells)) (ho : o.op = .load t x) (hk : alook X.tab.kd t = some kd) (hx : evS T x = some (.o (.v (.pointer (some ⟨g, off, none⟩)))))
    (hm : 0 < m) (hp : partS kd (cells.map SV.v) off = some u) (h : optK X o T L n F D k u) : OJs X o T L n F D k K := optK_yd (yd_loadW ho hk hx hj hm hp) h
theorem spl_prefix {cs pre xs : List Value} {off m : Nat} (hp : cs.take m = pre) (hl : off + xs.length ≤ pre.length) : (cs.take off ++ xs ++ cs.drop (off + xs.length)).take m = pre.take off ++ xs ++ pre.drop (off + xs.length) := by
  subst hp
  rw [List.length_take] at hl
  have e1 : min m off = off := by omega
  have e2 : min off cs.length = off := by omega
  have e3 : min off m = off := by omega
  rw [List.append_assoc, List.append_assoc, List.take_append, List.take_append, List.take_take, List.length_take, List.take_take, e1, e2, e3, List.take_of_length_le (l := xs) (by omega), List.drop_take]
  rw [show m - off - xs.length = m - (off + xs.length) by omega]
theorem ojs_storeW {t : TypeId} {x y : Operand} (j : Nat) {g off m cap : Nat} {e : TypeId} {sz : Nat} {cells xs : List Value} {kd : Option Nat} {u : TV} (hj : alook L j = some (.own (.slice (some ⟨g, 0, none⟩) m cap) e sz m cells)) (ho : o.op = .store t x y) (hd : o.dst = none) (hk : alook X.tab.kd t = some kd)
    (hx : evS T x = some (.o (.v (.pointer (some ⟨g, off, none⟩))))) (hy : evS T y = some u) (hu : u.cells = some (xs.map SV.v)) (hm : 0 < m) (hxs : xs.length = kd.getD 1) (hl : off + xs.length ≤ cells.length) (h1 : ∀ v ∈ xs, v.oneCell' = true) {cells' : List Value} (he : cells.take off ++ xs ++ cells.drop (off + xs.length) = cells')
    (h : k T ((j, .own (.slice (some ⟨g, 0, none⟩) m cap) e sz m cells') :: L) n F D) : OJs X o T L n F D k K := by
  subst he
  intro Q hQ Φ hΦ a w hr
  obtain ⟨A, ρ, h0⟩ := hr.one
  obtain ⟨g', cur, e1, h3, h4, h5, h6, h7, h8⟩ := own_at (h0.lo j _ hj) hm
  cases e1
  have e2 : (a.eval y).cells = xs.toArray := by
    rw [h0.ev hy]
    have := TV.cells_den (ρ := ρ) hu
    rwa [map_v_denL] at this
  have hcl : cells.length ≤ cur.toList.length := by rw [← h7, List.length_take]; omega
  have run := run_storeVar_spl (X.ok.kd _ _ hk) (b := g) (o := off) (cs := cur.toList) (by simpa using h3) e2 hxs (by omega) h1
  have e3 : (execOp a.eval o).run X.P w = .ok .skip (w.setRow g (cur.toList.take off ++ xs ++ cur.toList.drop (off + xs.length)).toArray) := by
    simp [execOp, ho, Instr.storeAt, h0.ev hx, TV.den, SV.den, Instr.sureAddr, run]
  refine Oper.wpIn_of_run (by simp [noDef, ho]) ?_
  rw [e3]
  have hput : a.put o.dst undef = a := by rw [hd]; rfl
  show Φ (a.put o.dst undef) _
  rw [hput]
  refine hΦ _ _ _ _ _ h _ _ (hr.own hj (v' := .slice (some ⟨g, 0, none⟩) m cap) ⟨?_, .inr ⟨g, cap, (cur.toList.take off ++ xs ++ cur.toList.drop (off + xs.length)).toArray, rfl, Nat.zero_le _, setRow_heap w _ _ _ _ _ h3, h4, h5, ?_, ?_⟩⟩ ⟨rfl, rfl, rfl, by rw [size_setRow]; exact Nat.le_refl _, fun b hb hn => setRow_other w _ _ _ fun e => hn (by rw [e]; rfl)⟩ fun g hg => .inl hg)
  · simp; omega
  · simp at hcl ⊢; omega
  · rw [List.toList_toArray]
    exact spl_prefix h7 hl
theorem ownsRow_base {w : World} {base : Nat} {e : TypeId} {sz m : Nat} {v : Value} {xs : List Value} (h : w.ownsRow base e sz v m xs) : w.ownsRow 0 e sz v m xs ∧ ∀ g, v.ownBlock = some g → base ≤ g := by
  refine ⟨⟨h.1, h.2.imp id fun ⟨g, cap, cur, h1, _, h3⟩ => ⟨g, cap, cur, h1, Nat.zero_le _, h3⟩⟩, fun g hg => ?_⟩
  rcases h.2 with ⟨rfl, _⟩ | ⟨g', cap, cur, rfl, h2, _⟩
  · simp [Value.ownBlock] at hg
  · simp only [Value.ownBlock, Option.some.injEq] at hg
    omega
theorem Rel.newRow {a : Act} {w w' : World} {v : Value} {e : TypeId} {sz m : Nat} {xs : List Value} (h : Rel X T L n F D a w) (hb : Below w.heap.size w w') (hown : w'.ownsRow w.heap.size e sz v m xs) : Rel X T ((n, .own v e sz m xs) :: L) (n + 1) F D a w' := by
  obtain ⟨hkb, ρ0, A, h0⟩ := h
  obtain ⟨hown0, hbase⟩ := ownsRow_base hown
  refine ⟨fun k e hk => ?_, ρ0, A, fun ρ hρ => ?_⟩
  · rw [alook_cons] at hk
    split at hk
    · omega
    · have := hkb k e hk; omega
  have h1 := h0 ρ fun j hj => hρ j (by omega)
  have bl : ∀ k e' b, alook ((n, LC.own v e sz m xs) :: L) k = some e' → e'.blk ρ k = some b → (k = n ∧ w.heap.size ≤ b) ∨ (k ≠ n ∧ alook L k = some e' ∧ b < w.heap.size) := by
    intro k e' b hk hbk
    rw [alook_cons] at hk
    split at hk
    · rename_i ek
      cases hk
      exact .inl ⟨ek, hbase b hbk⟩
    · rename_i ek
      exact .inr ⟨ek, hk, LC.lt (h1.lo k e' hk) hbk⟩
  refine ⟨⟨h1.tm, fun k e' hk => ?_, fun f hf => f.ok (w := w) (fun _ h => h) (fun b hb' => hb.block b (h1.a2 b hb').1) ⟨hb.os, hb.tape, hb.output, hb.size⟩ (h1.a3 f hf)⟩, h1.sz, h1.df, h1.kp.trans ⟨hb.os, hb.tape, hb.output, hb.size, fun b hb' _ => hb.block b hb'⟩, fun k e' b hk hbk => ?_, fun k1 k2 f1 f2 b hk1 hk2 hb1 hb2 => ?_, h1.a1, fun b hA => ⟨Nat.lt_of_lt_of_le (h1.a2 b hA).1 hb.size, fun k e' hk hbk => ?_⟩, h1.mb⟩
  · have hk0 := hk
    rw [alook_cons] at hk
    split at hk
    · cases hk; exact hown0
    · refine LC.keep (w := w) (h1.lo k e' hk) fun b hbk => hb.block b (LC.lt (h1.lo k e' hk) hbk)
  · rcases bl k e' b hk hbk with ⟨_, h2⟩ | ⟨_, h2, _⟩
    · exact .inr (Nat.le_trans h1.kp.size h2)
    · exact h1.nw k e' b h2 hbk
  · rcases bl k1 f1 b hk1 hb1 with ⟨rfl, h2⟩ | ⟨_, h2, h3⟩ <;> rcases bl k2 f2 b hk2 hb2 with ⟨rfl, h5⟩ | ⟨_, h5, h6⟩
    · rfl
    · omega
    · omega
    · exact h1.ds k1 k2 f1 f2 b h2 h5 hb1 hb2
  · have hlt := (h1.a2 b hA).1
    rcases bl k e' b hk hbk with ⟨_, h2⟩ | ⟨_, h2, _⟩
    · omega
    · exact (h1.a2 b hA).2 k e' h2 hbk
def Co (P : Program) (g : FuncId) (args : List Value) (F0 : List Fact) (R : Value → Value) (e : TypeId) (sz m : Nat) (xs : List Value) : Prop :=
  ∀ (A : Nat → Prop) (w : World), (∀ b, A b → b < w.heap.size) → (∀ f ∈ F0, f.h A w) → Calls P g args.toArray w fun en w' => ∃ v, en = .returned (R v) ∧ w'.ownsRow w.heap.size e sz v m xs ∧ Below w.heap.size w w'
theorem ojs_callOwn {c : Call} {f : Operand} {g d : Nat} {fi ca : List PV} {us : List TV} {args : List Value} {F0 : List Fact} {R : Value → Value} {e : TypeId} {sz m : Nat} {xs : List Value}
    (ho : o.op = .call c) (hc : c.callee = .value f) (hf : calS T f = some (g, fi, ca)) (hus : argS T c.args.toList = some us) (hfn : alook X.tab.fn g = some ()) (hargs : ∀ ρ, argV ρ fi us ca = args) (hd : o.dst = some d) (hdk : Nat.blt d X.k = true)
    (ct : Co X.P g args F0 R e sz m xs) (hF0 : ∀ f ∈ F0, f ∈ F)
    (h : ∀ a' c', k ((d, .o (.v (R (.slice a' m c')))) :: T) ((n, .own (.slice a' m c') e sz m xs) :: L) (n + 1) F D) : OJs X o T L n F D k K := by
  intro Q hQ Φ hΦ a w hr
  obtain ⟨A, ρ, h0⟩ := hr.one
  refine Oper.wpIn_of_run (by simp [noDef, ho]) ?_
  rw [call_run h0.toVw ho hc hf hus hfn, hargs ρ]
  refine ⟨fun hd => by simp [Fx.fe, Fence.wide] at hd, ?_⟩
  have hC := ct A w (fun b hb => (h0.a2 b hb).1) fun f hf => h0.a3 f (hF0 f hf)
  refine CallsIn.mono (show CallsIn X.fe (X.nn - 1) X.P g args.toArray w _ from ⟨trivial, ((callsIn_wide (n := X.nn - 1)).2 hC).2⟩) ?_
  rintro en w' ⟨v, rfl, hown, hb⟩
  obtain ⟨a', c', rfl⟩ := own_shape (ownsRow_base hown).1
  refine hΦ _ _ _ _ _ (h a' c') _ w' ((hr.newRow hb hown).put (u := .o (.v (R (.slice a' m c')))) (fun _ _ _ => rfl) ?_)
  simp only [putS, hd, hdk, cond_true]
end
end Go.Proofs.YtmhnlkakbadkgaaGreat
namespace Go.Proofs.YtmhnlkakbadkgaaGreat
open Go.RowKit Go.Shelf
theorem add_zero (a : Addr) : a.add 0 = a := by unfold Addr.add; simp
theorem map_add_zero (a : Option Addr) : a.map (·.add 0) = a := by cases a <;> simp [add_zero]
section
variable {X : Fx} {o : Oper} {T : TE} {L : LE} {n : Nat} {F : List Fact} {D : DF} {K : KK} {k : KS} {c : Code}
theorem elem_of {P : Program} {t e : TypeId} (h : P.underlying t = some (.slice e)) : P.underlying t = some (.slice (P.elem t)) := by
  have : P.elem t = e := by unfold Program.elem; rw [h]
  rw [this]; exact h
theorem ojs_sliceH {t : TypeId} {x y : Operand} {a : Option Addr} {m cap i sz e : Nat} {ki : IntKind} {z : Int} (hz : z = (i : Int)) (hi : i ≤ cap) (ho : o.op = .slice t x none (some y) none) (he : alook X.tab.el t = some (e, sz)) (hx : evS T x = some (.o (.v (.slice a m cap)))) (hy : evS T y = some (.o (.v (.int ki z))))
    (h : optK X o T L n F D k (.o (.v (.slice a i cap)))) : OJs X o T L n F D k K := by
  subst hz
  refine ojs_run (by simp [noDef, ho]) (fun A ρ a' w h0 => ?_) h
  obtain ⟨h1, i', h2, h3⟩ := tyE_spec (X.ok.el _ _ he)
  have h4 := elem_of h1
  have h5 : X.P.elem t = e := by unfold Program.elem; rw [h1]
  have e1 := h0.ev hx
  have e2 := h0.ev hy
  simp only [TV.den, SV.den] at e1 e2
  have hs : (sizeOf (X.P.elem t)).run X.P w = .ok i'.size w := by rw [h5]; simp [sizeOf, typeInfo, h2]
  simp only [execOp, ho, Option.map_none, Option.map_some, e1, e2, Sem.run_bind, run_sliceAt_slice (h := h4), run_slice_h (ht := h4) (h0 := Int.natCast_nonneg i) (h2 := Int.ofNat_le.2 hi), hs, Result.andThen_ok, Sem.run_pure, TV.den, SV.den]
  simp [sliced, map_add_zero]
end
end Go.Proofs.YtmhnlkakbadkgaaGreat
namespace Go.Proofs.YtmhnlkakbadkgaaGreat
open Go.RowKit Go.Shelf
def CoW (P : Program) (g : FuncId) (args : Value → List Value) (F0 : List Fact) (e sz m : Nat) (xs : List Value) (m' : Nat) (xs' : List Value) : Prop :=
  ∀ (A : Nat → Prop) (w : World) (a : Option Addr) (cap : Nat), w.ownsRow 0 e sz (.slice a m cap) m xs → (∀ b, (Value.slice a m cap).ownBlock = some b → ¬ A b) → (∀ b, A b → b < w.heap.size) → (∀ f ∈ F0, f.h A w) →
    Calls P g (args (.slice a m cap)).toArray w fun en w' => ∃ a' c', en = .returned (.slice a' m' c') ∧ w'.ownsRow 0 e sz (.slice a' m' c') m' xs' ∧ (∀ b, (Value.slice a' m' c').ownBlock = some b → (Value.slice a m cap).ownBlock = some b ∨ w.heap.size ≤ b) ∧ Kp (Value.slice a m cap).ownBlock.toList w w'
section
variable {X : Fx} {o : Oper} {T : TE} {L : LE} {n : Nat} {F : List Fact} {D : DF} {K : KK} {k : KS} {c : Code}
theorem ojs_callOwnW {cl : Call} {f : Operand} {g d : Nat} {fi ca : List PV} {us : List TV} {args : Nm → Value → List Value} {F0 : List Fact} {e sz m m' : Nat} {xs xs' : List Value} {a : Option Addr} {cap : Nat} {ro : List (Nat × List SV × TypeId)} (j : Nat) (rk : List Nat) (hj : alook L j = some (.own (.slice a m cap) e sz m xs))
    (ho : o.op = .call cl) (hc : cl.callee = .value f) (hf : calS T f = some (g, fi, ca)) (hus : argS T cl.args.toList = some us) (hfn : alook X.tab.fn g = some ()) (hro : lentS L rk = some ro) (hargs : ∀ ρ, argV ρ fi us ca = args ρ (.slice a m cap)) (hd : o.dst = some d) (hdk : Nat.blt d X.k = true)
    (ct : ∀ ρ, CoW X.P g (args ρ) ((lentV ρ ro).map (fun x => blkF x.1 x.2.1 x.2.2) ++ F0) e sz m xs m' xs') (hF0 : ∀ f ∈ F0, f ∈ F)
    (h : ∀ a' c', k ((d, .o (.v (.slice a' m' c'))) :: T) ((j, .own (.slice a' m' c') e sz m' xs') :: L) n F D) : OJs X o T L n F D k K := by
  intro Q hQ Φ hΦ ac w hr
  obtain ⟨A, ρ, h0⟩ := hr.one
  obtain ⟨hro1, hro2⟩ := lentS_spec hro
  refine Oper.wpIn_of_run (by simp [noDef, ho]) ?_
  rw [call_run h0.toVw ho hc hf hus hfn, hargs ρ]
  refine ⟨fun hd => by simp [Fx.fe, Fence.wide] at hd, ?_⟩
  have hC := ct ρ (fun b => A b ∨ ∃ x ∈ ro, ρ x.1 = b) w a cap (h0.lo j _ hj) (fun b hb hA => ?_) (fun b hb => ?_) fun fa hfa => ?_
  · refine CallsIn.mono (show CallsIn X.fe (X.nn - 1) X.P g (args ρ (.slice a m cap)).toArray w _ from ⟨trivial, ((callsIn_wide (n := X.nn - 1)).2 hC).2⟩) ?_
    rintro en w' ⟨a', c', rfl, hown, far, hk⟩
    refine hΦ _ _ _ _ _ (h a' c') _ w' ((hr.own hj hown ⟨hk.os, hk.tape, hk.output, hk.size, fun b hb hn => hk.keep b hb fun hm => ?_⟩ far).put (u := .o (.v (.slice a' m' c'))) (fun _ _ _ => rfl) ?_)
    · rw [Option.mem_toList] at hm
      exact hn hm.symm
    · simp only [putS, hd, hdk, cond_true]
  · rcases hA with hA | ⟨x, hx, hxb⟩
    · exact (h0.a2 b hA).2 j _ hj hb
    · have := h0.ds x.1 j _ _ b (hro2 x hx) hj (by simp only [LC.blk]; rw [hxb]) hb
      have h2 := hro2 x hx
      rw [this, hj] at h2
      cases h2
  · rcases hb with hb | ⟨x, hx, rfl⟩
    · exact (h0.a2 b hb).1
    · exact LC.lt (h0.lo x.1 _ (hro2 x hx)) rfl
  · rcases List.mem_append.1 hfa with hfa | hfa
    · obtain ⟨x, hx, rfl⟩ := List.mem_map.1 hfa
      obtain ⟨y, hy, rfl⟩ := List.mem_map.1 hx
      exact ⟨.inr ⟨y, hy, rfl⟩, h0.lo y.1 _ (hro2 y hy)⟩
    · exact fa.ok (fun _ h => .inl h) (fun _ _ => rfl) (Grow.refl _) (h0.a3 fa (hF0 fa hfa))
def EndW (X : Fx) (res : List ResultVar) (v0 : Value) (e sz m' : Nat) (xs' : List Value) (T : TE) (L : LE) (n : Nat) (F : List Fact) (D : DF) : Prop :=
  ∀ a w, Rel X T L n F D a w → a.defers = [] ∧ ∀ fn : Func, fn.results.toList = res → ∃ a' c', (results fn a.tmps).run X.P w = .ok (.slice a' m' c') w ∧ w.ownsRow 0 e sz (.slice a' m' c') m' xs' ∧ (∀ b, (Value.slice a' m' c').ownBlock = some b → v0.ownBlock = some b ∨ X.w0.heap.size ≤ b) ∧ Kp v0.ownBlock.toList X.w0 w
def endKW (X : Fx) (res : List ResultVar) (v0 : Value) (e sz m' : Nat) (xs' : List Value) : KK := fun ex T L n F D => match ex with
  | .normal => EndW X res v0 e sz m' xs' T L n F D
  | .ret => EndW X res v0 e sz m' xs' T L n F D
  | _ => False
theorem endW_ok {res : List ResultVar} {v0 : Value} {e sz m' : Nat} {xs' : List Value} {a' : Option Addr} {c' : Nat} (j : Nat) (hj : alook L j = some (.own (.slice a' m' c') e sz m' xs')) (hM : X.M = v0.ownBlock.toList) (hres : resS X.tab T L res = some [.o (.v (.slice a' m' c'))]) (hD : D = fun _ => []) : EndW X res v0 e sz m' xs' T L n F D := by
  intro a w hr
  obtain ⟨A, ρ, h0⟩ := hr.one
  refine ⟨by rw [h0.df, hD], fun fn hfn => ⟨a', c', results_run h0.toVw (by rw [hfn]; exact hres), h0.lo j _ hj, fun b hb => ?_, by rw [← hM]; exact h0.kp⟩⟩
  rcases h0.nw j _ b hj hb with h | h
  · rw [hM, Option.mem_toList] at h; exact .inl h
  · exact .inr h
theorem cow_of {P : Program} {tab : Tab} {ok : tab.Ok P} {g : Nat} {fn : Func} {body : Code} {args : Value → List Value} {F0 : List Fact} {e sz m m' : Nat} {xs xs' : List Value} {k : Nat} (us : Value → List TV) (hf : P.funcs[g]? = some fn) (hk : fn.ntmps = k) (hb : fn.body = some body) (hul : ∀ v, Nat.ble (us v).length k = true)
    (hargs : ∀ v (ρ : Nm), (us v).map (TV.den ρ) = args v)
    (h : ∀ w0 A0 a cap, sx ⟨P, tab, ok, none, 8, k, w0, A0, (Value.slice a m cap).ownBlock.toList, []⟩ body (argT 0 (us (.slice a m cap))) [(0, .own (.slice a m cap) e sz m xs)] 1 F0 (fun _ => []) (endKW ⟨P, tab, ok, none, 8, k, w0, A0, (Value.slice a m cap).ownBlock.toList, []⟩ fn.results.toList (.slice a m cap) e sz m' xs')) : CoW P g args F0 e sz m xs m' xs' := by
  intro A w a cap hown hA hAl hF
  refine (callsIn_wide (n := 8)).1 (callsIn_of_wp hf hb trivial ?_ rfl)
  rw [hk]
  have hk2 : (us (.slice a m cap)).length ≤ k := by have := hul (.slice a m cap); rwa [Nat.ble_eq] at this
  have hll : (args (.slice a m cap)).length = (us (.slice a m cap)).length := by rw [← hargs _ (fun _ => 0)]; simp
  refine sx_sound (h w A a cap) _ ?_ _ _ ?_
  · intro ex T L n F D hK a' w' hr
    cases ex with
    | normal =>
      obtain ⟨h1, h2⟩ := hK a' w' hr
      obtain ⟨a2, c2, h3, h4⟩ := h2 fn rfl
      exact ⟨h1, _, h3, a2, c2, rfl, h4⟩
    | ret =>
      obtain ⟨h1, h2⟩ := hK a' w' hr
      obtain ⟨a2, c2, h3, h4⟩ := h2 fn rfl
      exact ⟨h1, _, h3, a2, c2, rfl, h4⟩
    | panic ch => exact hK.elim
    | exit id => exact hK.elim
    | goto l => exact hK.elim
    | outgrown => exact hK.elim
  · have one : ∀ {k' : Nat} {e' : LC}, alook [(0, LC.own (.slice a m cap) e sz m xs)] k' = some e' → k' = 0 ∧ e' = .own (.slice a m cap) e sz m xs := by
      intro k' e' hk'
      rw [alook_cons] at hk'
      split at hk'
      · rename_i ek; cases hk'; exact ⟨ek, rfl⟩
      · cases hk'
    refine ⟨fun k' e' hk' => by rw [(one hk').1]; exact Nat.zero_lt_one, fun _ => 0, A, fun ρ _ => ⟨⟨?_, fun k' e' hk' => ?_, hF⟩, by simp; omega, rfl, Kp.refl _ _, fun k' e' b hk' hb' => ?_, fun k1 k2 e1 e2 b hk1 hk2 _ _ => by rw [(one hk1).1, (one hk2).1], fun b hb' => .inl hb', fun b hb' => ⟨hAl b hb', fun k' e' hk' hbk => ?_⟩, fun i b hi => (by cases hi)⟩⟩
    · intro t x hx
      obtain ⟨j, rfl, hj⟩ := argT_look hx
      rw [Nat.zero_add, ← hargs _ ρ, Array.getD_eq_getD_getElem?, Array.getElem?_append_left (by simpa using (List.getElem?_eq_some_iff.1 hj).1), List.getElem?_toArray, List.getElem?_map, hj]
      rfl
    · obtain ⟨rfl, rfl⟩ := one hk'
      exact hown
    · obtain ⟨rfl, rfl⟩ := one hk'
      exact .inl (by rw [Option.mem_toList]; exact hb')
    · obtain ⟨rfl, rfl⟩ := one hk'
      exact hA b hbk hb'
end
end Go.Proofs.YtmhnlkakbadkgaaGreat
namespace Go.Proofs.YtmhnlkakbadkgaaGreat
open Go.RowKit Go.Shelf
section
variable {X : Fx} {o : Oper} {T : TE} {L : LE} {n : Nat} {F : List Fact} {D : DF} {K : KK} {k : KS} {c : Code}
theorem Rel.litOwn {t j m : Nat} {e : TypeId} {sz : Nat} {cells : List Value} {a : Act} {w : World} (hr : Rel X T L n F D a w) (ht : alook T t = some (.o (.s j 0 m m))) (hj : alook L j = some (.c (cells.map SV.v) e)) (hl : cells.length = m * sz) (hm : m ≤ maxLen) :
    ∃ g, Rel X ((t, .o (.v (.slice (some ⟨g, 0, none⟩) m m))) :: T) ((j, .own (.slice (some ⟨g, 0, none⟩) m m) e sz m cells) :: L) n F D a w := by
  obtain ⟨hkb, ρ0, A, h0⟩ := hr
  have hjn := hkb j _ hj
  have hb0 := h0 ρ0 (fun _ _ => rfl)
  have hcell : w.heap[ρ0 j]? = some (.cells cells.toArray e (0, 0)) := by
    have := hb0.lo j _ hj
    simp only [LC.holds, map_v_denL] at this
    exact this
  have hblk : ∀ ρ : Nm, (∀ i, i < n → ρ i = ρ0 i) → ∀ k' e', alook ((j, LC.own (.slice (some ⟨ρ0 j, 0, none⟩) m m) e sz m cells) :: L) k' = some e' → ∃ e0, alook L k' = some e0 ∧ e'.blk ρ k' = e0.blk ρ k' := by
    intro ρ hρ k' e' hk'
    rw [alook_cons] at hk'
    split at hk'
    · rename_i ek
      cases hk'
      subst ek
      exact ⟨_, hj, by simp only [LC.blk, Value.ownBlock]; rw [hρ _ hjn]⟩
    · exact ⟨e', hk', rfl⟩
  refine ⟨ρ0 j, fun k' e' hk' => ?_, ρ0, A, fun ρ hρ => ?_⟩
  · obtain ⟨e0, h1, _⟩ := hblk ρ0 (fun _ _ => rfl) k' e' hk'
    exact hkb k' e0 h1
  have h1 := h0 ρ hρ
  refine ⟨⟨fun t' x hx => ?_, fun k' e' hk' => ?_, h1.a3⟩, h1.sz, h1.df, h1.kp, fun k' e' b hk' hb => ?_, fun k1 k2 f1 f2 b hk1 hk2 hb1 hb2 => ?_, h1.a1, fun b hb => ⟨(h1.a2 b hb).1, fun k' e' hk' hbk => ?_⟩, h1.mb⟩
  · rw [alook_cons] at hx
    split at hx
    · rename_i et
      cases hx
      subst et
      rw [h1.tm _ _ ht]
      simp only [TV.den, SV.den]
      rw [hρ _ hjn]
    · exact h1.tm t' x hx
  · rw [alook_cons] at hk'
    split at hk'
    · cases hk'
      refine ⟨hl, .inr ⟨ρ0 j, m, cells.toArray, rfl, Nat.zero_le _, hcell, Nat.le_refl _, hm, by simpa using hl, ?_⟩⟩
      rw [List.toList_toArray, ← hl, List.take_length]
    · exact h1.lo k' e' hk'
  · obtain ⟨e0, g1, g2⟩ := hblk ρ hρ k' e' hk'
    exact h1.nw k' e0 b g1 (by rw [← g2]; exact hb)
  · obtain ⟨e0, g1, g2⟩ := hblk ρ hρ k1 f1 hk1
    obtain ⟨e0', g1', g2'⟩ := hblk ρ hρ k2 f2 hk2
    exact h1.ds k1 k2 e0 e0' b g1 g1' (by rw [← g2]; exact hb1) (by rw [← g2']; exact hb2)
  · obtain ⟨e0, g1, g2⟩ := hblk ρ hρ k' e' hk'
    exact (h1.a2 b hb).2 k' e0 g1 (by rw [← g2]; exact hbk)
theorem ojs_litOwn {j m : Nat} {e : TypeId} (t : Nat) (sz : Nat) (cells : List Value) (ht : alook T t = some (.o (.s j 0 m m))) (hj : alook L j = some (.c (cells.map SV.v) e)) (hl : cells.length = m * sz) (hm : m ≤ maxLen)
    (h : ∀ g, OJs X o ((t, .o (.v (.slice (some ⟨g, 0, none⟩) m m))) :: T) ((j, .own (.slice (some ⟨g, 0, none⟩) m m) e sz m cells) :: L) n F D k K) : OJs X o T L n F D k K := by
  intro Q hQ Φ hΦ a w hr
  obtain ⟨g, hr'⟩ := hr.litOwn ht hj hl hm
  exact h g Q hQ Φ hΦ a w hr'
theorem ojs_makeSlice {t e : TypeId} {x y : Operand} {sz by_ m d : Nat} {zs : List Nat} {ki kj : IntKind} {zz : Int} (hzz : zz = (m : Int)) (ho : o.op = .makeSlice t x y) (hel : alook X.tab.el t = some (e, sz)) (hze : alook X.tab.ze e = some zs) (hby : alook X.tab.by_ e = some by_)
    (hx : evS T x = some (.o (.v (.int ki zz)))) (hy : evS T y = some (.o (.v (.int kj zz)))) (hd : o.dst = some d) (hdk : Nat.blt d X.k = true) (hb : by_ * m ≤ 281474976710656) (h63 : m ≤ maxLen)
    (h : ∀ a', k ((d, .o (.v (.slice a' m m))) :: T) ((n, .own (.slice a' m m) e sz m (madeCells (zs.map zdec).toArray (m * sz)).toList) :: L) (n + 1) F D) : OJs X o T L n F D k K := by
  subst hzz
  intro Q hQ Φ hΦ a w hr
  obtain ⟨A, ρ, h0⟩ := hr.one
  refine Oper.wpIn_of_run (by simp [noDef, ho]) ?_
  obtain ⟨ht, i, hi, his⟩ := tyE_spec (X.ok.el _ _ hel)
  obtain ⟨i', z, hi', hz1, hz2⟩ := tyZ_is (X.ok.ze _ _ hze)
  simp only at ht hi his
  rw [hi] at hi'
  cases hi'
  have hyb : i.bytes = by_ := by
    have := X.ok.by_ _ _ hby
    unfold tyY at this
    rw [hi] at this
    simpa using this
  have hzc : z.cells = (zs.map zdec).toArray := by
    rw [hz2 ρ]
    simp only [denL, zcells, List.map_map]
    rfl
  obtain ⟨w', hrun, hown, hg⟩ := run_make_full (P := X.P) w w.heap.size t e i z sz ht hi hz1 his ki kj m (by rw [hyb]; exact hb) h63 (Nat.le_refl _)
  have e1 := h0.ev hx
  have e2 := h0.ev hy
  simp only [TV.den, SV.den] at e1 e2
  have e3 : (execOp a.eval o).run X.P w = .ok (.value (.slice (some ⟨w.heap.size, 0, none⟩) m m)) w' := by
    simp only [execOp, ho, e1, e2, Sem.run_bind, hrun, Result.andThen_ok, Sem.run_pure]
  rw [e3]
  rw [hzc] at hown
  refine hΦ _ _ _ _ _ (h _) _ w' ((hr.newRow ⟨hg.os, hg.tape, hg.output, hg.size, fun b hb' => hg.block b hb' (by simp)⟩ hown).put (u := .o (.v (.slice (some ⟨w.heap.size, 0, none⟩) m m))) (fun _ _ _ => rfl) ?_)
  simp only [putS, hd, hdk, cond_true]
end
end Go.Proofs.YtmhnlkakbadkgaaGreat
namespace Go.Proofs.YtmhnlkakbadkgaaGreat
open Go.RowKit Go.Shelf
def subTs (n : Nat) (T : TE) : List Nat → TE → Prop
  | _, [] => True
  | seen, (t, u) :: rest => (seen.any (Nat.beq t) = true ∨ (u.lt n = true ∧ alook T t = some u)) ∧ subTs n T (t :: seen) rest
def subLs (n : Nat) (L : LE) : List Nat → LE → Prop
  | _, [] => True
  | seen, (k, e) :: rest => (seen.any (Nat.beq k) = true ∨ (Nat.blt k n = true ∧ e.lt' n = true ∧ alook L k = some e)) ∧ subLs n L (k :: seen) rest
theorem subTs_look {n : Nat} {T : TE} : ∀ {T' : TE} {seen : List Nat} {t : Nat} {u : TV}, subTs n T seen T' → ¬ t ∈ seen → alook T' t = some u → u.lt n = true ∧ alook T t = some u
  | [], _, _, _, _, _, h => by simp [alook] at h
  | (t', u') :: r, seen, t, u, hs, hn, h => by
    rw [alook_cons] at h
    split at h
    · rename_i e
      cases h
      subst e
      rcases hs.1 with h1 | h1
      · obtain ⟨x, hx, he⟩ := List.any_eq_true.1 h1
        rw [Nat.beq_eq] at he
        exact absurd (he ▸ hx) hn
      · exact h1
    · rename_i e
      exact subTs_look hs.2 (fun hm => (List.mem_cons.1 hm).elim e hn) h
theorem subLs_look {n : Nat} {L : LE} : ∀ {L' : LE} {seen : List Nat} {k : Nat} {e : LC}, subLs n L seen L' → ¬ k ∈ seen → alook L' k = some e → k < n ∧ e.lt' n = true ∧ alook L k = some e
  | [], _, _, _, _, _, h => by simp [alook] at h
  | (k', e') :: r, seen, k, e, hs, hn, h => by
    rw [alook_cons] at h
    split at h
    · rename_i ek
      cases h
      subst ek
      rcases hs.1 with h1 | h1
      · obtain ⟨x, hx, he⟩ := List.any_eq_true.1 h1
        rw [Nat.beq_eq] at he
        exact absurd (he ▸ hx) hn
      · exact ⟨by simpa [Nat.blt_eq] using h1.1, h1.2⟩
    · rename_i ek
      exact subLs_look hs.2 (fun hm => (List.mem_cons.1 hm).elim ek hn) h
section
variable {X : Fx} {T : TE} {L : LE} {n : Nat} {F : List Fact} {D : DF} {K : KK} {c : Code}
theorem idN_ren_tv {x : TV} : x.ren idN = x := by
  have hs : ∀ xs : List SV, xs.map (SV.ren idN) = xs := fun xs => by
    conv => rhs; rw [← List.map_id xs]
    exact List.map_congr_left fun x _ => idN_ren_sv
  cases x with
  | o x => exact congrArg TV.o idN_ren_sv
  | t xs => exact congrArg TV.t (hs xs)
  | g xs => exact congrArg TV.g (hs xs)
theorem Rel.weakL {a : Act} {w : World} {T' : TE} {L' : LE} {n' : Nat} {F' : List Fact} {D' : DF} (h : Rel X T L n F D a w) (hT : ∀ t u, alook T' t = some u → u.lt n' = true ∧ alook T t = some u) (hL : ∀ k e, alook L' k = some e → k < n' ∧ e.lt' n' = true ∧ alook L k = some e)
    (hF : ∀ A : Nat → Prop, (∀ f ∈ F, f.h A w) → ∀ f ∈ F', f.h A w) (hD : ∀ ρ ρ' : Nm, (∀ j, j < n' → ρ' j = ρ j) → D' ρ' = D ρ) (hM : X.N.length ≤ n') : Rel X T' L' n' F' D' a w := by
  obtain ⟨hkb, ρ0, A, h0⟩ := h
  refine ⟨fun k e hk => (hL k e hk).1, ρ0, A, fun ρ hρ => ?_⟩
  have h1 := h0 ρ0 (fun _ _ => rfl)
  have bl : ∀ k e b, alook L' k = some e → e.blk ρ k = some b → alook L k = some e ∧ e.blk ρ0 k = some b := by
    intro k e b hk hb
    obtain ⟨h2, h3, h4⟩ := hL k e hk
    exact ⟨h4, by rw [← LC.blk_congr (hρ k h2)]; exact hb⟩
  refine ⟨⟨?_, ?_, hF A h1.a3⟩, h1.sz, by rw [h1.df, hD ρ0 ρ hρ], h1.kp, ?_, ?_, h1.a1, ?_, ?_⟩
  · intro t u hu
    obtain ⟨h2, h3⟩ := hT t u hu
    have := TV.ren_den (r := idN) hρ h2
    rw [idN_ren_tv] at this
    rw [this]
    exact h1.tm t _ h3
  · intro k e hk
    obtain ⟨h2, h3, h4⟩ := hL k e hk
    exact holds_congr hρ h3 h2 (h1.lo _ _ h4)
  · intro k e b hk hb
    obtain ⟨h2, h3⟩ := bl k e b hk hb
    exact h1.nw _ _ b h2 h3
  · intro k k' e e' b hk hk' hb hb'
    obtain ⟨h2, h3⟩ := bl k e b hk hb
    obtain ⟨h2', h3'⟩ := bl k' e' b hk' hb'
    exact h1.ds _ _ _ _ b h2 h2' h3 h3'
  · intro b hb
    refine ⟨(h1.a2 b hb).1, fun k e hk hbk => ?_⟩
    obtain ⟨h2, h3⟩ := bl k e b hk hbk
    exact (h1.a2 b hb).2 _ _ h2 h3
  · intro i b hib
    have hi' := (List.getElem?_eq_some_iff.1 hib).1
    rw [hρ i (by omega)]
    exact h1.mb i b hib
theorem wk_patch {T' : TE} {L' : LE} {n' : Nat} {F' : List Fact} {D' : DF} (hT : subTs n' T [] T') (hL : subLs n' L [] L') (hF : ∀ f ∈ F', f ∈ F) (hM : X.N.length ≤ n') (hD : ∀ ρ ρ' : Nm, (∀ j, j < n' → ρ' j = ρ j) → D' ρ' = D ρ) : Wk X T L n F D ⟨T', L', n', F', D'⟩ :=
  fun _ _ hr => hr.weakL (fun _ _ h => subTs_look hT (by simp) h) (fun _ _ h => subLs_look hL (by simp) h) (fun _ h f hf => h f (hF f hf)) hD hM
theorem D_nil {n' : Nat} : ∀ ρ ρ' : Nm, (∀ j, j < n' → ρ' j = ρ j) → (fun _ => [] : DF) ρ' = (fun _ => [] : DF) ρ := fun _ _ _ => rfl
theorem cjs_loopP {γ : Type} (p : γ → Prop) (PT : γ → TE) (PL : γ → LE) (PF : γ → List Fact) (μ : γ → Nat) (g0 : γ) (h0 : p g0) (hw : Wk X T L n F D ⟨PT g0 ++ T, PL g0 ++ L, n, PF g0 ++ F, D⟩)
    (hr : ∀ g, p g → sx X c (PT g ++ T) (PL g ++ L) n (PF g ++ F) D (loopK X p (fun g => ⟨PT g ++ T, PL g ++ L, n, PF g ++ F, D⟩) μ g K)) : CJs X (.loop c) T L n F D K :=
  cjs_loop p (fun g => ⟨PT g ++ T, PL g ++ L, n, PF g ++ F, D⟩) μ g0 h0 hw hr
theorem yd_build {o : Oper} {t : TypeId} {parts : Array (Nat × Operand)} {zs : List Nat} {fs : List (Nat × Nat)} {cs : List SV} (ho : o.op = .build t parts) (hz : alook X.tab.ze t = some zs) (hfs : alook X.tab.fd t = some fs) (hcs : fillS X.tab T fs (zcells zs) parts.toList = some cs) : Yd X o T L F (.g cs) := by
  refine ⟨by simp [noDef, ho], fun A ρ a w h0 => ?_⟩
  obtain ⟨i, z, hi, hz1, hz2⟩ := tyZ_is (X.ok.ze _ _ hz)
  have hF := X.ok.fd _ _ hfs
  unfold tyF at hF
  split at hF
  · rename_i fl hfl
    split at hF
    · rename_i hall
      cases hF
      obtain ⟨places, hp1, hp2⟩ := places_of _ hall
      have hfill := fillS_den h0 (place := (places.toArray[·]?)) (fun i p hp kd hkd => by
        simp only [List.getElem?_map, Option.map_eq_some_iff] at hp
        obtain ⟨fd, hfd, rfl⟩ := hp
        simpa using hp2 i fd kd hfd hkd) hcs
      have hb : X.P.built t (parts.map fun (i, x) => (i, a.eval x)).toList = some (denL ρ cs).toArray := by
        unfold Program.built
        simp only [hi, hfl, hz1, hp1, hz2 ρ]
        rw [Array.toList_map]
        exact hfill
      simp only [execOp, ho, Sem.run_bind, run_build w t _ _ hb, Result.andThen_ok, Sem.run_pure, TV.den]
    · cases hF
  · cases hF
def isBl (P : Program) (t : TypeId) : Bool := match P.underlying t with | some .bool => true | _ => false
theorem isBl_is {P : Program} {t : TypeId} (h : isBl P t = true) : P.underlying t = some .bool := by
  unfold isBl at h
  split at h
  · assumption
  · cases h
theorem yd_boolNe {o : Oper} {t t2 : TypeId} {x y : Operand} {p q r : Bool} (ht : isBl X.P t = true) (hr : (p != q) = r) (ho : o.op = .binOp .neq t x y t2) (hx : evS T x = some (.o (.v (.bool p)))) (hy : evS T y = some (.o (.v (.bool q)))) : Yd X o T L F (.o (.v (.bool r))) := by
  subst hr
  refine ⟨by simp [noDef, ho], fun A ρ a w h0 => ?_⟩
  have e1 := h0.ev hx
  have e2 := h0.ev hy
  simp only [TV.den, SV.den] at e1 e2
  have hgd : (eqGuard .neq t x y (.bool p) (.bool q)).run X.P w = .ok () w := by
    unfold eqGuard
    simp
  simp only [execOp, ho, e1, e2, Sem.run_bind, hgd, Result.andThen_ok, TV.den, SV.den]
  have hu := isBl_is ht
  have hq : (Op.equal t (.bool p) (.bool q)).run X.P w = .ok (p == q) w := run_equalIn_bool' w 9999 t p q hu
  cases p <;> cases q <;> simp [binOp, hq]
theorem yd_boolEq {o : Oper} {t t2 : TypeId} {x y : Operand} {p q r : Bool} (ht : isBl X.P t = true) (hr : (p == q) = r) (ho : o.op = .binOp .eql t x y t2) (hx : evS T x = some (.o (.v (.bool p)))) (hy : evS T y = some (.o (.v (.bool q)))) : Yd X o T L F (.o (.v (.bool r))) := by
  subst hr
  refine ⟨by simp [noDef, ho], fun A ρ a w h0 => ?_⟩
  have e1 := h0.ev hx
  have e2 := h0.ev hy
  simp only [TV.den, SV.den] at e1 e2
  have hgd : (eqGuard .eql t x y (.bool p) (.bool q)).run X.P w = .ok () w := by
    unfold eqGuard
    simp
  simp only [execOp, ho, e1, e2, Sem.run_bind, hgd, Result.andThen_ok, TV.den, SV.den]
  have hu := isBl_is ht
  have hq : (Op.equal t (.bool p) (.bool q)).run X.P w = .ok (p == q) w := run_equalIn_bool' w 9999 t p q hu
  cases p <;> cases q <;> simp [binOp, hq]
theorem slF_take {α : Type} {enc : α → List Value} {k : Nat} {a : Option Addr} {m cap : Nat} {xs ys : List α} {A : Nat → Prop} {w : World} (h : (slF enc k (.slice a m cap) (xs ++ ys)).h A w) : (slF enc k (.slice a xs.length cap) xs).h A w := by
  obtain ⟨a', c', h1, h2, h3⟩ := h
  cases h1
  refine ⟨a, cap, rfl, ⟨?_, h2.2⟩, ?_⟩
  · have := h2.1; rw [List.length_append] at this; omega
  · rcases h3 with h3 | ⟨b, off, h4, h5, h6⟩
    · exact .inl (List.append_eq_nil_iff.1 h3).1
    · exact .inr ⟨b, off, h4, h5, fun i x hx j u hu => h6 i x (by rw [List.getElem?_append_left (List.getElem?_eq_some_iff.1 hx).1]; exact hx) j u hu⟩
end
end Go.Proofs.YtmhnlkakbadkgaaGreat
