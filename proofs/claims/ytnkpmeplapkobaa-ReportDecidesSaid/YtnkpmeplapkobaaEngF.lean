/- A symbolic run of a function's body: the body's end, loops, reads of facts, sums. No program is in sight. -/
import Derived.Test.YtnkpmeplapkobaaEngE
namespace Go.Proofs.Ytnkpmeplapkobaa
open Go.RowKit Go.Shelf

section
variable {X : Fx} {ops l : List Oper} {o : Oper} {T : TE} {L : LE} {n : Nat} {F : List Fact} {D : DF} {K : KK} {c : Code}

/-! ### The end -/
def resS (tab : Tab) (T : TE) (L : LE) : List ResultVar → Option (List TV)
  | [] => some []
  | .tmp t :: r => match alook T t with
    | some u => match resS tab T L r with
      | some us => some (u :: us)
      | none => none
    | none => none
  | .cell a t :: r => match alook tab.kd t, alook T a with
    | some kd, some (.o (.p k o)) => match alook L k with
      | some (.c cells _) => match partS kd cells o with
        | some u => match resS tab T L r with
          | some us => some (u :: us)
          | none => none
        | none => none
      | _ => none
    | _, _ => none
def retV (ρ : Nm) : List TV → Value
  | [u] => u.den ρ
  | us => .tuple (us.map (TV.den ρ)).toArray
def resOne (tmps : Array Value) : ResultVar → Sem Value
  | .tmp t => pure (tmps.getD t undef)
  | .cell a t => do loadVar t (← asAddr (tmps.getD a undef))
theorem results_eq (fn : Func) (tmps : Array Value) : results fn tmps = (do
    let vs ← fn.results.mapM (resOne tmps)
    pure (if h : vs.size = 1 then vs[0] else .tuple vs)) := by
  unfold results
  congr 2
theorem resS_run {A : Nat → Prop} {ρ : Nm} {a : Act} {w : World} (h0 : Vw T L F A ρ a w) : ∀ {rs : List ResultVar} {us : List TV}, resS X.tab T L rs = some us →
    (rs.mapM (resOne a.tmps)).run X.P w = .ok (us.map (TV.den ρ)) w
  | [], us, h => by cases h; rfl
  | .tmp t :: r, us, h => by
    unfold resS at h
    split at h
    · rename_i u hu
      split at h
      · rename_i us' hus
        cases h
        have := resS_run h0 hus
        simp only [List.mapM_cons, resOne, Sem.run_bind, Sem.run_pure, Result.andThen_ok, this, List.map_cons, h0.tm t u hu]
      · cases h
    · cases h
  | .cell b t :: r, us, h => by
    unfold resS at h
    split at h
    · rename_i kd k o hkd hb
      split at h
      · rename_i cells ct hL
        split at h
        · rename_i u hu
          split at h
          · rename_i us' hus
            cases h
            have h1 := resS_run h0 hus
            have h2 := run_loadVar_part (X.ok.kd _ _ hkd) (h0.lo k _ hL) (partS_den hu ρ)
            have h3 := h0.tm b _ hb
            simp only [TV.den, SV.den] at h3
            have h4 : (resOne a.tmps (.cell b t)).run X.P w = .ok (u.den ρ) w := by
              simp only [resOne, Sem.run_bind, h3, asAddr, Sem.run_pure, Result.andThen_ok, h2]
            simp only [List.mapM_cons, Sem.run_bind, h4, Sem.run_pure, Result.andThen_ok, h1, List.map_cons]
          · cases h
        · cases h
      · cases h
    · cases h
theorem results_run {A : Nat → Prop} {ρ : Nm} {a : Act} {w : World} (h0 : Vw T L F A ρ a w) {fn : Func} {us : List TV} (h : resS X.tab T L fn.results.toList = some us) : (results fn a.tmps).run X.P w = .ok (retV ρ us) w := by
  have h1 := resS_run h0 h
  have h2 : (fn.results.mapM (resOne a.tmps)).run X.P w = .ok (us.map (TV.den ρ)).toArray w := by
    rw [Array.mapM_eq_mapM_toList, Sem.run_map]
    rw [h1]
    rfl
  rw [results_eq]
  simp only [Sem.run_bind, h2, Result.andThen_ok, Sem.run_pure]
  congr 1
  match us with
  | [] => rfl
  | [u] => rfl
  | u :: u' :: us => simp [retV]
/-- The end of a body: what is handed back, what became of the blocks that were handed in. -/
def EndR (X : Fx) (res : List ResultVar) (mu : List MB) (Out : OutT) (T : TE) (L : LE) (n : Nat) (F : List Fact) (D : DF) : Prop :=
  ∀ a w, Rel X T L n F D a w → a.defers = [] ∧ ∀ fn : Func, fn.results.toList = res → ∃ v, (results fn a.tmps).run X.P w = .ok v w ∧ Res X.w0 X.A0 mu Out (.returned v) w
def EndP (X : Fx) (ch : List PanicEntry) (mu : List MB) (Out : OutT) (T : TE) (L : LE) (n : Nat) (F : List Fact) (D : DF) : Prop :=
  ∀ a w, Rel X T L n F D a w → a.defers = [] ∧ Res X.w0 X.A0 mu Out (.panicked ch) w
def endK (X : Fx) (res : List ResultVar) (mu : List MB) (Out : OutT) : KK := fun e T L n F D => match e with
  | .normal => EndR X res mu Out T L n F D
  | .ret => EndR X res mu Out T L n F D
  | .panic ch => EndP X ch mu Out T L n F D
  | _ => False
/-- The blocks that were handed in, at the end: block i lies under key i. -/
def muS (L : LE) : Nat → List MB → Option (List (List SV))
  | _, [] => some []
  | i, x :: r => match alook L i with
    | some (.c cs t) => bif Nat.beq t x.2.2 then (match muS L (i + 1) r with
      | some css => some (cs :: css)
      | none => none) else none
    | _ => none
theorem muS_spec : ∀ {mu : List MB} {i : Nat} {css : List (List SV)}, muS L i mu = some css → css.length = mu.length ∧ ∀ (j : Nat) (x : MB) (cs : List SV), mu[j]? = some x → css[j]? = some cs → alook L (i + j) = some (.c cs x.2.2)
  | [], i, css, h => by cases h; simp
  | x :: r, i, css, h => by
    unfold muS at h
    split at h
    · rename_i cs t hk
      rw [cond_eq_ite] at h
      split at h
      · rename_i ht
        rw [Nat.beq_eq] at ht
        subst ht
        split at h
        · rename_i css' hc
          cases h
          obtain ⟨h1, h2⟩ := muS_spec hc
          refine ⟨by simp [h1], fun j y cs2 hy hcs => ?_⟩
          cases j with
          | zero => simp at hy hcs; subst hy; subst hcs; exact hk
          | succ j => have := h2 j y cs2 (by simpa using hy) (by simpa using hcs); rwa [show i + 1 + j = i + (j + 1) by omega] at this
        · cases h
      · cases h
    · cases h
theorem res_of {mu : List MB} {Out : OutT} {e : Ending} {a : Act} {w : World} {A : Nat → Prop} {ρ : Nm} (h0 : Rel0 X T L F D A ρ a w) {css : List (List SV)} {F1 : List Fact} (hM : X.M = mu.map (·.1) ∧ X.N = mu.map (·.1)) (hmu : muS L 0 mu = some css) (hout : Out e (css.map (denL ρ)) F1) (hF : ∀ f ∈ F1, f ∈ F) : Res X.w0 X.A0 mu Out e w := by
  obtain ⟨h1, h2⟩ := muS_spec hmu
  refine ⟨css.map (denL ρ), F1, hout, by rw [← hM.1]; exact h0.kp, by simp [h1], ?_, A, h0.a1, fun b hb => (h0.a2 b hb).1, fun f hf => h0.a3 f (hF f hf)⟩
  intro i x c hx hc
  simp only [List.getElem?_map, Option.map_eq_some_iff] at hc
  obtain ⟨cs, hcs, rfl⟩ := hc
  have h3 := h2 i x cs hx hcs
  rw [Nat.zero_add] at h3
  have h4 := h0.lo i _ h3
  have h5 := h0.mb i x.1 (by rw [hM.2]; simp [hx])
  simp only [LC.holds] at h4
  rw [← h5]; exact h4
theorem endR_ok {res : List ResultVar} {mu : List MB} {Out : OutT} {us : List TV} {css : List (List SV)} (F1 : List Fact) (hres : resS X.tab T L res = some us) (hD : D = fun _ => []) (hM : X.M = mu.map (·.1) ∧ X.N = mu.map (·.1)) (hmu : muS L 0 mu = some css)
    (hout : ∀ ρ, Out (.returned (retV ρ us)) (css.map (denL ρ)) F1) (hF : ∀ f ∈ F1, f ∈ F) : EndR X res mu Out T L n F D := by
  intro a w hr
  obtain ⟨A, ρ, h0⟩ := hr.one
  refine ⟨by rw [h0.df, hD], fun fn hfn => ⟨retV ρ us, results_run h0.toVw (by rw [hfn]; exact hres), res_of h0 hM hmu (hout ρ) hF⟩⟩
theorem endP_ok {ch : List PanicEntry} {mu : List MB} {Out : OutT} {css : List (List SV)} (F1 : List Fact) (hD : D = fun _ => []) (hM : X.M = mu.map (·.1) ∧ X.N = mu.map (·.1)) (hmu : muS L 0 mu = some css)
    (hout : ∀ ρ, Out (.panicked ch) (css.map (denL ρ)) F1) (hF : ∀ f ∈ F1, f ∈ F) : EndP X ch mu Out T L n F D := by
  intro a w hr
  obtain ⟨A, ρ, h0⟩ := hr.one
  exact ⟨by rw [h0.df, hD], res_of h0 hM hmu (hout ρ) hF⟩
theorem endR_facts {res : List ResultVar} {mu : List MB} {Out : OutT} (F' : List Fact) (hF : ∀ A w, (∀ f ∈ F, f.h A w) → ∀ f ∈ F', f.h A w) (h : EndR X res mu Out T L n F' D) : EndR X res mu Out T L n F D := fun a w hr => h a w (hr.more fun A => hF A w)
theorem endR_fact {p : Prop} {res : List ResultVar} {mu : List MB} {Out : OutT} (f : Fact) (hf : f ∈ F) (hp : ∀ A w, f.h A w → p) (h : p → EndR X res mu Out T L n F D) : EndR X res mu Out T L n F D := by
  intro a w hr
  obtain ⟨A, _, h3⟩ := hr.fact
  exact h (hp A w (h3 f hf)) a w hr

/-! ### The beginning -/
def argT : Nat → List TV → TE
  | _, [] => []
  | i, u :: r => (i, u) :: argT (i + 1) r
theorem argT_look : ∀ {us : List TV} {i t : Nat} {x : TV}, alook (argT i us) t = some x → ∃ j, t = i + j ∧ us[j]? = some x
  | u :: r, i, t, x, h => by
    rw [argT, alook_cons] at h
    split at h
    · rename_i e; cases h; exact ⟨0, by omega, rfl⟩
    · obtain ⟨j, h1, h2⟩ := argT_look h
      exact ⟨j + 1, by omega, by simpa using h2⟩
def muL : Nat → List MB → LE
  | _, [] => []
  | i, x :: r => (i, .c (x.2.1.map SV.v) x.2.2) :: muL (i + 1) r
theorem muL_look : ∀ {mu : List MB} {i k : Nat} {e : LC}, alook (muL i mu) k = some e → ∃ j x, k = i + j ∧ mu[j]? = some x ∧ e = .c (x.2.1.map SV.v) x.2.2
  | x :: r, i, k, e, h => by
    rw [muL, alook_cons] at h
    split at h
    · rename_i ek; cases h; exact ⟨0, x, by omega, rfl, rfl⟩
    · obtain ⟨j, y, h1, h2, h3⟩ := muL_look h
      exact ⟨j + 1, y, by omega, by simpa using h2, h3⟩
theorem map_v_denL (ρ : Nm) (cs : List Value) : denL ρ (cs.map SV.v) = cs := by simp [denL, List.map_map, Function.comp_def, SV.den]
theorem rel_begin {mu : List MB} {us : List TV} {F0 : List Fact} {A : Nat → Prop} {w : World} {k : Nat} (hP : X.w0 = w ∧ X.A0 = A ∧ X.M = mu.map (·.1) ∧ X.N = mu.map (·.1) ∧ X.k = k) (hk : us.length ≤ k)
    (hnd : (mu.map (·.1)).Nodup) (hmu : ∀ x ∈ mu, w.heap[x.1]? = some (.cells x.2.1.toArray x.2.2 (0, 0)) ∧ ¬ A x.1) (hA : ∀ b, A b → b < w.heap.size) (hF : ∀ f ∈ F0, f.h A w) {args : List Value}
    (hargs : ∀ ρ : Nm, (∀ i b, (mu.map (·.1))[i]? = some b → ρ i = b) → us.map (TV.den ρ) = args) :
    Rel X (argT 0 us) (muL 0 mu) mu.length F0 (fun _ => []) { tmps := args.toArray ++ Array.replicate (k - args.toArray.size) undef, defers := [] } w := by
  obtain ⟨rfl, rfl, hM, hN, rfl⟩ := hP
  refine ⟨fun j e h => ?_, fun i => ((mu.map (·.1))[i]?).getD 0, X.A0, fun ρ hρ => ?_⟩
  · obtain ⟨i, x, rfl, h2, _⟩ := muL_look h
    have := (List.getElem?_eq_some_iff.1 h2).1
    omega
  have hb : ∀ i b, (mu.map (·.1))[i]? = some b → ρ i = b := fun i b h => by
    have := (List.getElem?_eq_some_iff.1 h).1
    rw [hρ i (by simpa using this)]
    simp only [h, Option.getD_some]
  have ha := hargs ρ hb
  have hl : args.length = us.length := by rw [← ha]; simp
  have bl : ∀ k e b, alook (muL 0 mu) k = some e → e.blk ρ k = some b → ∃ x, mu[k]? = some x ∧ x.1 = b ∧ (mu.map (·.1))[k]? = some b := by
    intro k e b hke hbk
    obtain ⟨j, x, rfl, h2, rfl⟩ := muL_look hke
    rw [Nat.zero_add] at *
    have h3 : (mu.map (·.1))[j]? = some x.1 := by simp [h2]
    simp only [LC.blk, Option.some.injEq] at hbk
    rw [hb j _ h3] at hbk
    exact ⟨x, h2, hbk, by rw [h3, hbk]⟩
  refine ⟨⟨?_, ?_, hF⟩, by simp; omega, rfl, Kp.refl _ _, ?_, ?_, fun b h => .inl h, ?_, fun i b h => hb i b (by rwa [hN] at h)⟩
  · intro t x hx
    obtain ⟨j, rfl, hj⟩ := argT_look hx
    have h1 : args[j]? = some (x.den ρ) := by rw [← ha]; simp [hj]
    have hjl := (List.getElem?_eq_some_iff.1 h1).1
    rw [Nat.zero_add, Array.getD_eq_getD_getElem?, Array.getElem?_append_left (by simpa using hjl)]
    simp [h1]
  · intro k e hke
    obtain ⟨j, x, rfl, h2, rfl⟩ := muL_look hke
    rw [Nat.zero_add]
    simp only [LC.holds, map_v_denL]
    rw [hb j x.1 (by simp [h2])]
    exact (hmu x (List.mem_of_getElem? h2)).1
  · intro k e b hke hbk
    obtain ⟨x, h2, rfl, h4⟩ := bl k e b hke hbk
    rw [hM]
    exact .inl (List.mem_of_getElem? h4)
  · intro k k' e e' b hke hke' hbk hbk'
    obtain ⟨x, h2, h3, h4⟩ := bl k e b hke hbk
    obtain ⟨x', h2', h3', h4'⟩ := bl k' e' b hke' hbk'
    exact (List.getElem?_inj (List.getElem?_eq_some_iff.1 h4).1 hnd).1 (h4.trans h4'.symm)
  · intro b hAb
    refine ⟨hA b hAb, fun k e hke hbk => ?_⟩
    obtain ⟨x, h2, rfl, _⟩ := bl k e b hke hbk
    exact (hmu x (List.mem_of_getElem? h2)).2 hAb

/-- A contract from a run of the body. -/
theorem cm_of {P : Program} {tab : Tab} {ok : tab.Ok P} {g : Nat} {fn : Func} {body : Code} {args : List Value} {mu : List MB} {F0 : List Fact} {Out : OutT} {k : Nat} (us : List TV) (hf : P.funcs[g]? = some fn) (hk : fn.ntmps = k) (hb : fn.body = some body) (hul : Nat.ble us.length k = true)
    (hargs : ∀ ρ : Nm, (∀ i b, (mu.map (·.1))[i]? = some b → ρ i = b) → us.map (TV.den ρ) = args)
    (h : ∀ w0 A0, sx ⟨P, tab, ok, none, 8, k, w0, A0, mu.map (·.1), mu.map (·.1)⟩ body (argT 0 us) (muL 0 mu) mu.length F0 (fun _ => []) (endK ⟨P, tab, ok, none, 8, k, w0, A0, mu.map (·.1), mu.map (·.1)⟩ fn.results.toList mu Out)) : Cm P g args mu F0 Out := by
  intro A w hnd hmu hA hF
  refine (callsIn_wide (n := 8)).1 (callsIn_of_wp hf hb trivial ?_ rfl)
  rw [hk]
  have hk2 : us.length ≤ k := by rwa [Nat.ble_eq] at hul
  refine sx_sound (h w A) _ ?_ _ _ (rel_begin ⟨rfl, rfl, rfl, rfl, rfl⟩ hk2 hnd hmu hA hF hargs)
  intro e T L n F D hK a w' hr
  cases e with
  | normal =>
    obtain ⟨h1, h2⟩ := hK a w' hr
    obtain ⟨v, h3, h4⟩ := h2 fn rfl
    exact ⟨h1, v, h3, h4⟩
  | ret =>
    obtain ⟨h1, h2⟩ := hK a w' hr
    obtain ⟨v, h3, h4⟩ := h2 fn rfl
    exact ⟨h1, v, h3, h4⟩
  | panic ch => exact hK a w' hr
  | exit id => exact hK.elim
  | goto l => exact hK.elim
  | outgrown => exact hK.elim
end

end Go.Proofs.Ytnkpmeplapkobaa
