/- A symbolic run: functions that write into a row that is lent. No program is in sight. -/
import Derived.Test.YtnkpmeplapkobaaEngQ
namespace Go.Proofs.Ytnkpmeplapkobaa
open Go.RowKit Go.Shelf

/-- A contract of a function that is handed a row, writes into it, and hands it (or a new one) back. -/
def CoW (P : Program) (g : FuncId) (args : Value → List Value) (F0 : List Fact) (e sz m : Nat) (xs : List Value) (m' : Nat) (xs' : List Value) : Prop :=
  ∀ (A : Nat → Prop) (w : World) (a : Option Addr) (cap : Nat), w.ownsRow 0 e sz (.slice a m cap) m xs → (∀ b, (Value.slice a m cap).ownBlock = some b → ¬ A b) → (∀ b, A b → b < w.heap.size) → (∀ f ∈ F0, f.h A w) →
    Calls P g (args (.slice a m cap)).toArray w fun en w' => ∃ a' c', en = .returned (.slice a' m' c') ∧ w'.ownsRow 0 e sz (.slice a' m' c') m' xs' ∧ (∀ b, (Value.slice a' m' c').ownBlock = some b → (Value.slice a m cap).ownBlock = some b ∨ w.heap.size ≤ b) ∧ Kp (Value.slice a m cap).ownBlock.toList w w'
section
variable {X : Fx} {o : Oper} {T : TE} {L : LE} {n : Nat} {F : List Fact} {D : DF} {K : KK} {k : KS} {c : Code}
theorem ojs_callOwnW {cl : Call} {f : Operand} {g d : Nat} {fi ca : List PV} {us : List TV} {args : Nm → Value → List Value} {F0 : List Fact} {e sz m m' : Nat} {xs xs' : List Value} {a : Option Addr} {cap : Nat} {ro : List (Nat × List SV × TypeId)} (j : Nat) (rk : List Nat) (hj : alook L j = some (.own (.slice a m cap) e sz m xs))
    (ho : o.op = .call cl) (hc : cl.callee = .value f) (hf : calS T f = some (g, fi, ca)) (hus : argS T cl.args.toList = some us) (hfn : alook X.tab.fn g = some ()) (hro : lentS L rk = some ro) (hargs : ∀ ρ, argV ρ fi us ca = args ρ (.slice a m cap)) (hd : o.dst = some d) (hdk : Nat.blt d X.k = true)
    (ct : ∀ ρ, CoW X.P g (args ρ) ((lentV ρ ro).map (fun x => blkF x.1 x.2.1 x.2.2) ++ F0) e sz m xs m' xs') (hF0 : ∀ f ∈ F0, f ∈ F)
    (h : ∀ a' c', k ((d, .o (.v (.slice a' m' c'))) :: T) ((j, .own (.slice a' m' c') e sz m' xs') :: L) n F D) : OJs X o T L n F D k K := by
  intro Q hQ Φ hΦ ac w hr
  obtain ⟨A, ρ, h0⟩ := hr.one
  obtain ⟨hro1, hro2⟩ := lentS_spec hro
  refine Oper.wpIn_of_run (by simp [noDef, ho]) ?_
  rw [call_run h0.toVw ho hc hf hus hfn, hargs ρ]
  refine ⟨fun hd => by simp [Fx.fe, Fence.wide] at hd, ?_⟩
  have hC := ct ρ (fun b => A b ∨ ∃ x ∈ ro, ρ x.1 = b) w a cap (h0.lo j _ hj) (fun b hb hA => ?_) (fun b hb => ?_) fun fa hfa => ?_
  · refine CallsIn.mono (show CallsIn X.fe (X.nn - 1) X.P g (args ρ (.slice a m cap)).toArray w _ from ⟨trivial, ((callsIn_wide (n := X.nn - 1)).2 hC).2⟩) ?_
    rintro en w' ⟨a', c', rfl, hown, far, hk⟩
    refine hΦ _ _ _ _ _ (h a' c') _ w' ((hr.own hj hown ⟨hk.os, hk.tape, hk.output, hk.size, fun b hb hn => hk.keep b hb fun hm => ?_⟩ far).put (u := .o (.v (.slice a' m' c'))) (fun _ _ _ => rfl) ?_)
    · rw [Option.mem_toList] at hm
      exact hn hm.symm
    · simp only [putS, hd, hdk, cond_true]
  · rcases hA with hA | ⟨x, hx, hxb⟩
    · exact (h0.a2 b hA).2 j _ hj hb
    · have := h0.ds x.1 j _ _ b (hro2 x hx) hj (by simp only [LC.blk]; rw [hxb]) hb
      have h2 := hro2 x hx
      rw [this, hj] at h2
      cases h2
  · rcases hb with hb | ⟨x, hx, rfl⟩
    · exact (h0.a2 b hb).1
    · exact LC.lt (h0.lo x.1 _ (hro2 x hx)) rfl
  · rcases List.mem_append.1 hfa with hfa | hfa
    · obtain ⟨x, hx, rfl⟩ := List.mem_map.1 hfa
      obtain ⟨y, hy, rfl⟩ := List.mem_map.1 hx
      exact ⟨.inr ⟨y, hy, rfl⟩, h0.lo y.1 _ (hro2 y hy)⟩
    · exact fa.ok (fun _ h => .inl h) (fun _ _ => rfl) (Grow.refl _) (h0.a3 fa (hF0 fa hfa))
/-- A call that only reads a row of the call's own. -/
theorem ojs_callOwnR {α : Type} {enc : α → List Value} {ys : List α} {cl : Call} {f : Operand} {g : Nat} {fi ca : List PV} {us : List TV} {F0 : List Fact} {e sz m : Nat} {cells : List Value} {v : Value} {Out : OutT} (j : Nat) (hj : alook L j = some (.own v e sz m cells)) (hm : m = ys.length) (hcl : cells = ys.flatMap enc) (henc : ∀ x, (enc x).length = sz)
    (ho : o.op = .call cl) (hc : cl.callee = .value f) (hf : calS T f = some (g, fi, ca)) (hus : argS T cl.args.toList = some us) (hfn : alook X.tab.fn g = some ())
    (ct : ∀ ρ, Cm X.P g (argV ρ fi us ca) [] (slF enc sz v ys :: F0) Out) (hF0 : ∀ f ∈ F0, f ∈ F) (hno : ∀ e cs F1, Out e cs F1 → F1 = [])
    (h : ∀ e cs, Out e cs [] → callK X o T L n [] F D k K e) : OJs X o T L n F D k K := by
  subst hm hcl
  intro Q hQ Φ hΦ ac w hr
  obtain ⟨A, ρ, h0⟩ := hr.one
  refine Oper.wpIn_of_run (by simp [noDef, ho]) ?_
  rw [call_run h0.toVw ho hc hf hus hfn]
  refine ⟨fun hd => by simp [Fx.fe, Fence.wide] at hd, ?_⟩
  have hown := h0.lo j _ hj
  have hC := ct ρ (fun b => A b ∨ v.ownBlock = some b) w (by simp) (fun x hx => by cases hx) (fun b hb => ?_) fun fa hfa => ?_
  · refine CallsIn.mono (show CallsIn X.fe (X.nn - 1) X.P g (argV ρ fi us ca).toArray w _ from ⟨trivial, ((callsIn_wide (n := X.nn - 1)).2 hC).2⟩) ?_
    rintro en w' ⟨cs, F1, hout, hkp, _, _, _⟩
    cases hno _ _ _ hout
    have rel : Rel X T L n ([] ++ F) D ac w' := by
      obtain ⟨hkb, ρ1, A1, hr1⟩ := hr
      refine ⟨hkb, ρ1, A1, fun ρ2 hρ => ?_⟩
      have h1 := hr1 ρ2 hρ
      have kp : ∀ b, b < w.heap.size → w'.heap[b]? = w.heap[b]? := fun b hb => hkp.keep b hb (by simp)
      exact ⟨⟨h1.tm, fun k e hk => LC.keep (w := w) (h1.lo k e hk) fun b hb => kp b (LC.lt (h1.lo k e hk) hb), fun f hf => f.ok (w := w) (fun _ h => h) (fun b hb => kp b (h1.a2 b hb).1) hkp.grow (h1.a3 f hf)⟩, h1.sz, h1.df, ⟨hkp.os.trans h1.kp.os, hkp.tape.trans h1.kp.tape, hkp.output.trans h1.kp.output, Nat.le_trans h1.kp.size hkp.size, fun b hb hm => (kp b (Nat.lt_of_lt_of_le hb h1.kp.size)).trans (h1.kp.keep b hb hm)⟩, h1.nw, h1.ds, h1.a1, fun b hb => ⟨Nat.lt_of_lt_of_le (h1.a2 b hb).1 hkp.size, (h1.a2 b hb).2⟩, h1.mb⟩
    have hk := h en cs hout
    cases en with
    | returned v =>
      simp only [callK] at hk
      split at hk
      · rename_i T' hp
        exact hΦ _ _ _ _ _ hk _ w' (rel.put (fun _ _ _ => rfl) hp)
      · exact hk.elim
    | panicked ch => exact hQ _ _ _ _ _ _ hk ac w' rel
    | outgrown => exact hk.elim
  · rcases hb with hb | hb
    · exact (h0.a2 b hb).1
    · exact LC.lt (h0.lo j _ hj) hb
  · rcases List.mem_cons.1 hfa with rfl | hfa
    · obtain ⟨a', c', e1, e2, h3⟩ := Sl.of_owns henc hown
      refine ⟨a', c', e1, e2, h3.imp id ?_⟩
      rintro ⟨b, off, h4, _, h6⟩
      exact ⟨b, off, h4, .inr (by rw [e1, h4]; rfl), h6⟩
    · exact fa.ok (fun _ h => .inl h) (fun _ _ => rfl) (Grow.refl _) (h0.a3 fa (hF0 fa hfa))
def EndW (X : Fx) (res : List ResultVar) (v0 : Value) (e sz m' : Nat) (xs' : List Value) (T : TE) (L : LE) (n : Nat) (F : List Fact) (D : DF) : Prop :=
  ∀ a w, Rel X T L n F D a w → a.defers = [] ∧ ∀ fn : Func, fn.results.toList = res → ∃ a' c', (results fn a.tmps).run X.P w = .ok (.slice a' m' c') w ∧ w.ownsRow 0 e sz (.slice a' m' c') m' xs' ∧ (∀ b, (Value.slice a' m' c').ownBlock = some b → v0.ownBlock = some b ∨ X.w0.heap.size ≤ b) ∧ Kp v0.ownBlock.toList X.w0 w
def endKW (X : Fx) (res : List ResultVar) (v0 : Value) (e sz m' : Nat) (xs' : List Value) : KK := fun ex T L n F D => match ex with
  | .normal => EndW X res v0 e sz m' xs' T L n F D
  | .ret => EndW X res v0 e sz m' xs' T L n F D
  | _ => False
theorem endW_ok {res : List ResultVar} {v0 : Value} {e sz m' : Nat} {xs' : List Value} {a' : Option Addr} {c' : Nat} (j : Nat) (hj : alook L j = some (.own (.slice a' m' c') e sz m' xs')) (hM : X.M = v0.ownBlock.toList) (hres : resS X.tab T L res = some [.o (.v (.slice a' m' c'))]) (hD : D = fun _ => []) : EndW X res v0 e sz m' xs' T L n F D := by
  intro a w hr
  obtain ⟨A, ρ, h0⟩ := hr.one
  refine ⟨by rw [h0.df, hD], fun fn hfn => ⟨a', c', results_run h0.toVw (by rw [hfn]; exact hres), h0.lo j _ hj, fun b hb => ?_, by rw [← hM]; exact h0.kp⟩⟩
  rcases h0.nw j _ b hj hb with h | h
  · rw [hM, Option.mem_toList] at h; exact .inl h
  · exact .inr h
theorem endW_weak {res : List ResultVar} {v0 : Value} {e sz m' : Nat} {xs' : List Value} {σ : Sg} (hw : Wk X T L n F D σ) (h : EndW X res v0 e sz m' xs' σ.T σ.L σ.n σ.F σ.D) : EndW X res v0 e sz m' xs' T L n F D := fun a w hr => h a w (hw a w hr)
/-- The contract from a run of the body: own row 0 is the one that is lent. -/
theorem cow_of {P : Program} {tab : Tab} {ok : tab.Ok P} {g : Nat} {fn : Func} {body : Code} {args : Value → List Value} {F0 : List Fact} {e sz m m' : Nat} {xs xs' : List Value} {k : Nat} (us : Value → List TV) (hf : P.funcs[g]? = some fn) (hk : fn.ntmps = k) (hb : fn.body = some body) (hul : ∀ v, Nat.ble (us v).length k = true)
    (hargs : ∀ v (ρ : Nm), (us v).map (TV.den ρ) = args v)
    (h : ∀ w0 A0 a cap, sx ⟨P, tab, ok, none, 8, k, w0, A0, (Value.slice a m cap).ownBlock.toList, []⟩ body (argT 0 (us (.slice a m cap))) [(0, .own (.slice a m cap) e sz m xs)] 1 F0 (fun _ => []) (endKW ⟨P, tab, ok, none, 8, k, w0, A0, (Value.slice a m cap).ownBlock.toList, []⟩ fn.results.toList (.slice a m cap) e sz m' xs')) : CoW P g args F0 e sz m xs m' xs' := by
  intro A w a cap hown hA hAl hF
  refine (callsIn_wide (n := 8)).1 (callsIn_of_wp hf hb trivial ?_ rfl)
  rw [hk]
  have hk2 : (us (.slice a m cap)).length ≤ k := by have := hul (.slice a m cap); rwa [Nat.ble_eq] at this
  have hll : (args (.slice a m cap)).length = (us (.slice a m cap)).length := by rw [← hargs _ (fun _ => 0)]; simp
  refine sx_sound (h w A a cap) _ ?_ _ _ ?_
  · intro ex T L n F D hK a' w' hr
    cases ex with
    | normal =>
      obtain ⟨h1, h2⟩ := hK a' w' hr
      obtain ⟨a2, c2, h3, h4⟩ := h2 fn rfl
      exact ⟨h1, _, h3, a2, c2, rfl, h4⟩
    | ret =>
      obtain ⟨h1, h2⟩ := hK a' w' hr
      obtain ⟨a2, c2, h3, h4⟩ := h2 fn rfl
      exact ⟨h1, _, h3, a2, c2, rfl, h4⟩
    | panic ch => exact hK.elim
    | exit id => exact hK.elim
    | goto l => exact hK.elim
    | outgrown => exact hK.elim
  · have one : ∀ {k' : Nat} {e' : LC}, alook [(0, LC.own (.slice a m cap) e sz m xs)] k' = some e' → k' = 0 ∧ e' = .own (.slice a m cap) e sz m xs := by
      intro k' e' hk'
      rw [alook_cons] at hk'
      split at hk'
      · rename_i ek; cases hk'; exact ⟨ek, rfl⟩
      · cases hk'
    refine ⟨fun k' e' hk' => by rw [(one hk').1]; exact Nat.zero_lt_one, fun _ => 0, A, fun ρ _ => ⟨⟨?_, fun k' e' hk' => ?_, hF⟩, by simp; omega, rfl, Kp.refl _ _, fun k' e' b hk' hb' => ?_, fun k1 k2 e1 e2 b hk1 hk2 _ _ => by rw [(one hk1).1, (one hk2).1], fun b hb' => .inl hb', fun b hb' => ⟨hAl b hb', fun k' e' hk' hbk => ?_⟩, fun i b hi => (by cases hi)⟩⟩
    · intro t x hx
      obtain ⟨j, rfl, hj⟩ := argT_look hx
      rw [Nat.zero_add, ← hargs _ ρ, Array.getD_eq_getD_getElem?, Array.getElem?_append_left (by simpa using (List.getElem?_eq_some_iff.1 hj).1), List.getElem?_toArray, List.getElem?_map, hj]
      rfl
    · obtain ⟨rfl, rfl⟩ := one hk'
      exact hown
    · obtain ⟨rfl, rfl⟩ := one hk'
      exact .inl (by rw [Option.mem_toList]; exact hb')
    · obtain ⟨rfl, rfl⟩ := one hk'
      exact hA b hbk hb'
end

end Go.Proofs.Ytnkpmeplapkobaa
