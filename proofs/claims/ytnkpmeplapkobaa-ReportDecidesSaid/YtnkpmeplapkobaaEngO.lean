/- A symbolic run: marks at the end. No program is in sight. -/
import Derived.Test.YtnkpmeplapkobaaEngN
import Derived.Lib.MinMax
namespace Go.Proofs.Ytnkpmeplapkobaa
open Go.RowKit Go.Shelf

section
variable {X : Fx} {T : TE} {L : LE} {n : Nat} {F : List Fact} {D : DF} {K : KK}
/-- An own block changes. -/
theorem Rel.chgOwn {k : Nat} {e e' : LC} {a : Act} {w w' : World} (h : Rel X T L n F D a w) (hk : alook L k = some e) (hb : ∀ ρ, e.blk ρ k = some (ρ k)) (hb' : ∀ ρ, e'.blk ρ k = some (ρ k))
    (hw : ∀ A ρ, Rel0 X T L F D A ρ a w → Grow w w' ∧ (∀ b, b ≠ ρ k → w'.heap[b]? = w.heap[b]?) ∧ e'.holds ρ k w') : Rel X T ((k, e') :: L) n F D a w' := by
  obtain ⟨hkb, ρ0, A, hr0⟩ := h
  refine ⟨fun k' e2 hk' => ?_, ρ0, A, fun ρ hρ => ?_⟩
  · rw [alook_cons] at hk'
    split at hk'
    · rename_i ek; rw [ek]; exact hkb _ _ hk
    · exact hkb _ _ hk'
  have h1 := hr0 ρ hρ
  obtain ⟨hg, old, hold⟩ := hw A ρ h1
  have bl : ∀ k' e2 b, alook ((k, e') :: L) k' = some e2 → e2.blk ρ k' = some b → (k' = k ∧ b = ρ k) ∨ (k' ≠ k ∧ alook L k' = some e2 ∧ b ≠ ρ k) := by
    intro k' e2 b hk' hb2
    rw [alook_cons] at hk'
    split at hk'
    · rename_i ek
      cases hk'
      subst ek
      rw [hb'] at hb2
      exact .inl ⟨rfl, (Option.some.inj hb2).symm⟩
    · rename_i ek
      refine .inr ⟨ek, hk', fun eb => ek ?_⟩
      subst eb
      exact h1.ds k' k e2 _ _ hk' hk hb2 (hb ρ)
  refine ⟨⟨h1.tm, ?_, fun f hf => f.ok (w := w) (fun _ h => h) (fun b hb2 => old b fun e => ?_) hg (h1.a3 f hf)⟩, h1.sz, h1.df, ?_, ?_, ?_, h1.a1, ?_, h1.mb⟩
  · intro k' e2 hk'
    have hk0 := hk'
    rw [alook_cons] at hk'
    split at hk'
    · rename_i ek
      cases hk'
      subst ek
      exact hold
    · rename_i ek
      refine LC.keep (w := w) (h1.lo k' e2 hk') fun b hb2 => old b fun eb => ek ?_
      subst eb
      exact h1.ds k' k e2 _ _ hk' hk hb2 (hb ρ)
  · subst e
    exact (h1.a2 _ hb2).2 k _ hk (hb ρ)
  · refine ⟨hg.os.trans h1.kp.os, hg.tape.trans h1.kp.tape, hg.output.trans h1.kp.output, Nat.le_trans h1.kp.size hg.size, fun b hb2 hm => ?_⟩
    rw [old b ?_]
    · exact h1.kp.keep b hb2 hm
    · intro e
      subst e
      rcases h1.nw k _ _ hk (hb ρ) with h2 | h2
      · exact hm h2
      · omega
  · intro k' e2 b hk' hb2
    rcases bl k' e2 b hk' hb2 with ⟨rfl, rfl⟩ | ⟨_, h3, _⟩
    · exact h1.nw _ _ _ hk (hb ρ)
    · exact h1.nw k' e2 b h3 hb2
  · intro k1 k2 f1 f2 b hk1 hk2 hb1 hb2
    rcases bl k1 f1 b hk1 hb1 with ⟨g1, g2⟩ | ⟨_, h3, h4⟩ <;> rcases bl k2 f2 b hk2 hb2 with ⟨g3, g4⟩ | ⟨_, h3', h4'⟩
    · rw [g1, g3]
    · exact absurd g2 h4'
    · exact absurd g4 h4
    · exact h1.ds k1 k2 f1 f2 b h3 h3' hb1 hb2
  · intro b hb2
    refine ⟨Nat.lt_of_lt_of_le (h1.a2 b hb2).1 hg.size, fun k' e2 hk' hbk => ?_⟩
    rcases bl k' e2 b hk' hbk with ⟨_, rfl⟩ | ⟨_, h3, _⟩
    · exact (h1.a2 _ hb2).2 k _ hk (hb ρ)
    · exact (h1.a2 b hb2).2 k' e2 h3 hbk
/-- A mark of a range is taken away. -/
theorem lv_mark {nn : Nat} {R : Ending → World → Prop} {res : List ResultVar} {u : FrameMode} {k : Nat} (hu : u ≠ .run) (hk : alook L k = some markL) (h : LvR X nn R res u T ((k, .obj (.deferred none)) :: L) n F D) : LvR X nn R res u T L n F (fun ρ => markD (ρ k) :: D ρ) := by
  intro a w hr fn hfn
  obtain ⟨A, ρ, h0⟩ := hr.one
  have hb : w.heap[ρ k]? = some (.deferred (some [])) := h0.lo k _ hk
  have hpin : ∀ A' ρ', Rel0 X T L F (fun ρ => markD (ρ k) :: D ρ) A' ρ' a w → ρ' k = ρ k := by
    intro A' ρ' h1
    have e := h1.df
    rw [h0.df] at e
    have e := (List.cons.inj e).1
    simp only [markD, Deferred.mk.injEq, Target.collected.injEq] at e
    exact e.1.symm
  have hr2 : Rel X T ((k, .obj (.deferred none)) :: L) n F (fun ρ => markD (ρ k) :: D ρ) a (w.putObj (ρ k) (.deferred none)) := by
    refine hr.chgOwn hk (fun _ => rfl) (fun _ => rfl) fun A' ρ' h1 => ?_
    rw [hpin A' ρ' h1]
    exact ⟨⟨rfl, rfl, rfl, by simp⟩, fun b hb' => World.putObj_heap_other hb', by show (w.putObj (ρ k) _).heap[ρ' k]? = _; rw [hpin A' ρ' h1]; exact World.putObj_heap_same (lt_of_block hb)⟩
  have hp := h _ _ hr2.popD fn hfn
  have hd : a.defers = markD (ρ k) :: D ρ := h0.df
  rw [hd] at hp ⊢
  exact ⟨hu, .inl ⟨ρ k, _, rfl, run_takeDeferred hb, hp⟩⟩
def noGoK (K : KK) : KK := fun e T L n F D => match e with
  | .goto _ => False
  | e => K e T L n F D
theorem cjs_scope {c : Code} (hr : X.r = none) (h : sx X c T L n F D (noGoK K)) : CJs X (.scope c) T L n F D K := by
  intro Q hQ a w hrel
  have hfe : X.fe = Fence.wide := by unfold Fx.fe; rw [hr]; rfl
  have := sx_sound h (Exit.noGoto Q) (fun e T L n F D hK a w hr' => by
    cases e with
    | goto l => exact hK.elim
    | normal => exact hQ _ _ _ _ _ _ hK a w hr'
    | exit id => exact hQ _ _ _ _ _ _ hK a w hr'
    | ret => exact hQ _ _ _ _ _ _ hK a w hr'
    | panic ch => exact hQ _ _ _ _ _ _ hK a w hr'
    | outgrown => exact hQ _ _ _ _ _ _ hK a w hr') a w hrel
  rw [hfe] at this ⊢
  exact wpIn_scope_w this
/-- So many rounds, one behind the other. -/
def turnsS (X : Fx) (c : Code) (K : KK) : Nat → TE → LE → Nat → List Fact → DF → Prop
  | 0, _, _, _, _, _ => False
  | m + 1, T, L, n, F, D => sx X c T L n F D fun e T L n F D => match e with
    | .normal => turnsS X c K m T L n F D
    | e => K e T L n F D
theorem cjs_turns {c : Code} (m : Nat) (h : turnsS X c K m T L n F D) : CJs X (.loop c) T L n F D K := by
  intro Q hQ a w hr
  refine wpIn_loop_rounds m ?_
  induction m generalizing T L n F D a w with
  | zero => exact h.elim
  | succ m ih =>
    refine sx_sound h _ ?_ a w hr
    intro e T L n F D hK a w hr'
    cases e with
    | normal => exact ih hK a w hr'
    | goto l => exact hQ _ _ _ _ _ _ hK a w hr'
    | exit id => exact hQ _ _ _ _ _ _ hK a w hr'
    | ret => exact hQ _ _ _ _ _ _ hK a w hr'
    | panic ch => exact hQ _ _ _ _ _ _ hK a w hr'
    | outgrown => exact hQ _ _ _ _ _ _ hK a w hr'
/-- The end of a body that hands own blocks over, that are written no more. -/
theorem endR_seal {res : List ResultVar} {mu : List MB} {Out : OutT} {us : List TV} {css : List (List SV)} {ls : List (Nat × List SV × TypeId)} (ks : List Nat) (F1 : List Fact) (hls : lentS L ks = some ls) (hkm : (ks.all fun k => Nat.ble mu.length k) = true) (hres : resS X.tab T L res = some us) (hD : D = fun _ => []) (hM : X.M = mu.map (·.1) ∧ X.N = mu.map (·.1)) (hmu : muS L 0 mu = some css)
    (hout : ∀ ρ, Out (.returned (retV ρ us)) (css.map (denL ρ)) ((lentV ρ ls).map (fun x => blkF x.1 x.2.1 x.2.2) ++ F1)) (hF : ∀ f ∈ F1, f ∈ F) : EndR X res mu Out T L n F D := by
  intro a w hr
  obtain ⟨A, ρ, h0⟩ := hr.one
  refine ⟨by rw [h0.df, hD], fun fn hfn => ⟨retV ρ us, results_run h0.toVw (by rw [hfn]; exact hres), ?_⟩⟩
  obtain ⟨h1, h2⟩ := muS_spec hmu
  obtain ⟨l1, l2⟩ := lentS_spec hls
  have hlk : ∀ x ∈ ls, x.1 ∈ ks := fun x hx => by rw [← l1]; exact List.mem_map.2 ⟨x, hx, rfl⟩
  refine ⟨css.map (denL ρ), _, hout ρ, by rw [← hM.1]; exact h0.kp, by simp [h1], ?_, fun b => A b ∨ ∃ x ∈ ls, ρ x.1 = b, ?_, ?_, ?_⟩
  · intro i x c hx hc
    simp only [List.getElem?_map, Option.map_eq_some_iff] at hc
    obtain ⟨cs, hcs, rfl⟩ := hc
    have h3 := h2 i x cs hx hcs
    rw [Nat.zero_add] at h3
    have h4 := h0.lo i _ h3
    have h5 := h0.mb i x.1 (by rw [hM.2]; simp [hx])
    simp only [LC.holds] at h4
    rw [← h5]; exact h4
  · rintro b (hb | ⟨x, hx, rfl⟩)
    · exact h0.a1 b hb
    · rcases h0.nw x.1 _ _ (l2 x hx) rfl with h | h
      · exfalso
        rw [hM.1] at h
        obtain ⟨y, hy, hyb⟩ := List.mem_map.1 h
        obtain ⟨i, hi⟩ := List.mem_iff_getElem?.1 hy
        have hil := (List.getElem?_eq_some_iff.1 hi).1
        obtain ⟨cs, hcs⟩ : ∃ cs, css[i]? = some cs := ⟨_, List.getElem?_eq_getElem (by rw [h1]; exact hil)⟩
        have h3 := h2 i y cs hi hcs
        rw [Nat.zero_add] at h3
        have h5 := h0.mb i y.1 (by rw [hM.2]; simp [hi])
        have := h0.ds x.1 i _ _ (ρ x.1) (l2 x hx) h3 rfl (by simp only [LC.blk]; rw [h5, hyb])
        have h6 := List.all_eq_true.1 hkm x.1 (hlk x hx)
        simp only [Nat.ble_eq] at h6
        omega
      · exact .inr h
  · rintro b (hb | ⟨x, hx, rfl⟩)
    · exact (h0.a2 b hb).1
    · exact LC.lt (h0.lo x.1 _ (l2 x hx)) rfl
  · intro f hf
    rcases List.mem_append.1 hf with hf | hf
    · obtain ⟨y, hy, rfl⟩ := List.mem_map.1 hf
      obtain ⟨x, hx, rfl⟩ := List.mem_map.1 hy
      exact ⟨.inr ⟨x, hx, rfl⟩, h0.lo x.1 _ (l2 x hx)⟩
    · exact f.ok (fun _ h => .inl h) (fun _ _ => rfl) (Grow.refl _) (h0.a3 f (hF f hf))
def isFn (P : Program) (t : TypeId) : Bool := match P.underlying t with | some (.func _ _ _) => true | _ => false
/-- A function value against nil. -/
theorem ojs_fnil {o : Oper} {k : KS} {t t2 : TypeId} {x : Operand} {fn : Fn} {a b : Array Value} (ht : isFn X.P t = true) (ho : o.op = .binOp .eql t x (.const .nilFunc) t2) (hx : evS T x = some (.o (.v (.func fn a b)))) (h : optK X o T L n F D k (.o (.v (.bool false)))) : OJs X o T L n F D k K := by
  obtain ⟨p, r, v, ht⟩ : ∃ p r v, X.P.underlying t = some (.func p r v) := by
    unfold isFn at ht
    split at ht
    · rename_i p r v h; exact ⟨p, r, v, h⟩
    · cases ht
  refine ojs_run (by simp [noDef, ho]) (fun A ρ a' w h0 => ?_) h
  have e1 := h0.ev hx
  simp only [TV.den, SV.den] at e1
  have hg : (eqGuard .eql t x (.const .nilFunc) (.func fn a b) .nilFunc).run X.P w = .ok () w := by
    unfold eqGuard; simp
  have e2 : a'.eval (.const .nilFunc) = .nilFunc := rfl
  simp only [execOp, ho, e1, e2, Sem.run_bind, hg, Result.andThen_ok, run_eql_func_nil w ht, Sem.run_pure, TV.den, SV.den]
theorem ojs_max {o : Oper} {k : KS} {cl : Call} {x y : Operand} {ki kj : IntKind} {p q : Int} (ho : o.op = .call cl) (hc : cl.callee = .builtin .max) (hargs : cl.args.toList = [x, y]) (hx : evS T x = some (.o (.v (.int ki p)))) (hy : evS T y = some (.o (.v (.int kj q)))) (h : optK X o T L n F D k (.o (.v (.int ki (max p q))))) : OJs X o T L n F D k K := by
  refine ojs_run (by simp [noDef, ho]) (fun A ρ a' w h0 => ?_) h
  have e1 := h0.ev hx
  have e2 := h0.ev hy
  have ha : cl.args = #[x, y] := Array.ext' hargs
  simp only [TV.den, SV.den] at e1 e2
  simp [execOp, ho, resolve, hc, ha, e1, e2, invoke, builtin, Lib.run_max_ints, TV.den, SV.den]
theorem ojs_min {o : Oper} {k : KS} {cl : Call} {x y : Operand} {ki kj : IntKind} {p q : Int} (ho : o.op = .call cl) (hc : cl.callee = .builtin .min) (hargs : cl.args.toList = [x, y]) (hx : evS T x = some (.o (.v (.int ki p)))) (hy : evS T y = some (.o (.v (.int kj q)))) (h : optK X o T L n F D k (.o (.v (.int ki (min p q))))) : OJs X o T L n F D k K := by
  refine ojs_run (by simp [noDef, ho]) (fun A ρ a' w h0 => ?_) h
  have e1 := h0.ev hx
  have e2 := h0.ev hy
  have ha : cl.args = #[x, y] := Array.ext' hargs
  simp only [TV.den, SV.den] at e1 e2
  simp [execOp, ho, resolve, hc, ha, e1, e2, invoke, builtin, Lib.run_min_ints, TV.den, SV.den]
def subE (L : LE) : LE → Prop
  | [] => True
  | (k, e) :: r => alook L k = some e ∧ subE L r
theorem subE_look {L : LE} : ∀ {L' : LE} {k : Nat} {e : LC}, subE L L' → alook L' k = some e → alook L k = some e
  | (k', e') :: rest, k, e, h, hl => by
    rw [alook_cons] at hl
    split at hl
    · rename_i ek; cases hl; rw [ek]; exact h.1
    · exact subE_look h.2 hl
/-- Fewer blocks, fewer facts; all else as it is. -/
theorem wk_L {L' : LE} {F' : List Fact} (hL : subE L L') (hF : ∀ f ∈ F', f ∈ F) : Wk X T L n F D ⟨T, L', n, F', D⟩ := fun a w hr =>
  (hr.reL (L' := L') fun k e hk => ⟨e, subE_look hL hk, fun _ => rfl, fun _ h => h⟩).more fun A h f hf => h f (hF f hf)
/-- A like state, the marks and all. -/
theorem wk_sameD {T' : TE} {L' : LE} {n' : Nat} {F' : List Fact} (hT : subT idN n' T T') (hL : subL idN n' L L') (hF : ∀ f ∈ F', f ∈ F) (hM : X.N.length ≤ n') (hD : ∀ ρ ρ' : Nm, (∀ j, j < n' → ρ' j = ρ j) → D ρ' = D ρ) : Wk X T L n F D ⟨T', L', n', F', D⟩ :=
  wk_ren idN hT hL (fun _ _ _ _ h => h) (fun A w h f hf => h f (hF f hf)) hD (fun i hi => ⟨by omega, rfl⟩)
theorem ret_ne : FrameMode.returning ≠ .run := by simp
end

end Go.Proofs.Ytnkpmeplapkobaa
