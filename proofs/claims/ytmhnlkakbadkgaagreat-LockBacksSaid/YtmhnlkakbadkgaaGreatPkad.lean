/- Part 4 of the proof of LockBacks: contracts of functions that the law reaches, or the rules by which they are walked. No condition. -/
import Derived.Test.YtmhnlkakbadkgaaGreatPkac
namespace Go.Proofs.YtmhnlkakbadkgaaGreat
open Go.RowKit Go.Shelf
section
variable {α : Type} {e : TypeId} {sz : Nat} {enc : α → List Value} {m l : Nat} {g : Nat → Nat} {R : Nat → List α}
variable {X : Fx} {T : TE} {L : LE} {n : Nat} {F : List Fact} {D : DF}
end
theorem flat_unit {zs : List Value} (hz : 0 < zs.length) : ∀ m : Nat, (List.range (m * zs.length)).map (fun i => zs.toArray[i % zs.toArray.size]!) = (List.replicate m ()).flatMap fun _ => zs
  | 0 => by simp
  | m + 1 => by
    have ih := flat_unit hz m
    rw [Nat.succ_mul, List.range_add, List.map_append, ih, List.replicate_succ', List.flatMap_append]
    congr 1
    simp only [List.flatMap_cons, List.flatMap_nil, List.append_nil, List.map_map]
    apply List.ext_getElem
    · simp
    · intro i h1 h2
      have hi : i < zs.length := h2
      simp [Nat.add_mod, Nat.mod_eq_of_lt hi, hi]
theorem made_flat {α : Type} {enc : α → List Value} {z : α} {zs : List Value} (hz : 0 < zs.length) (he : enc z = zs) (m : Nat) : (madeCells zs.toArray (m * zs.length)).toList = (List.replicate m z).flatMap enc := by
  have := flat_unit hz m
  simp only [madeCells, Array.toList_map, Array.toList_range]
  rw [this]
  clear this
  induction m with
  | zero => rfl
  | succ m ih => rw [List.replicate_succ, List.replicate_succ, List.flatMap_cons, List.flatMap_cons, ih, he]
section
variable {X : Fx} {T : TE} {L : LE} {F : List Fact}
end
theorem optK_of {X : Fx} {o : Oper} {T : TE} {L : LE} {n : Nat} {F : List Fact} {D : DF} {k : KS} {K : KK} {u : TV} (hy : Yd X o T L F u) (h : optK X o T L n F D k u) : OJs X o T L n F D k K := optK_yd hy h
theorem yd_binOp {X : Fx} {o : Oper} {T : TE} {L : LE} {F : List Fact} {bop : BinOp} {t t2 : TypeId} {x y : Operand} {ux uy : TV} {u v r : Value} (ho : o.op = .binOp bop t x y t2) (hx : evS T x = some ux) (hy : evS T y = some uy) (hu : ∀ ρ, ux.den ρ = u) (hv : ∀ ρ, uy.den ρ = v)
    (hg : ∀ w, (eqGuard bop t x y u v).run X.P w = .ok () w) (hb : ∀ w, (binOp bop t u v).run X.P w = .ok r w) : Yd X o T L F (.o (.v r)) := by
  refine ⟨by simp [noDef, ho], fun A ρ a w h0 => ?_⟩
  have e1 := h0.ev hx
  have e2 := h0.ev hy
  rw [hu] at e1
  rw [hv] at e2
  simp only [execOp, ho, e1, e2, Sem.run_bind, hg, Result.andThen_ok, hb, Sem.run_pure, TV.den, SV.den]
end Go.Proofs.YtmhnlkakbadkgaaGreat
namespace Go.Proofs.YtmhnlkakbadkgaaGreat
open Go.RowKit Go.Shelf
def closedL : List SV → Option (List Value)
  | [] => some []
  | .v x :: r => match closedL r with
    | some vs => some (x :: vs)
    | none => none
  | _ => none
theorem closedL_den {ρ : Nm} : ∀ {xs : List SV} {vs : List Value}, closedL xs = some vs → denL ρ xs = vs
  | [], vs, h => by cases h; rfl
  | .v x :: r, vs, h => by
    unfold closedL at h
    split at h
    · rename_i vs' hv
      cases h
      rw [show denL ρ (.v x :: r) = x :: denL ρ r from rfl, closedL_den hv]
    · cases h
  | .p _ _ :: r, vs, h => by cases h
  | .s _ _ _ _ :: r, vs, h => by cases h
  | .f _ _ _ :: r, vs, h => by cases h
def svOf : TV → Option SV
  | .o x => some x
  | .g xs => match closedL xs with
    | some vs => some (.v (.agg vs.toArray))
    | none => none
  | .t _ => none
theorem svOf_den {ρ : Nm} {u : TV} {x : SV} (h : svOf u = some x) : u.den ρ = x.den ρ := by
  unfold svOf at h
  split at h
  · cases h; rfl
  · split at h
    · rename_i vs hv
      cases h
      simp only [TV.den, SV.den, closedL_den hv]
    · cases h
  · cases h
def svL : List TV → Option (List SV)
  | [] => some []
  | u :: r => match svOf u with
    | some x => match svL r with
      | some xs => some (x :: xs)
      | none => none
    | none => none
theorem svL_den {ρ : Nm} : ∀ {us : List TV} {xs : List SV}, svL us = some xs → us.map (TV.den ρ) = denL ρ xs
  | [], _, h => by cases h; rfl
  | u :: r, xs, h => by
    unfold svL at h
    split at h
    · rename_i x hx
      split at h
      · rename_i ys hy
        cases h
        rw [List.map_cons, svOf_den hx, svL_den hy]; rfl
      · cases h
    · cases h
def retS : List TV → Option TV
  | [u] => some u
  | us => match svL us with
    | some xs => some (.t xs)
    | none => none
theorem retS_den {ρ : Nm} {us : List TV} {u : TV} (h : retS us = some u) : retV ρ us = u.den ρ := by
  unfold retS at h
  split at h
  · cases h; rfl
  · rename_i hn
    split at h
    · rename_i xs hx
      cases h
      rw [show retV ρ us = .tuple (us.map (TV.den ρ)).toArray from ?_]
      · rw [svL_den hx]; rfl
      · unfold retV
        split
        · exact (hn _ rfl).elim
        · rfl
    · cases h
section
variable {X : Fx} {o : Oper} {T : TE} {L : LE} {n : Nat} {F : List Fact} {D : DF} {K : KK} {k : KS} {c : Code}
def argU (fi : List PV) (us : List TV) (ca : List PV) : List TV := fi.map (fun p => .o (match p with | .v x => .v x | .p k o => .p k o)) ++ us ++ ca.map (fun p => .o (match p with | .v x => .v x | .p k o => .p k o))
theorem argU_den {ρ : Nm} {fi ca : List PV} {us : List TV} : (argU fi us ca).map (TV.den ρ) = argV ρ fi us ca := by
  have h : ∀ l : List PV, (l.map (fun p => TV.o (match p with | .v x => .v x | .p k o => .p k o))).map (TV.den ρ) = l.map (PV.den ρ) := by
    intro l
    rw [List.map_map]
    refine List.map_congr_left fun p _ => ?_
    cases p <;> rfl
  simp only [argU, argV, List.map_append, h]
def Fi (X : Fx) (kc : Nat) (w : World) (A : Nat → Prop) (M N : List Nat) : Fx := ⟨X.P, X.tab, X.ok, none, 8, kc, w, A, M, N⟩
theorem Rel.inl {w w' : World} {A : Nat → Prop} {M N : List Nat} {a a' : Act} {r : Option Nat} {nn kc : Nat} {T' T2 : TE} {L' : LE} {n' : Nat} {F' : List Fact} {D' : DF} {u : TV} {v : Value} {d : Option Nat}
    (hold : Rel (Rt X r nn w A M N) T L n F D a w) (hN : N.length = n) (anc : Anc X A w M) (hNN : ∀ i b, i < n → X.N[i]? = some b → N[i]? = some b) (hXN : X.N.length ≤ n)
    (h : Rel (Fi X kc w A M N) T' L' n' F' D' a' w') (hv : ∀ A2 ρ, Rel0 (Fi X kc w A M N) T' L' F' D' A2 ρ a' w' → v = u.den ρ) (hp : putS X.k d u T = some T2) : Rel X T2 L' n' F' D (a.put d v) w' := by
  obtain ⟨hkb, ρ1, A2, h0⟩ := h
  obtain ⟨_, ρ2, A1, h1⟩ := hold
  refine ⟨hkb, ρ1, A2, fun ρ hρ => ?_⟩
  have h2 := h0 ρ hρ
  have e : ∀ j, j < n → ρ j = ρ2 j := fun j hj => by
    have g : N[j]? = some (N[j]'(by omega)) := List.getElem?_eq_getElem (by omega)
    rw [h2.mb j _ g, (h1 ρ2 (fun _ _ => rfl)).mb j _ g]
  have h3 := h1 ρ e
  obtain ⟨⟨e1, e2⟩, e3⟩ := putS_tm hp h3.sz h3.tm (hv A2 ρ h2)
  have hk := h2.kp
  have sz1 := anc.kp.size
  refine ⟨⟨e3, h2.lo, h2.a3⟩, e1, by rw [e2]; exact h3.df, ⟨hk.os.trans anc.kp.os, hk.tape.trans anc.kp.tape, hk.output.trans anc.kp.output, Nat.le_trans sz1 hk.size, fun b hb hm => ?_⟩, fun k e b hke hbk => ?_, h2.ds, fun b hb => ?_, h2.a2, fun i b hi => ?_⟩
  · refine (hk.keep b (Nat.lt_of_lt_of_le hb sz1) fun hbM => ?_).trans (anc.kp.keep b hb hm)
    rcases anc.m b hbM with h | h
    · exact hm h
    · omega
  · rcases h2.nw k e b hke hbk with h | h
    · exact anc.m b h
    · exact .inr (Nat.le_trans sz1 h)
  · rcases h2.a1 b hb with h | h
    · exact anc.a b h
    · exact .inr (Nat.le_trans sz1 h)
  · exact h2.mb i b (hNN i b (Nat.lt_of_lt_of_le (List.getElem?_eq_some_iff.1 hi).1 hXN) hi)
theorem Rel.hN {a : Act} {w : World} (h : Rel X T L n F D a w) : X.N.length ≤ n := by
  obtain ⟨_, ρ0, A, h0⟩ := h
  refine Nat.not_lt.1 fun hlt => ?_
  have hb := List.getElem?_eq_getElem hlt
  have := (h0 (fun j => if j = n then X.N[n] + 1 else ρ0 j) (fun j hj => if_neg (Nat.ne_of_lt hj))).mb n _ hb
  simp at this
def inlR (X : Fx) (o : Oper) (T : TE) (D : DF) (res : List ResultVar) (k : KS) (T' : TE) (L' : LE) (n' : Nat) (F' : List Fact) : Prop :=
  match resS X.tab T' L' res with
  | some us => match retS us with
    | some u => match putS X.k o.dst u T with
      | some T2 => k T2 L' n' F' D
      | none => False
    | none => False
  | none => False
def inlK (X : Fx) (o : Oper) (T : TE) (D : DF) (res : List ResultVar) (k : KS) (K : KK) : KK := fun e T' L' n' F' D' => match e with
  | .normal => D' = (fun _ => []) ∧ inlR X o T D res k T' L' n' F'
  | .ret => D' = (fun _ => []) ∧ inlR X o T D res k T' L' n' F'
  | .panic ch => D' = (fun _ => []) ∧ K (.panic ch) T L' n' F' D
  | _ => False
theorem ojs_inl {cl : Call} {f : Operand} {g : Nat} {fi ca : List PV} {us : List TV} {fn : Func} {body : Code} {kc : Nat} (hfn : X.P.funcs[g]? = some fn) (hkc : fn.ntmps = kc) (hb : fn.body = some body)
    (ho : o.op = .call cl) (hc : cl.callee = .value f) (hf : calS T f = some (g, fi, ca)) (hus : argS T cl.args.toList = some us) (hal : alook X.tab.fn g = some ()) (hul : Nat.ble (argU fi us ca).length kc = true)
    (h : ∀ w1 A1 M1 N1, N1.length = n → sx (Fi X kc w1 A1 M1 N1) body (argT 0 (argU fi us ca)) L n F (fun _ => []) (inlK X o T D fn.results.toList k K)) : OJs X o T L n F D k K := by
  intro Q hQ Φ hΦ a w hr
  obtain ⟨A0, ρ0, hv0⟩ := hr.one
  have hXN := hr.hN
  obtain ⟨A, M, N, hN, hNN, _, hA, hM, _, _, _, _, hrE⟩ := hr.root (n0 := n) (Nat.le_refl _) (fun _ => False) (fun _ h => h.elim) (Grow.refl w) (fun _ _ _ => rfl) X.r X.nn
  have anc : Anc X A w M := ⟨hA, hM, hv0.kp⟩
  refine Oper.wpIn_of_run (by simp [noDef, ho]) ?_
  rw [call_run hv0.toVw ho hc hf hus hal]
  refine ⟨fun hd => by simp [Fx.fe, Fence.wide] at hd, ?_⟩
  have ct : Calls X.P g (argV ρ0 fi us ca).toArray w (fun e w' => match e with
      | .returned v => ∃ T2 L2 n2 F2, k T2 L2 n2 F2 D ∧ Rel X T2 L2 n2 F2 D (a.put o.dst v) w'
      | .panicked ch => ∃ L2 n2 F2, K (.panic ch) T L2 n2 F2 D ∧ Rel X T L2 n2 F2 D a w'
      | .outgrown => False) := by
    refine (callsIn_wide (n := 8)).1 (callsIn_of_wp hfn hb trivial ?_ rfl)
    rw [hkc]
    have hbeg : Rel (Fi X kc w A M N) (argT 0 (argU fi us ca)) L n F (fun _ => []) { tmps := (argV ρ0 fi us ca).toArray ++ Array.replicate (kc - (argV ρ0 fi us ca).toArray.size) undef, defers := [] } w := by
      obtain ⟨hkb, ρ1, A2, h0⟩ := hrE
      refine ⟨hkb, ρ1, A2, fun ρ hρ => ?_⟩
      have h1 := h0 ρ hρ
      have hargs : argV ρ fi us ca = argV ρ0 fi us ca := by
        have e1 := call_run h1.toVw ho hc hf hus hal
        have e2 := call_run hv0.toVw ho hc hf hus hal
        have e3 := e1.symm.trans e2
        injection e3 with e3
        injection e3 with _ e3
        exact List.toArray_inj e3
      have hlen : (argV ρ0 fi us ca).length = (argU fi us ca).length := by rw [← argU_den (ρ := ρ0)]; simp
      have hle : (argU fi us ca).length ≤ kc := by rwa [Nat.ble_eq] at hul
      refine ⟨⟨fun t x hx => ?_, h1.lo, h1.a3⟩, by show Array.size _ = kc; simp; omega, rfl, h1.kp, h1.nw, h1.ds, h1.a1, h1.a2, h1.mb⟩
      obtain ⟨j, rfl, hj⟩ := argT_look hx
      have h4 : (argV ρ0 fi us ca)[j]? = some (x.den ρ) := by rw [← hargs, ← argU_den]; simp [hj]
      have hjl := (List.getElem?_eq_some_iff.1 h4).1
      rw [Nat.zero_add, Array.getD_eq_getD_getElem?, Array.getElem?_append_left (by simpa using hjl)]
      simp [h4]
    refine sx_sound (h w A M N hN) _ ?_ _ _ hbeg
    intro e T' L' n' F' D' hK a' w' hr'
    have ret : D' = (fun _ => []) ∧ inlR X o T D fn.results.toList k T' L' n' F' → a'.defers = [] ∧ ∃ v, (results fn a'.tmps).run X.P w' = .ok v w' ∧ ∃ T2 L2 n2 F2, k T2 L2 n2 F2 D ∧ Rel X T2 L2 n2 F2 D (a.put o.dst v) w' := by
      rintro ⟨hD, hR⟩
      unfold inlR at hR
      split at hR
      · rename_i us' hus'
        split at hR
        · rename_i u hu
          split at hR
          · rename_i T2 hp
            obtain ⟨A3, ρ3, h3⟩ := hr'.one
            have run := results_run h3.toVw (fn := fn) hus'
            refine ⟨by rw [h3.df, hD], _, run, T2, L', n', F', hR, hrE.inl hN anc hNN hXN hr' (fun A4 ρ4 h4 => ?_) hp⟩
            have run4 := results_run h4.toVw (fn := fn) hus'
            have e := run.symm.trans run4
            injection e with e
            rw [e, retS_den hu]
          · exact hR.elim
        · exact hR.elim
      · exact hR.elim
    cases e with
    | normal => exact ret hK
    | ret => exact ret hK
    | panic ch =>
      obtain ⟨hD, hR⟩ := hK
      obtain ⟨A3, ρ3, h3⟩ := hr'.one
      have := hrE.inl hN anc hNN hXN (u := .o (.v undef)) (v := undef) (d := none) (T2 := T) hr' (fun _ _ _ => rfl) rfl
      exact ⟨by rw [h3.df, hD], L', n', F', hR, this⟩
    | exit id => exact hK.elim
    | goto l => exact hK.elim
    | outgrown => exact hK.elim
  refine CallsIn.mono (show CallsIn X.fe (X.nn - 1) X.P g (argV ρ0 fi us ca).toArray w _ from ⟨trivial, ((callsIn_wide (n := X.nn - 1)).2 ct).2⟩) ?_
  rintro e w' he
  cases e with
  | returned v =>
    obtain ⟨T2, L2, n2, F2, hk, hr2⟩ := he
    exact hΦ _ _ _ _ _ hk _ w' hr2
  | panicked ch =>
    obtain ⟨L2, n2, F2, hk, hr2⟩ := he
    exact hQ _ _ _ _ _ _ hk a w' hr2
  | outgrown => exact he.elim
end
end Go.Proofs.YtmhnlkakbadkgaaGreat
