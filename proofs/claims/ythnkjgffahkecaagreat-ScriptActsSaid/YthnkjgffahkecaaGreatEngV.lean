/- A symbolic run: a family of rows of the call's own. No program is in sight. -/
import Derived.Test.YthnkjgffahkecaaGreatEng2
namespace Go.Proofs.YthnkjgffahkecaaGreat
open Go.RowKit Go.Shelf
theorem alook_append {α : Type} : ∀ (A B : List (Nat × α)) (t : Nat), alook (A ++ B) t = (alook A t).or (alook B t)
  | [], _, _ => rfl
  | (k, x) :: A, B, t => by
    rw [List.cons_append, alook_cons, alook_cons]
    split
    · rfl
    · exact alook_append A B t
theorem alook_pre {α : Type} {C B : List (Nat × α)} {m j : Nat} (h : (C.all fun p => Nat.blt p.1 m) = true) : alook (C ++ B) (j + m) = alook B (j + m) := by
  rw [alook_append]
  cases hc : alook C (j + m) with
  | none => rfl
  | some x => have := alook_all h hc; simp only [Nat.blt_eq] at this; omega
/-- Row j lies under key j + m, in block g j; it holds R j. -/
def rowO {α : Type} (e : TypeId) (sz : Nat) (enc : α → List Value) (l : Nat) (g : Nat) (xs : List α) : LC := .own (.slice (some ⟨g, 0, none⟩) l l) e sz l (xs.flatMap enc)
def famF {α : Type} (e : TypeId) (sz : Nat) (enc : α → List Value) (m l : Nat) (g : Nat → Nat) (R : Nat → List α) (N : Nat) : LE := (List.range N).map fun j => (j + m, rowO e sz enc l (g j) (R j))
section
variable {α : Type} {e : TypeId} {sz : Nat} {enc : α → List Value} {m l : Nat} {g : Nat → Nat} {R : Nat → List α}
theorem famF_succ (N : Nat) : famF e sz enc m l g R (N + 1) = famF e sz enc m l g R N ++ [(N + m, rowO e sz enc l (g N) (R N))] := by
  simp [famF, List.range_succ]
theorem famF_key : ∀ {N k : Nat} {x : LC}, alook (famF e sz enc m l g R N) k = some x → ∃ j, j < N ∧ k = j + m ∧ x = rowO e sz enc l (g j) (R j)
  | 0, _, _, h => by simp [famF, alook] at h
  | N + 1, k, x, h => by
    rw [famF_succ, alook_append, Option.or_eq_some_iff] at h
    rcases h with h | ⟨_, h⟩
    · obtain ⟨j, hj, h1, h2⟩ := famF_key h
      exact ⟨j, by omega, h1, h2⟩
    · rw [alook_cons] at h
      split at h
      · rename_i e
        cases h
        exact ⟨N, by omega, e, rfl⟩
      · simp [alook] at h
theorem famF_at : ∀ {N j : Nat}, j < N → alook (famF e sz enc m l g R N) (j + m) = some (rowO e sz enc l (g j) (R j))
  | N + 1, j, h => by
    rw [famF_succ, alook_append]
    by_cases hj : j < N
    · rw [famF_at hj]; rfl
    · have : j = N := by omega
      subst this
      cases hc : alook (famF e sz enc m l g R j) (j + m) with
      | some x => obtain ⟨i, hi, h1, _⟩ := famF_key hc; omega
      | none => exact alook_head _ _ _
theorem fam_look {C : LE} {N j : Nat} (hC : (C.all fun p => Nat.blt p.1 m) = true) (h : j < N) : alook (C ++ famF e sz enc m l g R N) (j + m) = some (rowO e sz enc l (g j) (R j)) := (alook_pre hC).trans (famF_at h)
variable {X : Fx} {T : TE} {L : LE} {n : Nat} {F : List Fact} {D : DF}
theorem wk_fam {C : LE} {N : Nat} {T' : TE} {n' : Nat} {F' : List Fact} {D' : DF} (hT : subTs n' T [] T') (hC : subLs n' L [] C) (hfs : ∀ j, j < N → alook L (j + m) = some (rowO e sz enc l (g j) (R j))) (hn : N + m ≤ n')
    (hF : ∀ A w, (∀ f ∈ F, f.h A w) → ∀ f ∈ F', f.h A w) (hM : X.N.length ≤ n') (hD : ∀ ρ ρ' : Nm, (∀ j, j < n' → ρ' j = ρ j) → D' ρ' = D ρ) : Wk X T L n F D ⟨T', C ++ famF e sz enc m l g R N, n', F', D'⟩ := by
  intro a w hr
  refine hr.weakL (fun _ _ h => subTs_look hT (by simp) h) (fun k x h => ?_) (fun A h => hF A w h) hD hM
  dsimp only at h
  rw [alook_append, Option.or_eq_some_iff] at h
  rcases h with h | ⟨_, h⟩
  · exact subLs_look hC (by simp) h
  · obtain ⟨j, hj, rfl, rfl⟩ := famF_key h
    exact ⟨by show j + m < n'; omega, rfl, hfs j hj⟩
/-- So many facts. -/
def allN (N : Nat) (f : Nat → Fact) : Fact := ⟨fun A w => ∀ j, j < N → (f j).h A w, fun hA hw hg h j hj => (f j).ok hA hw hg (h j hj)⟩
/-- The family is written no more. -/
theorem wk_sealFam {C : LE} (hC : (C.all fun p => Nat.blt p.1 m) = true) (hX : X.M = []) (henc : ∀ x, (enc x).length = sz) (hl : ∀ j, (R j).length = l) : ∀ (N : Nat) (F : List Fact), Wk X T (C ++ famF e sz enc m l g R N) n F D ⟨T, C, n, allN N (fun j => slF enc sz (.slice (some ⟨g j, 0, none⟩) l l) (R j)) :: F, D⟩
  | 0, F => by
    have h : Wk X T C n F D ⟨T, C, n, allN 0 (fun j => slF enc sz (.slice (some ⟨g j, 0, none⟩) l l) (R j)) :: F, D⟩ := wk_add _ fun A w _ j hj => by omega
    show Wk X T (C ++ []) n F D _
    rw [List.append_nil]
    exact h
  | N + 1, F => by
    have h1 : alook (C ++ famF e sz enc m l g R (N + 1)) (N + m) = some (.own (.slice (some ⟨g N, 0, none⟩) l l) e sz l ((R N).flatMap enc)) := fam_look hC (Nat.lt_succ_self N)
    have w1 := wk_seal (X := X) (T := T) (n := n) (F := F) (D := D) (j := N + m) (enc := enc) (xs := R N) (.inl hX) henc (hl N).symm h1
    have w2 : Wk X T ((N + m, .dead) :: (C ++ famF e sz enc m l g R (N + 1))) n (slF enc sz (.slice (some ⟨g N, 0, none⟩) l l) (R N) :: F) D ⟨T, C ++ famF e sz enc m l g R N, n, slF enc sz (.slice (some ⟨g N, 0, none⟩) l l) (R N) :: F, D⟩ := by
      intro a w hr
      refine hr.reL fun k x hx => ?_
      have hk : k ≠ N + m := by
        rintro rfl
        rw [alook_pre hC] at hx
        obtain ⟨j, hj, h2, _⟩ := famF_key hx
        omega
      refine ⟨x, ?_, fun _ => rfl, fun _ h => h⟩
      rw [alook_cons, if_neg hk, famF_succ, ← List.append_assoc, alook_append, hx]
      rfl
    have w3 := wk_sealFam hC hX henc hl N (slF enc sz (.slice (some ⟨g N, 0, none⟩) l l) (R N) :: F)
    have w4 : Wk X T C n (allN N (fun j => slF enc sz (.slice (some ⟨g j, 0, none⟩) l l) (R j)) :: slF enc sz (.slice (some ⟨g N, 0, none⟩) l l) (R N) :: F) D ⟨T, C, n, allN (N + 1) (fun j => slF enc sz (.slice (some ⟨g j, 0, none⟩) l l) (R j)) :: F, D⟩ := wk_facts _ fun A w hF f hf => by
      rcases List.mem_cons.1 hf with rfl | hf
      · intro j hj
        by_cases h : j < N
        · exact hF (allN N _) (List.mem_cons_self ..) j h
        · have : j = N := by omega
          subst this
          exact hF _ (by simp)
      · exact hF f (by simp [hf])
    exact w1.trans (w2.trans (w3.trans w4))
end
/-! ### Cells of rows -/
theorem flat_unit {zs : List Value} (hz : 0 < zs.length) : ∀ m : Nat, (List.range (m * zs.length)).map (fun i => zs.toArray[i % zs.toArray.size]!) = (List.replicate m ()).flatMap fun _ => zs
  | 0 => by simp
  | m + 1 => by
    have ih := flat_unit hz m
    rw [Nat.succ_mul, List.range_add, List.map_append, ih, List.replicate_succ', List.flatMap_append]
    congr 1
    simp only [List.flatMap_cons, List.flatMap_nil, List.append_nil, List.map_map]
    apply List.ext_getElem
    · simp
    · intro i h1 h2
      have hi : i < zs.length := h2
      simp [Nat.add_mod, Nat.mod_eq_of_lt hi, hi]
theorem made_flat {α : Type} {enc : α → List Value} {z : α} {zs : List Value} (hz : 0 < zs.length) (he : enc z = zs) (m : Nat) : (madeCells zs.toArray (m * zs.length)).toList = (List.replicate m z).flatMap enc := by
  have := flat_unit hz m
  simp only [madeCells, Array.toList_map, Array.toList_range]
  rw [this]
  clear this
  induction m with
  | zero => rfl
  | succ m ih => rw [List.replicate_succ, List.replicate_succ, List.flatMap_cons, List.flatMap_cons, ih, he]

section
variable {X : Fx} {T : TE} {L : LE} {F : List Fact}
theorem yd_max {o : Oper} {cl : Call} {x y : Operand} {ki kj : IntKind} {p q : Int} (ho : o.op = .call cl) (hc : cl.callee = .builtin .max) (hargs : cl.args.toList = [x, y]) (hx : evS T x = some (.o (.v (.int ki p)))) (hy : evS T y = some (.o (.v (.int kj q)))) : Yd X o T L F (.o (.v (.int ki (max p q)))) := by
  refine ⟨by simp [noDef, ho], fun A ρ a' w h0 => ?_⟩
  have e1 := h0.ev hx
  have e2 := h0.ev hy
  have ha : cl.args = #[x, y] := Array.ext' hargs
  simp only [TV.den, SV.den] at e1 e2
  simp [execOp, ho, resolve, hc, ha, e1, e2, invoke, builtin, Lib.run_max_ints, TV.den, SV.den]
theorem yd_min {o : Oper} {cl : Call} {x y : Operand} {ki kj : IntKind} {p q : Int} (ho : o.op = .call cl) (hc : cl.callee = .builtin .min) (hargs : cl.args.toList = [x, y]) (hx : evS T x = some (.o (.v (.int ki p)))) (hy : evS T y = some (.o (.v (.int kj q)))) : Yd X o T L F (.o (.v (.int ki (min p q)))) := by
  refine ⟨by simp [noDef, ho], fun A ρ a' w h0 => ?_⟩
  have e1 := h0.ev hx
  have e2 := h0.ev hy
  have ha : cl.args = #[x, y] := Array.ext' hargs
  simp only [TV.den, SV.den] at e1 e2
  simp [execOp, ho, resolve, hc, ha, e1, e2, invoke, builtin, Lib.run_min_ints, TV.den, SV.den]
end

theorem cjs_loopT {X : Fx} {T : TE} {L : LE} {n : Nat} {F : List Fact} {D : DF} {K : KK} {c : Code} {γ : Type} (p : γ → Prop) (PT : γ → TE) (LL : γ → LE) (nn : γ → Nat) (PF : γ → List Fact) (μ : γ → Nat) (g0 : γ) (h0 : p g0) (hw : Wk X T L n F D ⟨PT g0 ++ T, LL g0, nn g0, PF g0 ++ F, D⟩)
    (hr : ∀ g, p g → sx X c (PT g ++ T) (LL g) (nn g) (PF g ++ F) D (loopK X p (fun g => ⟨PT g ++ T, LL g, nn g, PF g ++ F, D⟩) μ g K)) : CJs X (.loop c) T L n F D K :=
  cjs_loop p (fun g => ⟨PT g ++ T, LL g, nn g, PF g ++ F, D⟩) μ g0 h0 hw hr
theorem optK_of {X : Fx} {o : Oper} {T : TE} {L : LE} {n : Nat} {F : List Fact} {D : DF} {k : KS} {K : KK} {u : TV} (hy : Yd X o T L F u) (h : optK X o T L n F D k u) : OJs X o T L n F D k K := optK_yd hy h

theorem wk_down {X : Fx} {T : TE} {L L' : LE} {n n' : Nat} {F F' : List Fact} {D : DF} (hT : subTs n' T [] T) (hL : subLs n' L [] L') (hF : ∀ f ∈ F', f ∈ F) (hM : X.N.length ≤ n') (hD : ∀ ρ ρ' : Nm, (∀ j, j < n' → ρ' j = ρ j) → D ρ' = D ρ) : Wk X T L n F D ⟨T, L', n', F', D⟩ := wk_patch hT hL hF hM hD

theorem yd_binOp {X : Fx} {o : Oper} {T : TE} {L : LE} {F : List Fact} {bop : BinOp} {t t2 : TypeId} {x y : Operand} {ux uy : TV} {u v r : Value} (ho : o.op = .binOp bop t x y t2) (hx : evS T x = some ux) (hy : evS T y = some uy) (hu : ∀ ρ, ux.den ρ = u) (hv : ∀ ρ, uy.den ρ = v)
    (hg : ∀ w, (eqGuard bop t x y u v).run X.P w = .ok () w) (hb : ∀ w, (binOp bop t u v).run X.P w = .ok r w) : Yd X o T L F (.o (.v r)) := by
  refine ⟨by simp [noDef, ho], fun A ρ a w h0 => ?_⟩
  have e1 := h0.ev hx
  have e2 := h0.ev hy
  rw [hu] at e1
  rw [hv] at e2
  simp only [execOp, ho, e1, e2, Sem.run_bind, hg, Result.andThen_ok, hb, Sem.run_pure, TV.den, SV.den]

end Go.Proofs.YthnkjgffahkecaaGreat
