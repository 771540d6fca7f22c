/- Part 6 of the proof of LockBacks: contracts of functions that the law reaches, or the rules by which they are walked. No condition. -/
import Derived.Test.YtmhnlkakbadkgaaGreatPkad
import Derived.Test.YtmhnlkakbadkgaaGreatPkae
import Derived.Laws.Slices
import Derived.Laws.Strings2
import Derived.Lib.Strings
import Derived.Test.YtmhnlkakbadkgaaGreatPkac
import Derived.MapKept
import Derived.Laws.Build
namespace Go.Proofs.YtmhnlkakbadkgaaGreat
open Go.RowKit Go.Shelf
section
variable {X : Fx} {T : TE} {L : LE} {n : Nat} {F : List Fact} {D : DF} {K : KK} {o : Oper} {k : KS} {c : Code}
theorem yd_arrIdx {t : TypeId} {x ix : Operand} {cells : List SV} {ki : IntKind} {z : Int} {i m e sz : Nat} {kd : Option Nat} {u : TV} (hz : z = (i : Int)) (hi : i < m) (ho : o.op = .index t x ix) (ha : alook X.tab.ar t = some (m, e, sz)) (hk : alook X.tab.kd e = some kd) (hx : evS T x = some (.g cells)) (hix : evS T ix = some (.o (.v (.int ki z)))) (hp : partS kd cells (i * sz) = some u) : Yd X o T L F u := by
  subst hz
  refine ⟨by simp [noDef, ho], fun A ρ a w h0 => ?_⟩
  obtain ⟨h1, i', h2, h3⟩ := tyA_spec (X.ok.ar _ _ ha)
  simp only at h1 h2 h3
  have := run_part (X.ok.kd _ _ hk) (partS_den hp ρ) w
  simp [execOp, ho, h0.ev hx, h0.ev hix, TV.den, SV.den, Instr.index, asIntOf, run_underlying h1, sizeOf, typeInfo, h2, h3, hi, this]
theorem yd_arrIdxV {t : TypeId} {x ix : Operand} {cs : Array Value} {ki : IntKind} {z : Int} {i m e sz : Nat} {kd : Option Nat} {u : TV} (hz : z = (i : Int)) (hi : i < m) (ho : o.op = .index t x ix) (ha : alook X.tab.ar t = some (m, e, sz)) (hk : alook X.tab.kd e = some kd) (hx : evS T x = some (.o (.v (.agg cs)))) (hix : evS T ix = some (.o (.v (.int ki z)))) (hp : partS kd (cs.toList.map SV.v) (i * sz) = some u) : Yd X o T L F u := by
  subst hz
  refine ⟨by simp [noDef, ho], fun A ρ a w h0 => ?_⟩
  obtain ⟨h1, i', h2, h3⟩ := tyA_spec (X.ok.ar _ _ ha)
  simp only at h1 h2 h3
  have := run_part (X.ok.kd _ _ hk) (partS_den hp ρ) w
  rw [map_v_den] at this
  simp only [Array.toArray_toList] at this
  simp [execOp, ho, h0.ev hx, h0.ev hix, TV.den, SV.den, Instr.index, asIntOf, run_underlying h1, sizeOf, typeInfo, h2, h3, hi, this]
def divS (op : BinOp) (a b : Int) : Option Int := match op with | .quo => some (a.tdiv b) | .rem => some (a.tmod b) | _ => none
theorem yd_div {bop : BinOp} {t t2 : TypeId} {x y : Operand} {p q r : Int} (hq : q ≠ 0) (hlo : -9223372036854775808 ≤ r) (hhi : r ≤ 9223372036854775807) (ho : o.op = .binOp bop t x y t2) (hx : evS T x = some (.o (.v (.int .i64 p)))) (hy : evS T y = some (.o (.v (.int .i64 q)))) (hr : divS bop p q = some r) : Yd X o T L F (.o (.v (.int .i64 r))) := by
  refine ⟨by simp [noDef, ho], fun A ρ a w h0 => ?_⟩
  have e1 := h0.ev hx
  have e2 := h0.ev hy
  simp only [TV.den, SV.den] at e1 e2
  have hgd : (eqGuard bop t x y (.int .i64 p) (.int .i64 q)).run X.P w = .ok () w := by
    unfold eqGuard
    cases bop <;> simp
  have hw := wrap_in hlo hhi
  unfold divS at hr
  split at hr <;> cases hr <;> simp [execOp, ho, e1, e2, hgd, binOp, Op.intDiv, hq, hw, TV.den, SV.den]
def isInt (P : Program) (t : TypeId) (k : IntKind) : Bool := match P.underlying t with | some (.int k') => Nat.beq (ikN k) (ikN k') | _ => false
def jumpK (l : Nat) (J : TE → LE → Nat → List Fact → DF → Prop) (K : KK) : KK := fun e T L n F D => match e with
  | .goto l' => l' = l ∧ J T L n F D
  | e => K e T L n F D
theorem cjs_scopeF {rest : Code} (l : Nat) (hr : X.r = none) (hf : findLabel c l = some rest) (h : sx X c T L n F D (jumpK l (fun T L n F D => sx X rest T L n F D (noGoK K)) K)) : CJs X (.scope c) T L n F D K := by
  intro Q hQ a w hrel
  have hfe : X.fe = Fence.wide := by unfold Fx.fe; rw [hr]; rfl
  have key : ∀ T L n F D, sx X rest T L n F D (noGoK K) → ∀ a w, Rel X T L n F D a w → rest.wp X.P (Exit.noGoto Q) a w := fun T L n F D hs a w hrel => by
    have := sx_sound hs (Exit.noGoto Q) (fun e T L n F D hK a w hr' => by
      cases e with
      | goto l => exact hK.elim
      | normal => exact hQ _ _ _ _ _ _ hK a w hr'
      | exit id => exact hQ _ _ _ _ _ _ hK a w hr'
      | ret => exact hQ _ _ _ _ _ _ hK a w hr'
      | panic ch => exact hQ _ _ _ _ _ _ hK a w hr'
      | outgrown => exact hQ _ _ _ _ _ _ hK a w hr') a w hrel
    rw [hfe] at this
    exact wpIn_wide.1 this
  have := sx_sound h (Exit.jump l (fun a w => rest.wp X.P (Exit.noGoto Q) a w) Q) (fun e T L n F D hK a w hr' => by
    cases e with
    | goto l => exact ⟨hK.1, key _ _ _ _ _ hK.2 a w hr'⟩
    | normal => exact hQ _ _ _ _ _ _ hK a w hr'
    | exit id => exact hQ _ _ _ _ _ _ hK a w hr'
    | ret => exact hQ _ _ _ _ _ _ hK a w hr'
    | panic ch => exact hQ _ _ _ _ _ _ hK a w hr'
    | outgrown => exact hQ _ _ _ _ _ _ hK a w hr') a w hrel
  rw [hfe] at this ⊢
  exact wpIn_wide.2 (wp_scope_fwd l hf (wpIn_wide.1 this))
end
section
variable {X : Fx} {T : TE} {L : LE} {n : Nat} {F : List Fact} {D : DF} {K : KK} {o : Oper} {c : Code}
theorem yd_bound {fn : FuncId} {x : Operand} {u : TV} {v : Value} (ho : o.op = .makeFunc (.func fn) #[x] #[]) (hx : evS T x = some u) (hu : ∀ ρ, u.den ρ = v) : Yd X o T L F (.o (.v (.func (.func fn) #[v] #[]))) := by
  refine ⟨by simp [noDef, ho], fun A ρ a w h0 => ?_⟩
  have e1 := h0.ev hx
  rw [hu] at e1
  simp [execOp, ho, Instr.makeFunc, e1, TV.den, SV.den]
theorem cjs_loopX {γ : Type} (p : γ → Prop) (PT : γ → TE) (PL : γ → LE) (FF : γ → List Fact) (μ : γ → Nat) (g0 : γ) (h0 : p g0) (hw : Wk X T L n F D ⟨PT g0 ++ T, PL g0 ++ L, n, FF g0, D⟩)
    (hr : ∀ g, p g → sx X c (PT g ++ T) (PL g ++ L) n (FF g) D (loopK X p (fun g => ⟨PT g ++ T, PL g ++ L, n, FF g, D⟩) μ g K)) : CJs X (.loop c) T L n F D K :=
  cjs_loop p (fun g => ⟨PT g ++ T, PL g ++ L, n, FF g, D⟩) μ g0 h0 hw hr
end
section
variable {X : Fx} {T : TE} {L : LE} {F : List Fact} {o : Oper}
theorem yd_buildA {t : TypeId} {parts : Array (Nat × Operand)} {m e sz : Nat} {zs : List Nat} {cs : List SV} (ho : o.op = .build t parts) (ha : alook X.tab.ar t = some (m, e, sz)) (hz : alook X.tab.ze t = some zs) (hl : zs.length = parts.toList.length * sz) (hcs : ordS sz T 0 parts.toList = some cs) : Yd X o T L F (.g cs) := by
  refine ⟨by simp [noDef, ho], fun A ρ a w h0 => ?_⟩
  obtain ⟨h1, i', h2, h3⟩ := tyA_spec (X.ok.ar _ _ ha)
  simp only at h1 h2 h3
  obtain ⟨i, z, hi, hz1, hz2⟩ := tyZ_is (X.ok.ze _ _ hz)
  have hlen : (denL ρ (zcells zs)).length = (0 + parts.toList.length) * sz := by simp [denL, zcells, hl]
  have hf := (ordS_den h0 hcs hlen).1
  have hb : X.P.built t (parts.map fun (i, x) => (i, a.eval x)).toList = some (denL ρ cs).toArray := by
    unfold Program.built
    simp only [hi, h1, hz1, h2, h3, hz2 ρ]
    rw [Array.toList_map]
    simpa using hf
  simp only [execOp, ho, Sem.run_bind, run_build w t _ _ hb, Result.andThen_ok, Sem.run_pure, TV.den]
end
end Go.Proofs.YtmhnlkakbadkgaaGreat
namespace Go.Proofs.YtmhnlkakbadkgaaGreat
open Go.RowKit Go.Shelf
theorem count_set {l : List Bool} : ∀ {i : Nat}, l[i]? = some false → (l.set i true).count false + 1 = l.count false := by
  induction l with
  | nil => intro i h; simp at h
  | cons b l ih =>
    intro i h
    cases i with
    | zero =>
      simp only [List.getElem?_cons_zero, Option.some.injEq] at h
      subst h
      simp
    | succ i =>
      simp only [List.getElem?_cons_succ] at h
      have := ih h
      simp only [List.set_cons_succ, List.count_cons]
      omega
theorem count_none {l : List Bool} (h : l.count false = 0) {i : Nat} (hi : i < l.length) : l[i]? = some true := by
  rw [List.count_eq_zero] at h
  rw [List.getElem?_eq_getElem hi]
  cases hb : l[i] with
  | true => rfl
  | false => exact absurd (hb ▸ List.getElem_mem hi) h
def acycB (ops : List Oper) : Bool := (List.range ops.length).all fun i => match ops[i]? with
  | some o => o.after.toList.all fun e => !Region.binds .any e || Nat.blt e.on i
  | none => true
theorem acycB_spec {ops : List Oper} (h : acycB ops = true) {i : Nat} {o : Oper} (ho : ops[i]? = some o) {e : Edge} (he : e ∈ o.after) (hb : Region.binds .any e = true) : e.on < i := by
  have hi := (List.getElem?_eq_some_iff.1 ho).1
  have := List.all_eq_true.1 h i (List.mem_range.2 hi)
  simp only [ho] at this
  have := List.all_eq_true.1 this e (by simpa using he)
  simpa [hb] using this
def upd (done : Nat → Bool) (i : Nat) : Nat → Bool := fun j => Nat.beq j i || done j
theorem upd_self (done : Nat → Bool) (i : Nat) : upd done i i = true := by simp [upd]
theorem upd_old {done : Nat → Bool} {i j : Nat} (h : done j = true) : upd done i j = true := by simp [upd, h]
theorem upd_ne {done : Nat → Bool} {i j : Nat} (h : j ≠ i) : upd done i j = done j := by
  have : Nat.beq j i = false := by rw [Bool.eq_false_iff]; simpa using h
  simp [upd, this]
section
variable {Fe : Fence} {nn : Nat} {P : Program} {Q : Exit → Act → World → Prop}
theorem wpAny_inv {ops : Array Oper} (I : (Nat → Bool) → Act → World → Prop) (hac : acycB ops.toList = true)
    (hstep : ∀ (done : Nat → Bool) i o a w, ops[i]? = some o → done i = false → (∀ e ∈ o.after, Region.binds .any e = true → done e.on = true) → I done a w → wpOpIn Fe nn P ops Q i (fun a' w' => I (upd done i) a' w') a w)
    (hfin : ∀ (done : Nat → Bool) a w, (∀ i, i < ops.size → done i = true) → I done a w → Q .normal a w) :
    ∀ (fuel : Nat) (listed : Array Bool) (a : Act) (w : World), listed.size = ops.size → listed.toList.count false ≤ fuel → I (fun j => listed.getD j false) a w → wpAnyIn Fe nn P .any ops Q fuel listed a w := by
  have full : ∀ (listed : Array Bool), listed.size = ops.size → Region.ready .any ops listed = [] → ∀ i, i < ops.size → listed.getD i false = true := by
    intro listed hl h0 i
    induction i using Nat.strongRecOn with
    | _ i ih =>
      intro hi
      cases hb : listed.getD i false with
      | true => rfl
      | false =>
        exfalso
        obtain ⟨o, ho⟩ : ∃ o, ops[i]? = some o := ⟨_, Array.getElem?_eq_getElem hi⟩
        have : i ∈ Region.ready .any ops listed := mem_ready.2 ⟨by
          simp only [Array.getD_eq_getD_getElem?, Array.getElem?_eq_getElem (show i < listed.size by omega), Option.getD_some] at hb ⊢
          exact hb, o, ho, fun e he hbd => by
            have hlt := acycB_spec hac (by simpa using ho) he hbd
            exact ih e.on hlt (by omega)⟩
        rw [h0] at this
        cases this
  have none0 : ∀ (listed : Array Bool), listed.size = ops.size → listed.toList.count false = 0 → Region.ready .any ops listed = [] := by
    intro listed hl h0
    rw [List.eq_nil_iff_forall_not_mem]
    intro i hi
    obtain ⟨h1, o, ho, _⟩ := mem_ready.1 hi
    have hlt := (Array.getElem?_eq_some_iff.1 ho).1
    have := count_none h0 (i := i) (by simpa [hl] using hlt)
    simp only [Array.getD_eq_getD_getElem?, Array.getElem?_toList] at h1 this
    rw [this] at h1
    simp at h1
  intro fuel
  induction fuel with
  | zero =>
    intro listed a w hl hc hI
    have h0 := none0 listed hl (Nat.le_zero.1 hc)
    exact ⟨h0, hfin _ a w (full listed hl h0) hI⟩
  | succ fuel ih =>
    intro listed a w hl hc hI
    refine ⟨fun h0 => hfin _ a w (full listed hl h0) hI, fun i hi => ?_⟩
    obtain ⟨h1, o, ho, hd⟩ := mem_ready.1 hi
    have hlt := (Array.getElem?_eq_some_iff.1 ho).1
    have hli : listed[i]? = some false := by
      rw [Array.getElem?_eq_getElem (show i < listed.size by omega)]
      simp only [Array.getD_eq_getD_getElem?, Array.getElem?_eq_getElem (show i < listed.size by omega), Option.getD_some] at h1
      rw [h1]
    refine wpOpIn_mono (fun a' w' h => ?_) (hstep (fun j => listed.getD j false) i o a w ho (by simp [Array.getD_eq_getD_getElem?, hli]) hd hI)
    refine ih _ a' w' (by simpa using hl) ?_ ?_
    · have := count_set (l := listed.toList) (i := i) (by simpa using hli)
      simp only [Array.toList_setIfInBounds]
      omega
    · have e : (fun j => (listed.setIfInBounds i true).getD j false) = upd (fun j => listed.getD j false) i := by
        funext j
        by_cases hj : j = i
        · subst hj
          rw [upd_self]
          simp [Array.getD_eq_getD_getElem?, show j < listed.size by omega]
        · rw [upd_ne hj]
          simp [Array.getD_eq_getD_getElem?, Array.getElem?_setIfInBounds_ne (Ne.symm hj)]
      rw [e]
      exact h
end
section
variable {X : Fx} {T : TE} {L : LE} {n : Nat} {F : List Fact} {D : DF} {K : KK} {k : KS} {o : Oper}
def mE : Nat → List (Int × Value) → List MapEntry
  | _, [] => []
  | i, (z, v) :: r => { key := .int .i64 z, val := v, born := i } :: mE (i + 1) r
def mapO (ms : List (Int × Value)) : Obj := .map (mE 0 ms).toArray ms.length
def mlook : List (Int × Value) → Int → Option Value
  | [], _ => none
  | (z, v) :: r, k => if k = z then some v else mlook r k
theorem mE_snoc (z : Int) (v : Value) : ∀ (ms : List (Int × Value)) (i : Nat), mE i (ms ++ [(z, v)]) = mE i ms ++ [{ key := .int .i64 z, val := v, born := i + ms.length }]
  | [], i => rfl
  | (y, u) :: r, i => by
    simp only [List.cons_append, mE, mE_snoc z v r (i + 1), List.length_cons]
    rw [show i + 1 + r.length = i + (r.length + 1) by omega]
theorem mlook_snoc {z k : Int} {v : Value} : ∀ {ms : List (Int × Value)}, mlook (ms ++ [(z, v)]) k = (mlook ms k).or (if k = z then some v else none)
  | [] => by simp [mlook]
  | (y, u) :: r => by
    simp only [List.cons_append, mlook]
    split
    · rfl
    · exact mlook_snoc
theorem find_mE {k : Int} : ∀ (ms : List (Int × Value)) (j i : Nat), Instr.findNow (.int .i64) (.int .i64 k) (mE j ms) i = some (match mlook ms k with | some v => some (i + (ms.findIdx fun p => p.1 == k), v) | none => none)
  | [], _, _ => rfl
  | (y, u) :: r, j, i => by
    simp only [mE, Instr.findNow, Instr.sameNow, mlook]
    by_cases h : k = y
    · subst h
      simp [List.findIdx_cons]
    · have h2 : (k == y) = false := by simpa using h
      have h3 : (y == k) = false := by simpa using (fun e : y = k => h e.symm)
      simp only [if_neg h, h2, if_true, find_mE r (j + 1) (i + 1), List.findIdx_cons, h3, cond_false]
      cases mlook r k with
      | none => rfl
      | some v => simp; omega
def isMapI (P : Program) (t e : TypeId) : Bool := match P.underlying t with
  | some (.map q e') => Nat.beq e e' && isInt P q .i64
  | _ => false
theorem isMapI_spec {P : Program} {t e : TypeId} (h : isMapI P t e = true) : ∃ q, P.underlying t = some (.map q e) ∧ P.underlying q = some (.int .i64) := by
  unfold isMapI at h
  split at h
  · rename_i q e' ht
    rw [Bool.and_eq_true, Nat.beq_eq] at h
    obtain ⟨rfl, h⟩ := h
    refine ⟨q, ht, ?_⟩
    unfold isInt at h
    split at h
    · rename_i k' hk
      have := ikN_inj (Nat.eq_of_beq_eq_true h)
      rw [hk, ← this]
    · cases h
  · cases h
def isMapK (P : Program) (t : TypeId) : Bool := match P.underlying t with
  | some (.map q _) => isInt P q .i64
  | _ => false
theorem isMapK_spec {P : Program} {t : TypeId} (h : isMapK P t = true) : ∃ e, isMapI P t e = true := by
  unfold isMapK at h
  split at h
  · rename_i q e ht
    exact ⟨e, by simp [isMapI, ht, h]⟩
  · cases h
theorem checkKey_int {P : Program} {q : TypeId} (hq : P.underlying q = some (.int .i64)) (em : Bool) (n : Nat) (z : Int) (w : World) : (Instr.checkKey em (n + 1) q (.int .i64 z)).run P w = .ok () w := by
  simp [Instr.checkKey, run_underlying hq]
theorem findKey_int {P : Program} {q : TypeId} (hq : P.underlying q = some (.int .i64)) (z : Int) (ms : List (Int × Value)) (w : World) :
    (Instr.findKey q (.int .i64 z) (mE 0 ms)).run P w = .ok (match mlook ms z with | some v => some (0 + (ms.findIdx fun p => p.1 == z), v) | none => none) w := by
  simp only [Instr.findKey, Sem.run_bind, run_underlying hq, Result.andThen_ok, find_mE, Sem.run_pure]
theorem run_insert {P : Program} {t e : TypeId} (ht : isMapI P t e = true) {g : Nat} {ms : List (Int × Value)} {z : Int} (hz : mlook ms z = none) (v : Value) {w : World} (hg : w.heap[g]? = some (mapO ms)) :
    (Instr.mapUpdate t (.map (some g)) (.int .i64 z) v).run P w = .ok () { w with heap := w.heap.setIfInBounds g (mapO (ms ++ [(z, v)])) } := by
  obtain ⟨q, h1, h2⟩ := isMapI_spec ht
  have hf := findKey_int h2 z ms w
  rw [hz] at hf
  have hs := MapKept.run_setObj_map (P := P) (.map ((mE 0 ms).toArray.push { key := .int .i64 z, val := v, born := ms.length }) (ms.length + 1)) hg
  have e : mapO (ms ++ [(z, v)]) = .map ((mE 0 ms).toArray.push { key := .int .i64 z, val := v, born := ms.length }) (ms.length + 1) := by
    simp [mapO, mE_snoc]
  rw [e]
  simp only [Instr.mapUpdate, Sem.run_bind, run_underlying h1, Result.andThen_ok, MapKept.run_getObj_map hg, checkKey_int h2, hf, hs]
theorem Rel.ob {a : Act} {w w' : World} {j g : Nat} {o o' : Obj} (h : Rel X T L n F D a w) (hj : alook L j = some (.ob g o)) (ho : w'.heap[g]? = some o') (hg : w.grownBy w' (some g)) : Rel X T ((j, .ob g o') :: L) n F D a w' := by
  obtain ⟨hkb, ρ0, A, h0⟩ := h
  refine ⟨fun k e hk => ?_, ρ0, A, fun ρ hρ => ?_⟩
  · rw [alook_cons] at hk
    split at hk
    · rename_i ek; rw [ek]; exact hkb _ _ hj
    · exact hkb _ _ hk
  have h1 := h0 ρ hρ
  have old : ∀ b, b < w.heap.size → b ≠ g → w'.heap[b]? = w.heap[b]? := fun b hb hn => hg.block b hb (fun e => hn (Option.some.inj e))
  have hgl : g < w.heap.size := LC.lt (h1.lo j _ hj) rfl
  have bl : ∀ k e' b, alook ((j, LC.ob g o') :: L) k = some e' → e'.blk ρ k = some b → (k = j ∧ b = g) ∨ (k ≠ j ∧ alook L k = some e' ∧ b < w.heap.size ∧ b ≠ g) := by
    intro k e' b hk hb
    rw [alook_cons] at hk
    split at hk
    · rename_i ek; cases hk; exact .inl ⟨ek, by simpa [LC.blk] using hb.symm⟩
    · rename_i ek
      exact .inr ⟨ek, hk, LC.lt (h1.lo k e' hk) hb, fun hv => ek (h1.ds k j e' _ b hk hj hb (by rw [hv]; rfl))⟩
  have Ab : ∀ b, A b → b ≠ g := fun b hb e => (h1.a2 b hb).2 j _ hj (by rw [e]; rfl)
  refine ⟨⟨h1.tm, ?_, fun f hf => f.ok (w := w) (fun _ h => h) (fun b hb => old b (h1.a2 b hb).1 (Ab b hb)) ⟨hg.os, hg.tape, hg.output, hg.size⟩ (h1.a3 f hf)⟩, h1.sz, h1.df, ?_, ?_, ?_, h1.a1, ?_, h1.mb⟩
  · intro k e' hk
    have hk0 := hk
    rw [alook_cons] at hk
    split at hk
    · cases hk; exact ho
    · rename_i ek
      refine LC.keep (w := w) (h1.lo k e' hk) fun b hb => ?_
      rcases bl k e' b hk0 hb with ⟨e1, _⟩ | ⟨_, _, h3, h4⟩
      · exact absurd e1 ek
      · exact old b h3 h4
  · refine ⟨hg.os.trans h1.kp.os, hg.tape.trans h1.kp.tape, hg.output.trans h1.kp.output, Nat.le_trans h1.kp.size hg.size, fun b hb hm => ?_⟩
    rw [old b (Nat.lt_of_lt_of_le hb h1.kp.size) (fun hv => ?_)]
    · exact h1.kp.keep b hb hm
    · subst hv
      rcases h1.nw j _ b hj rfl with h2 | h2
      · exact hm h2
      · omega
  · intro k e' b hk hb
    rcases bl k e' b hk hb with ⟨_, hv⟩ | ⟨_, h2, _, _⟩
    · subst hv; exact h1.nw j _ b hj rfl
    · exact h1.nw k e' b h2 hb
  · intro k1 k2 f1 f2 b hk1 hk2 hb1 hb2
    rcases bl k1 f1 b hk1 hb1 with ⟨e1, hv1⟩ | ⟨_, h2, h3, h4⟩ <;> rcases bl k2 f2 b hk2 hb2 with ⟨e2, hv2⟩ | ⟨_, h2', h3', h4'⟩
    · rw [e1, e2]
    · exact absurd hv1 h4'
    · exact absurd hv2 h4
    · exact h1.ds k1 k2 f1 f2 b h2 h2' hb1 hb2
  · intro b hb
    refine ⟨Nat.lt_of_lt_of_le (h1.a2 b hb).1 hg.size, fun k e' hk hbk => ?_⟩
    rcases bl k e' b hk hbk with ⟨_, hv⟩ | ⟨_, h2, _, _⟩
    · exact Ab b hb hv
    · exact (h1.a2 b hb).2 k e' h2 hbk
theorem Rel.newOb {a : Act} {w : World} (ob : Obj) (h : Rel X T L n F D a w) : Rel X T ((n, .ob w.heap.size ob) :: L) (n + 1) F D a (w.alloc ob) := by
  obtain ⟨hkb, ρ0, A, h0⟩ := h
  refine ⟨fun k e hk => ?_, ρ0, A, fun ρ hρ => ?_⟩
  · rw [alook_cons] at hk
    split at hk
    · omega
    · have := hkb k e hk; omega
  have h1 := h0 ρ (fun j hj => hρ j (by omega))
  have hW : X.w0.heap.size ≤ w.heap.size := h1.kp.size
  have old : ∀ b, b < w.heap.size → (w.alloc ob).heap[b]? = w.heap[b]? := fun b hb => Below.heap_alloc w _ b hb
  have bl : ∀ k e b, alook ((n, LC.ob w.heap.size ob) :: L) k = some e → e.blk ρ k = some b → (k = n ∧ b = w.heap.size) ∨ (k ≠ n ∧ alook L k = some e ∧ b < w.heap.size) := by
    intro k e b hk hb
    rw [alook_cons] at hk
    split at hk
    · rename_i ek; cases hk; exact .inl ⟨ek, by simpa [LC.blk] using hb.symm⟩
    · rename_i ek; exact .inr ⟨ek, hk, LC.lt (h1.lo k e hk) hb⟩
  refine ⟨⟨h1.tm, ?_, fun f hf => f.ok (fun _ h => h) (fun b hb => old b (h1.a2 b hb).1) ⟨rfl, rfl, rfl, by simp⟩ (h1.a3 f hf)⟩, h1.sz, h1.df, h1.kp.trans ⟨rfl, rfl, rfl, by simp, fun b hb _ => old b hb⟩, ?_, ?_, h1.a1, ?_, h1.mb⟩
  · intro k e hk
    rw [alook_cons] at hk
    split at hk
    · cases hk
      exact World.alloc_heap_new w _
    · exact LC.keep (h1.lo k e hk) fun b hb => old b (LC.lt (h1.lo k e hk) hb)
  · intro k e b hk hb
    rcases bl k e b hk hb with ⟨_, rfl⟩ | ⟨_, h3, _⟩
    · exact .inr hW
    · exact h1.nw k e b h3 hb
  · intro k k' e e' b hk hk' hb hb'
    rcases bl k e b hk hb with ⟨rfl, rfl⟩ | ⟨_, h3, h4⟩ <;> rcases bl k' e' _ hk' hb' with ⟨rfl, _⟩ | ⟨_, h3', h4'⟩
    · rfl
    · omega
    · omega
    · exact h1.ds k k' e e' b h3 h3' hb hb'
  · intro b hb
    refine ⟨by have := (h1.a2 b hb).1; simp; omega, fun k e hk hbk => ?_⟩
    rcases bl k e b hk hbk with ⟨_, rfl⟩ | ⟨_, h3, _⟩
    · have := (h1.a2 _ hb).1; omega
    · exact (h1.a2 b hb).2 k e h3 hbk
theorem ojs_makeMap {t : TypeId} {d : Nat} (ho : o.op = .makeMap t none) (hd : o.dst = some d) (hdk : Nat.blt d X.k = true)
    (h : ∀ g, k ((d, .o (.v (.map (some g)))) :: T) ((n, .ob g (mapO [])) :: L) (n + 1) F D) : OJs X o T L n F D k K := by
  intro Q hQ Φ hΦ a w hr
  refine Oper.wpIn_of_run (by simp [noDef, ho]) ?_
  have e1 : (execOp a.eval o).run X.P w = .ok (.value (.map (some w.heap.size))) (w.alloc (mapO [])) := by
    simp [execOp, ho, Instr.makeMap, mapO, mE]
  rw [e1]
  refine hΦ _ _ _ _ _ (h w.heap.size) _ _ ((hr.newOb (mapO [])).put (u := .o (.v (.map (some w.heap.size)))) (fun _ _ _ => rfl) (by simp [putS, hd, hdk]))
end
end Go.Proofs.YtmhnlkakbadkgaaGreat
namespace Go.Proofs.YtmhnlkakbadkgaaGreat
open Go.RowKit Go.Shelf
def idxI {α : Type} (p : α → Bool) (xs : List α) : Int := match xs.findIdx? p with | some i => (i : Int) | none => -1
theorem idxI_atE {α : Type} {p : α → Bool} {xs : List α} {k : Nat} {x : α} (hno : ∀ (j : Nat) (x : α), j < k → xs[j]? = some x → p x = false) (hx : xs[k]? = some x) (hp : p x = true) : idxI p xs = k := by
  have : xs.findIdx? p = some k := by
    rw [List.findIdx?_eq_some_iff_getElem]
    obtain ⟨hkl, hxe⟩ := List.getElem?_eq_some_iff.1 hx
    refine ⟨hkl, by rw [hxe, hp], fun j hj => ?_⟩
    rw [hno j _ hj (List.getElem?_eq_getElem (by omega))]
    simp
  unfold idxI
  rw [this]
theorem idxI_noneE {α : Type} {p : α → Bool} {xs : List α} (hno : ∀ (j : Nat) (x : α), xs[j]? = some x → p x = false) : idxI p xs = -1 := by
  have : xs.findIdx? p = none := by
    rw [List.findIdx?_eq_none_iff]
    intro x hx
    obtain ⟨j, hj⟩ := List.mem_iff_getElem?.1 hx
    exact hno j x hj
  unfold idxI
  rw [this]
theorem idxI_any {α : Type} {p : α → Bool} {xs : List α} : decide (0 ≤ idxI p xs) = xs.any p := by
  unfold idxI
  cases h : xs.findIdx? p with
  | none =>
    rw [List.findIdx?_eq_none_iff] at h
    have : xs.any p = false := List.any_eq_false.2 fun x hx => by simp [h x hx]
    rw [this]; rfl
  | some i =>
    obtain ⟨hi, hp, _⟩ := List.findIdx?_eq_some_iff_getElem.1 h
    have : xs.any p = true := List.any_eq_true.2 ⟨_, List.getElem_mem hi, hp⟩
    rw [this]
    simp
theorem slF_neE {α : Type} {enc : α → List Value} {k : Nat} {a : Option Addr} {m cap i : Nat} {xs : List α} {x : α} (hx : xs[i]? = some x) (A : Nat → Prop) (w : World) (h : (slF enc k (.slice a m cap) xs).h A w) : ∃ b off, a = some ⟨b, off, none⟩ :=
  slF_addr h (by intro e; rw [e] at hx; simp at hx)
theorem flat_get {α : Type} {enc : α → List Value} {k : Nat} (hk : ∀ x, (enc x).length = k) : ∀ {l : List α} {i j : Nat} {x : α} {u : Value}, l[i]? = some x → (enc x)[j]? = some u → (l.flatMap enc)[i * k + j]? = some u
  | [], i, j, x, u, h, _ => by simp at h
  | y :: l, 0, j, x, u, h, hu => by
    simp only [List.getElem?_cons_zero, Option.some.injEq] at h
    subst h
    have hj := (List.getElem?_eq_some_iff.1 hu).1
    rw [List.flatMap_cons, Nat.zero_mul, Nat.zero_add, List.getElem?_append_left hj]
    exact hu
  | y :: l, i + 1, j, x, u, h, hu => by
    rw [List.flatMap_cons, List.getElem?_append_right (by rw [hk, Nat.succ_mul]; omega), hk, show (i + 1) * k + j - k = i * k + j by rw [Nat.succ_mul]; omega]
    exact flat_get hk (by simpa using h) hu
theorem slF_blkN {α : Type} {enc : α → List Value} {k : Nat} {b : Nat} {t : TypeId} {cells : List Value} {xs : List α} {m : Nat} (hm : m = xs.length) (henc : ∀ x, (enc x).length = k) (hc : cells = xs.flatMap enc) {A : Nat → Prop} {w : World} (h : (blkF b cells t).h A w) : (slF enc k (.slice (some ⟨b, 0, none⟩) m m) xs).h A w := by
  subst hm
  subst hc
  refine ⟨some ⟨b, 0, none⟩, xs.length, rfl, ⟨Nat.le_refl _, fun e => by cases e⟩, .inr ⟨b, 0, rfl, h.1, fun i x hx j u hu => ?_⟩⟩
  have := cell_of_list (o := 0 + i * k + j) h.2
  rw [this, Nat.zero_add]
  exact flat_get henc hx hu
theorem Cm.facts {P : Program} {g : FuncId} {args : List Value} {mu : List MB} {F0 F0' : List Fact} {Out : OutT} (h : Cm P g args mu F0' Out) (hF : ∀ A w, (∀ f ∈ F0, f.h A w) → ∀ f ∈ F0', f.h A w) : Cm P g args mu F0 Out :=
  fun A w h1 h2 h3 h4 => h A w h1 h2 h3 (hF A w h4)
theorem blk_cells {b : Nat} {cs : List Value} {t : TypeId} (A : Nat → Prop) (w : World) (h : (blkF b cs t).h A w) : ∀ (j : Nat) (u : Value), cs[j]? = some u → w.cell? ⟨b, 0 + j, none⟩ = some u := fun j u hu => by rw [Nat.zero_add]; exact (cell_of_list (o := j) h.2).trans hu
theorem slF_atN {α : Type} {enc : α → List Value} {k b off m cap i : Nat} {xs : List α} {x : α} (hx : xs[i]? = some x) (A : Nat → Prop) (w : World) (h : (slF enc k (.slice (some ⟨b, off, none⟩) m cap) xs).h A w) : ∀ (j : Nat) (u : Value), (enc x)[j]? = some u → w.cell? ⟨b, off + i * k + j, none⟩ = some u := fun _ _ hu => slF_at hx hu A w h
section
variable {X : Fx} {T : TE} {L : LE} {n : Nat} {F : List Fact} {D : DF} {K : KK} {k : KS} {o : Oper}
theorem yd_iface {t : TypeId} {x : Operand} {v : Value} (hc : X.P.concrete t = true) (ho : o.op = .makeInterface t x) (hx : evS T x = some (.o (.v v))) : Yd X o T L F (.o (.v (.iface t v))) := by
  refine ⟨by simp [noDef, ho], fun A ρ a w h0 => ?_⟩
  have e1 := h0.ev hx
  simp only [TV.den, SV.den] at e1
  simp [execOp, ho, e1, run_makeInterface w t v hc, TV.den, SV.den]
end
def mustE (t : TypeId) (b : Bool) (e : Int) : OutT := fun r _ F1 => ((b = true ∧ r = .returned (.tuple #[])) ∨ (b = false ∧ r = .panicked [{ v := .iface t (.int .i64 e), recovered := false }])) ∧ F1 = []
end Go.Proofs.YtmhnlkakbadkgaaGreat
namespace Go.Proofs.YtmhnlkakbadkgaaGreat
open Go.RowKit Go.Shelf
theorem blk_cell {b o : Nat} {cs : List Value} {t : TypeId} {v : Value} (hv : cs[o]? = some v) (A : Nat → Prop) (w : World) (h : (blkF b cs t).h A w) : w.cell? ⟨b, o, none⟩ = some v := (cell_of_list (o := o) h.2).trans hv
theorem flat_lenR {α : Type} {enc : α → List Value} {k : Nat} (hk : ∀ x, (enc x).length = k) : ∀ l : List α, (l.flatMap enc).length = l.length * k
  | [] => by simp
  | x :: r => by rw [List.flatMap_cons, List.length_append, hk, flat_lenR hk r, List.length_cons, Nat.succ_mul, Nat.add_comm]
theorem flat_split {α : Type} {enc : α → List Value} {k : Nat} (hk : ∀ x, (enc x).length = k) {xs : List α} {i : Nat} {x : α} (hx : xs[i]? = some x) (junk : List Value) :
    xs.flatMap enc ++ junk = (xs.take i).flatMap enc ++ (enc x ++ ((xs.drop (i + 1)).flatMap enc ++ junk)) ∧ ((xs.take i).flatMap enc).length = i * k := by
  obtain ⟨hi, h2⟩ := List.getElem?_eq_some_iff.1 hx
  refine ⟨?_, by rw [flat_lenR hk, List.length_take, Nat.min_eq_left (Nat.le_of_lt hi)]⟩
  conv => lhs; rw [← List.take_append_drop i xs, List.drop_eq_getElem_cons hi, h2]
  simp [List.flatMap_append, List.append_assoc]
theorem row_get {α : Type} {enc : α → List Value} {k : Nat} (hk : ∀ x, (enc x).length = k) {xs : List α} {i : Nat} {x : α} (hx : xs[i]? = some x) (junk : List Value) : ((xs.flatMap enc ++ junk).drop (i * k)).take k = enc x ∧ i * k + k ≤ (xs.flatMap enc ++ junk).length := by
  obtain ⟨h1, h2⟩ := flat_split hk hx junk
  rw [h1]
  refine ⟨?_, by simp only [List.length_append, h2, hk]; omega⟩
  rw [← h2, List.drop_left, ← hk x, List.take_left]
theorem row_set {α : Type} {enc : α → List Value} {k : Nat} (hk : ∀ x, (enc x).length = k) {xs : List α} {i j : Nat} {x x' : α} {ys : List Value} (hx : xs[i]? = some x) (hj : j + ys.length ≤ k) (he : (enc x).take j ++ ys ++ (enc x).drop (j + ys.length) = enc x') (junk : List Value) :
    (xs.flatMap enc ++ junk).take (i * k + j) ++ ys ++ (xs.flatMap enc ++ junk).drop (i * k + j + ys.length) = (xs.set i x').flatMap enc ++ junk := by
  obtain ⟨h1, h2⟩ := flat_split hk hx junk
  have hx' : (xs.set i x')[i]? = some x' := List.getElem?_set_self (List.getElem?_eq_some_iff.1 hx).1
  obtain ⟨h3, h4⟩ := flat_split hk hx' junk
  have e1 : (xs.set i x').take i = xs.take i := List.take_set_of_le (Nat.le_refl _)
  have e2 : (xs.set i x').drop (i + 1) = xs.drop (i + 1) := List.drop_set_of_lt (Nat.lt_succ_self _)
  rw [h1, h3, e1, e2, ← he]
  have hl := hk x
  rw [List.take_append, List.drop_append, h2]
  have t1 : ((xs.take i).flatMap enc).take (i * k + j) = (xs.take i).flatMap enc := List.take_of_length_le (by omega)
  have t2 : ((xs.take i).flatMap enc).drop (i * k + j + ys.length) = [] := List.drop_of_length_le (by omega)
  rw [t1, t2, show i * k + j - i * k = j by omega, show i * k + j + ys.length - i * k = j + ys.length by omega]
  rw [List.take_append_of_le_length (by omega), List.drop_append_of_le_length (by omega)]
  simp [List.append_assoc]
section
variable {X : Fx} {o : Oper} {T : TE} {L : LE} {n : Nat} {F : List Fact} {D : DF} {K : KK} {k : KS} {c : Code}
def PV.sub (j g : Nat) : PV → PV
  | .p k o => bif Nat.beq k j then .v (.pointer (some ⟨g, o, none⟩)) else .p k o
  | .v x => .v x
def SV.sub (j g : Nat) : SV → SV
  | .p k o => bif Nat.beq k j then .v (.pointer (some ⟨g, o, none⟩)) else .p k o
  | .s k o l c => bif Nat.beq k j then .v (.slice (some ⟨g, o, none⟩) l c) else .s k o l c
  | .f fn fi ca => .f fn (fi.map (PV.sub j g)) (ca.map (PV.sub j g))
  | .v x => .v x
def TV.sub (j g : Nat) : TV → TV
  | .o x => .o (x.sub j g)
  | .t xs => .t (xs.map (SV.sub j g))
  | .g xs => .g (xs.map (SV.sub j g))
def LC.sub (j g : Nat) : LC → LC
  | .c cs t => .c (cs.map (SV.sub j g)) t
  | e => e
end
end Go.Proofs.YtmhnlkakbadkgaaGreat
