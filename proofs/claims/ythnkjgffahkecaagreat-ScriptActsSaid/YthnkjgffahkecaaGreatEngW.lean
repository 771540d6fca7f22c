/- A symbolic run: strings, division, array values, conversions, jumps forward. No program is in sight. -/
import Derived.Test.YthnkjgffahkecaaGreatEngV
import Derived.Test.YthnkjgffahkecaaGreatLib2
import Derived.Laws.Slices
import Derived.Laws.Strings2
import Derived.Lib.Strings
namespace Go.Proofs.YthnkjgffahkecaaGreat
open Go.RowKit Go.Shelf
def isStr (P : Program) (t : TypeId) : Bool := match P.underlying t with | some .string => true | _ => false
theorem isStr_is {P : Program} {t : TypeId} (h : isStr P t = true) : P.underlying t = some .string := by
  unfold isStr at h
  split at h
  · assumption
  · cases h
section
variable {X : Fx} {T : TE} {L : LE} {n : Nat} {F : List Fact} {D : DF} {K : KK} {o : Oper} {k : KS} {c : Code}
/-- s[i], a byte. -/
theorem yd_strIdx {t : TypeId} {x ix : Operand} {s : ByteArray} {ki : IntKind} {z : Int} {i : Nat} {b : UInt8} (ht : isStr X.P t = true) (hz : z = (i : Int)) (hb : s.data[i]? = some b) (ho : o.op = .index t x ix) (hx : evS T x = some (.o (.v (.string s)))) (hix : evS T ix = some (.o (.v (.int ki z)))) : Yd X o T L F (.o (.v (.int .u8 (b.toNat : Int)))) := by
  subst hz
  refine ⟨by simp [noDef, ho], fun A ρ a w h0 => ?_⟩
  have hu := isStr_is ht
  have hs : s[i]? = some b := by
    obtain ⟨hi, he⟩ := Array.getElem?_eq_some_iff.1 hb
    have : i < s.size := hi
    rw [getElem?_pos s i this]
    exact congrArg some he
  simp [execOp, ho, h0.ev hx, h0.ev hix, TV.den, SV.den, Instr.index, asIntOf, run_underlying hu, hs]
/-- An element of an array value. -/
theorem yd_arrIdx {t : TypeId} {x ix : Operand} {cells : List SV} {ki : IntKind} {z : Int} {i m e sz : Nat} {kd : Option Nat} {u : TV} (hz : z = (i : Int)) (hi : i < m) (ho : o.op = .index t x ix) (ha : alook X.tab.ar t = some (m, e, sz)) (hk : alook X.tab.kd e = some kd) (hx : evS T x = some (.g cells)) (hix : evS T ix = some (.o (.v (.int ki z)))) (hp : partS kd cells (i * sz) = some u) : Yd X o T L F u := by
  subst hz
  refine ⟨by simp [noDef, ho], fun A ρ a w h0 => ?_⟩
  obtain ⟨h1, i', h2, h3⟩ := tyA_spec (X.ok.ar _ _ ha)
  simp only at h1 h2 h3
  have := run_part (X.ok.kd _ _ hk) (partS_den hp ρ) w
  simp [execOp, ho, h0.ev hx, h0.ev hix, TV.den, SV.den, Instr.index, asIntOf, run_underlying h1, sizeOf, typeInfo, h2, h3, hi, this]
theorem yd_arrIdxV {t : TypeId} {x ix : Operand} {cs : Array Value} {ki : IntKind} {z : Int} {i m e sz : Nat} {kd : Option Nat} {u : TV} (hz : z = (i : Int)) (hi : i < m) (ho : o.op = .index t x ix) (ha : alook X.tab.ar t = some (m, e, sz)) (hk : alook X.tab.kd e = some kd) (hx : evS T x = some (.o (.v (.agg cs)))) (hix : evS T ix = some (.o (.v (.int ki z)))) (hp : partS kd (cs.toList.map SV.v) (i * sz) = some u) : Yd X o T L F u := by
  subst hz
  refine ⟨by simp [noDef, ho], fun A ρ a w h0 => ?_⟩
  obtain ⟨h1, i', h2, h3⟩ := tyA_spec (X.ok.ar _ _ ha)
  simp only at h1 h2 h3
  have := run_part (X.ok.kd _ _ hk) (partS_den hp ρ) w
  rw [map_v_den] at this
  simp only [Array.toArray_toList] at this
  simp [execOp, ho, h0.ev hx, h0.ev hix, TV.den, SV.den, Instr.index, asIntOf, run_underlying h1, sizeOf, typeInfo, h2, h3, hi, this]
theorem yd_strLen {cl : Call} {x : Operand} {t : TypeId} {s : ByteArray} (ht : isStr X.P t = true) (ho : o.op = .call cl) (hc : cl.callee = .builtin .len) (hargs : cl.args.toList = [x]) (htys : cl.argTypes.toList = [t]) (hx : evS T x = some (.o (.v (.string s)))) : Yd X o T L F (.o (.v (.int .i64 (s.size : Int)))) := by
  refine ⟨by simp [noDef, ho], fun A ρ a w h0 => ?_⟩
  have hu := isStr_is ht
  have e1 := h0.ev hx
  have ha : cl.args = #[x] := Array.ext' hargs
  have hb : cl.argTypes = #[t] := Array.ext' htys
  simp only [TV.den, SV.den] at e1
  simp [execOp, ho, resolve, hc, ha, hb, e1, invoke, builtin, Builtin.len_, run_underlying hu, goInt, TV.den, SV.den]
def divS (op : BinOp) (a b : Int) : Option Int := match op with | .quo => some (a.tdiv b) | .rem => some (a.tmod b) | _ => none
/-- A quotient, a remainder. -/
theorem yd_div {bop : BinOp} {t t2 : TypeId} {x y : Operand} {p q r : Int} (hq : q ≠ 0) (hlo : -9223372036854775808 ≤ r) (hhi : r ≤ 9223372036854775807) (ho : o.op = .binOp bop t x y t2) (hx : evS T x = some (.o (.v (.int .i64 p)))) (hy : evS T y = some (.o (.v (.int .i64 q)))) (hr : divS bop p q = some r) : Yd X o T L F (.o (.v (.int .i64 r))) := by
  refine ⟨by simp [noDef, ho], fun A ρ a w h0 => ?_⟩
  have e1 := h0.ev hx
  have e2 := h0.ev hy
  simp only [TV.den, SV.den] at e1 e2
  have hgd : (eqGuard bop t x y (.int .i64 p) (.int .i64 q)).run X.P w = .ok () w := by
    unfold eqGuard
    cases bop <;> simp
  have hw := wrap_in hlo hhi
  unfold divS at hr
  split at hr <;> cases hr <;> simp [execOp, ho, e1, e2, hgd, binOp, Op.intDiv, hq, hw, TV.den, SV.den]
theorem yd_strEq {t t2 : TypeId} {x y : Operand} {s s' : ByteArray} {r : Bool} (hr : (s.data.toList == s'.data.toList) = r) (ho : o.op = .binOp .eql t x y t2) (hx : evS T x = some (.o (.v (.string s)))) (hy : evS T y = some (.o (.v (.string s')))) : Yd X o T L F (.o (.v (.bool r))) := by
  subst hr
  refine ⟨by simp [noDef, ho], fun A ρ a w h0 => ?_⟩
  have e1 := h0.ev hx
  have e2 := h0.ev hy
  simp only [TV.den, SV.den] at e1 e2
  have hgd : (eqGuard .eql t x y (.string s) (.string s')).run X.P w = .ok () w := by unfold eqGuard; simp
  have hl : (s.toList == s'.toList) = (s.data.toList == s'.data.toList) := by rw [Lib.toList_data, Lib.toList_data]
  simp only [execOp, ho, e1, e2, Sem.run_bind, hgd, Result.andThen_ok, binOp, Op.stringOp, hl, Sem.run_pure, TV.den, SV.den]
theorem yd_strNe {t t2 : TypeId} {x y : Operand} {s s' : ByteArray} {r : Bool} (hr : (!(s.data.toList == s'.data.toList)) = r) (ho : o.op = .binOp .neq t x y t2) (hx : evS T x = some (.o (.v (.string s)))) (hy : evS T y = some (.o (.v (.string s')))) : Yd X o T L F (.o (.v (.bool r))) := by
  subst hr
  refine ⟨by simp [noDef, ho], fun A ρ a w h0 => ?_⟩
  have e1 := h0.ev hx
  have e2 := h0.ev hy
  simp only [TV.den, SV.den] at e1 e2
  have hgd : (eqGuard .neq t x y (.string s) (.string s')).run X.P w = .ok () w := by unfold eqGuard; simp
  have hl : (s.toList == s'.toList) = (s.data.toList == s'.data.toList) := by rw [Lib.toList_data, Lib.toList_data]
  simp only [execOp, ho, e1, e2, Sem.run_bind, hgd, Result.andThen_ok, binOp, Op.stringOp, hl, Sem.run_pure, TV.den, SV.den]
theorem yd_strAdd {t t2 : TypeId} {x y : Operand} {s s' r : ByteArray} (hr : s ++ s' = r) (hl : s.size + s'.size ≤ 9223372036854775807) (ho : o.op = .binOp .add t x y t2) (hx : evS T x = some (.o (.v (.string s)))) (hy : evS T y = some (.o (.v (.string s')))) : Yd X o T L F (.o (.v (.string r))) := by
  subst hr
  refine ⟨by simp [noDef, ho], fun A ρ a w h0 => ?_⟩
  have e1 := h0.ev hx
  have e2 := h0.ev hy
  simp only [TV.den, SV.den] at e1 e2
  have hgd : (eqGuard .add t x y (.string s) (.string s')).run X.P w = .ok () w := by unfold eqGuard; simp
  have hlim : ¬ ((s.size + s'.size : Nat) : Int) > IntKind.i64.max := by
    show ¬ ((s.size + s'.size : Nat) : Int) > 9223372036854775807
    omega
  simp only [execOp, ho, e1, e2, Sem.run_bind, hgd, Result.andThen_ok, binOp, Op.stringOp, if_neg hlim, Sem.run_pure, TV.den, SV.den]
/-- s[l:h] -/
theorem yd_strSlice {t : TypeId} {x y z : Operand} {s : ByteArray} {kl kh : IntKind} {zl zh : Int} {l h : Nat} (ht : isStr X.P t = true) (hl : zl = (l : Int)) (hh : zh = (h : Int)) (hlh : l ≤ h) (hhs : h ≤ s.size) (ho : o.op = .slice t x (some y) (some z) none) (hx : evS T x = some (.o (.v (.string s)))) (hy : evS T y = some (.o (.v (.int kl zl)))) (hz : evS T z = some (.o (.v (.int kh zh)))) : Yd X o T L F (.o (.v (.string (s.extract l h)))) := by
  subst hl hh
  refine ⟨by simp [noDef, ho], fun A ρ a w h0 => ?_⟩
  have hu := isStr_is ht
  have e1 := h0.ev hx
  have e2 := h0.ev hy
  have e3 := h0.ev hz
  simp only [TV.den, SV.den] at e1 e2 e3
  simp only [execOp, ho, Option.map_none, Option.map_some, e1, e2, e3, Sem.run_bind, run_sliceAt_string (h := hu), run_slice_string w t s kl kh (l : Int) (h : Int) hu (by omega) (by omega) (by omega), Int.toNat_natCast, Result.andThen_ok, Sem.run_pure, TV.den, SV.den]
def isInt (P : Program) (t : TypeId) (k : IntKind) : Bool := match P.underlying t with | some (.int k') => Nat.beq (ikN k) (ikN k') | _ => false
theorem yd_conv {src dst : TypeId} {x : Operand} {ki kj : IntKind} {p r : Int} (hs : (X.P.underlying src).isSome = true) (hd : isInt X.P dst kj = true) (hr : kj.wrap p = r) (ho : o.op = .convert src dst x) (hx : evS T x = some (.o (.v (.int ki p)))) : Yd X o T L F (.o (.v (.int kj r))) := by
  subst hr
  refine ⟨by simp [noDef, ho], fun A ρ a w h0 => ?_⟩
  obtain ⟨d, hd1⟩ := Option.isSome_iff_exists.1 hs
  have hd2 : X.P.underlying dst = some (.int kj) := by
    unfold isInt at hd
    split at hd
    · rename_i k' hk
      rw [ikN_inj (Nat.eq_of_beq_eq_true hd)]; exact hk
    · cases hd
  have e1 := h0.ev hx
  simp only [TV.den, SV.den] at e1
  simp [execOp, ho, e1, convert, run_underlying hd1, run_underlying hd2, Conv.intToInt, TV.den, SV.den]
/-! ### A jump forward -/
def jumpK (l : Nat) (J : TE → LE → Nat → List Fact → DF → Prop) (K : KK) : KK := fun e T L n F D => match e with
  | .goto l' => l' = l ∧ J T L n F D
  | e => K e T L n F D
theorem cjs_scopeF {rest : Code} (l : Nat) (hr : X.r = none) (hf : findLabel c l = some rest) (h : sx X c T L n F D (jumpK l (fun T L n F D => sx X rest T L n F D (noGoK K)) K)) : CJs X (.scope c) T L n F D K := by
  intro Q hQ a w hrel
  have hfe : X.fe = Fence.wide := by unfold Fx.fe; rw [hr]; rfl
  have key : ∀ T L n F D, sx X rest T L n F D (noGoK K) → ∀ a w, Rel X T L n F D a w → rest.wp X.P (Exit.noGoto Q) a w := fun T L n F D hs a w hrel => by
    have := sx_sound hs (Exit.noGoto Q) (fun e T L n F D hK a w hr' => by
      cases e with
      | goto l => exact hK.elim
      | normal => exact hQ _ _ _ _ _ _ hK a w hr'
      | exit id => exact hQ _ _ _ _ _ _ hK a w hr'
      | ret => exact hQ _ _ _ _ _ _ hK a w hr'
      | panic ch => exact hQ _ _ _ _ _ _ hK a w hr'
      | outgrown => exact hQ _ _ _ _ _ _ hK a w hr') a w hrel
    rw [hfe] at this
    exact wpIn_wide.1 this
  have := sx_sound h (Exit.jump l (fun a w => rest.wp X.P (Exit.noGoto Q) a w) Q) (fun e T L n F D hK a w hr' => by
    cases e with
    | goto l => exact ⟨hK.1, key _ _ _ _ _ hK.2 a w hr'⟩
    | normal => exact hQ _ _ _ _ _ _ hK a w hr'
    | exit id => exact hQ _ _ _ _ _ _ hK a w hr'
    | ret => exact hQ _ _ _ _ _ _ hK a w hr'
    | panic ch => exact hQ _ _ _ _ _ _ hK a w hr'
    | outgrown => exact hQ _ _ _ _ _ _ hK a w hr') a w hrel
  rw [hfe] at this ⊢
  exact wpIn_wide.2 (wp_scope_fwd l hf (wpIn_wide.1 this))
end

section
variable {X : Fx} {T : TE} {L : LE} {n : Nat} {F : List Fact} {D : DF} {K : KK} {o : Oper} {c : Code}
/-- A method value: what is bound is a plain value. -/
theorem yd_bound {fn : FuncId} {x : Operand} {u : TV} {v : Value} (ho : o.op = .makeFunc (.func fn) #[x] #[]) (hx : evS T x = some u) (hu : ∀ ρ, u.den ρ = v) : Yd X o T L F (.o (.v (.func (.func fn) #[v] #[]))) := by
  refine ⟨by simp [noDef, ho], fun A ρ a w h0 => ?_⟩
  have e1 := h0.ev hx
  rw [hu] at e1
  simp [execOp, ho, Instr.makeFunc, e1, TV.den, SV.den]
/-- A loop whose facts are given whole. -/
theorem cjs_loopX {γ : Type} (p : γ → Prop) (PT : γ → TE) (PL : γ → LE) (FF : γ → List Fact) (μ : γ → Nat) (g0 : γ) (h0 : p g0) (hw : Wk X T L n F D ⟨PT g0 ++ T, PL g0 ++ L, n, FF g0, D⟩)
    (hr : ∀ g, p g → sx X c (PT g ++ T) (PL g ++ L) n (FF g) D (loopK X p (fun g => ⟨PT g ++ T, PL g ++ L, n, FF g, D⟩) μ g K)) : CJs X (.loop c) T L n F D K :=
  cjs_loop p (fun g => ⟨PT g ++ T, PL g ++ L, n, FF g, D⟩) μ g0 h0 hw hr
end

section
variable {X : Fx} {T : TE} {L : LE} {F : List Fact} {o : Oper}
/-- An array literal, all its parts one behind the other. -/
theorem yd_buildA {t : TypeId} {parts : Array (Nat × Operand)} {m e sz : Nat} {zs : List Nat} {cs : List SV} (ho : o.op = .build t parts) (ha : alook X.tab.ar t = some (m, e, sz)) (hz : alook X.tab.ze t = some zs) (hl : zs.length = parts.toList.length * sz) (hcs : ordS sz T 0 parts.toList = some cs) : Yd X o T L F (.g cs) := by
  refine ⟨by simp [noDef, ho], fun A ρ a w h0 => ?_⟩
  obtain ⟨h1, i', h2, h3⟩ := tyA_spec (X.ok.ar _ _ ha)
  simp only at h1 h2 h3
  obtain ⟨i, z, hi, hz1, hz2⟩ := tyZ_is (X.ok.ze _ _ hz)
  have hlen : (denL ρ (zcells zs)).length = (0 + parts.toList.length) * sz := by simp [denL, zcells, hl]
  have hf := (ordS_den h0 hcs hlen).1
  have hb : X.P.built t (parts.map fun (i, x) => (i, a.eval x)).toList = some (denL ρ cs).toArray := by
    unfold Program.built
    simp only [hi, h1, hz1, h2, h3, hz2 ρ]
    rw [Array.toList_map]
    simpa using hf
  simp only [execOp, ho, Sem.run_bind, run_build w t _ _ hb, Result.andThen_ok, Sem.run_pure, TV.den]
end

end Go.Proofs.YthnkjgffahkecaaGreat
