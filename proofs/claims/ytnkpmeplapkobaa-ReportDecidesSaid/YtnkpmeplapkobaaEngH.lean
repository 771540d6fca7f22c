/- A symbolic run of a region that draws its order. No program is in sight. -/
import Derived.Test.YtnkpmeplapkobaaEngG
import Derived.OrdersIn
namespace Go.Proofs.Ytnkpmeplapkobaa
open Go.RowKit Go.Shelf

section
variable {Fe : Fence} {nn : Nat} {P : Program} {ops : Array Oper} {Q : Exit → Act → World → Prop} {md : Region.Mode} {Tr : Nat → World → World → Prop}

/-- Whatever order is picked from here on, and each operation turns the world as Tr says. -/
def wpAnyT (Fe : Fence) (nn : Nat) (P : Program) (md : Region.Mode) (ops : Array Oper) (Q : Exit → Act → World → Prop) (Tr : Nat → World → World → Prop) : Nat → Array Bool → Act → World → Prop
  | 0, listed, a, w => Region.ready md ops listed = [] ∧ Q .normal a w
  | fuel + 1, listed, a, w => (Region.ready md ops listed = [] → Q .normal a w) ∧
    ∀ i ∈ Region.ready md ops listed, wpOpIn Fe nn P ops Q i (fun a' w' => Tr i w w' ∧ wpAnyT Fe nn P md ops Q Tr fuel (listed.setIfInBounds i true) a' w') a w
theorem wpAnyIn_of_T : ∀ (fuel : Nat) (listed : Array Bool) (a : Act) (w : World), wpAnyT Fe nn P md ops Q Tr fuel listed a w → wpAnyIn Fe nn P md ops Q fuel listed a w
  | 0, _, _, _, h => h
  | fuel + 1, _, _, _, h => ⟨h.1, fun i hi => wpOpIn_mono (fun a' w' h' => wpAnyIn_of_T fuel _ a' w' h'.2) (h.2 i hi)⟩
/-- In state a, in every world of which S holds, the operation leaves v in its slot, and does nothing else. -/
def YieldsT (P : Program) (ops : Array Oper) (S : World → Prop) (o : Oper) (v : Value) (a : Act) : Prop :=
  noDef o = true ∧ ((Region.wanted o (yielded ops a.tmps) = true ∧ ∀ w, S w → (execOp a.eval o).run P w = .ok (.value v) w) ∨ (Region.wanted o (yielded ops a.tmps) = false ∧ v = undef))
theorem YieldsT.of_same {S : World → Prop} {o : Oper} {v : Value} {a a' : Act} (hy : YieldsT P ops S o v a) (he : execOp a'.eval o = execOp a.eval o) (hw : Region.wanted o (yielded ops a'.tmps) = Region.wanted o (yielded ops a.tmps)) : YieldsT P ops S o v a' := by
  unfold YieldsT at *
  rw [he, hw]
  exact hy
theorem YieldsT.wpOpIn {S : World → Prop} (hF : ∀ f, Fe.fn f) {i : Nat} {o : Oper} {v : Value} {a : Act} (hi : ops[i]? = some o) (hy : YieldsT P ops S o v a) {K : Act → World → Prop} {w : World} (hS : S w) (h : K (a.put o.dst v) w) : wpOpIn Fe nn P ops Q i K a w := by
  unfold Go.wpOpIn
  simp only [hi]
  obtain ⟨hd, ⟨hw, hv⟩ | ⟨hw, rfl⟩⟩ := hy
  · simp only [hw, if_true, Oper.wpIn]
    refine ⟨fun f _ => hF f, ?_⟩
    rw [Oper.semAt_eq _ _ _ (noDef_is hd), hv w hS]
    exact h
  · simp only [hw, Bool.false_eq_true, if_false]
    exact ⟨fun f _ => hF f, h⟩
theorem wpOpIn_putT {S : World → Prop} (hF : ∀ f, Fe.fn f) {j : Nat} {oi oj : Oper} {v : Value} (hj : ops[j]? = some oj) (hdj : noDef oj = true) (hap : oi.apart ops oj = true) (hsi : ∀ cs b, oi.op ≠ .select cs b) (hsj : ∀ cs b, oj.op ≠ .select cs b)
    (hQ : ∀ c a w, Q (.panic c) (a.put oi.dst v) w → Q (.panic c) a w) {K : Act → World → Prop} {a : Act} {w : World}
    (hy : YieldsT P ops S oi v a) (h : wpOpIn Fe nn P ops Q j K (a.put oi.dst v) w) : wpOpIn Fe nn P ops Q j (fun a' w' => YieldsT P ops S oi v a' ∧ K (a'.put oi.dst v) w') a w := by
  obtain ⟨h1, h2, h3⟩ := Oper.apart_spec hap
  have keep : ∀ (a : Act), YieldsT P ops S oi v a → ∀ u, YieldsT P ops S oi v (a.put oj.dst u) := fun a hy u =>
    hy.of_same (execOp_put oi hsi a oj.dst u h3) (wanted_put oi a oj.dst u h3)
  have keepD : ∀ d, YieldsT P ops S oi v { a with defers := d :: a.defers } := fun d => hy.of_same rfl rfl
  unfold Go.wpOpIn at *
  simp only [hj] at *
  rw [wanted_put oj a oi.dst v h1] at h
  split
  · rename_i hw
    simp only [hw, if_true] at h
    unfold Oper.wpIn at *
    refine ⟨fun f _ => hF f, ?_⟩
    have h := h.2
    rw [Oper.semAt_eq _ _ _ (noDef_is hdj), execOp_put oj hsj a oi.dst v h1] at h
    rw [Oper.semAt_eq _ _ _ (noDef_is hdj)]
    generalize (execOp a.eval oj).run P w = r at *
    cases r with
    | ok x w' =>
      cases x <;> simp only [Oper.uponIn] at h ⊢
      case value u => exact ⟨keep a hy u, by rw [← Act.put_comm a v u h2]; exact h⟩
      case skip => exact ⟨keep a hy _, by rw [← Act.put_comm a v undef h2]; exact h⟩
      case defer d =>
        refine ⟨keep _ (keepD d) _, ?_⟩
        rw [← Act.put_comm _ v undef h2, ← Act.put_defers]
        exact h
      case enter f args =>
        refine ⟨h.1, CallsIn.mono h.2 fun e w'' he => ?_⟩
        cases e with
        | returned u => exact ⟨keep a hy u, by rw [← Act.put_comm a v u h2]; exact he⟩
        | panicked c => exact hQ _ _ _ he
        | outgrown => exact he
      case row row args => exact ⟨h.1, RowsIn.mono h.2 fun u w'' he => ⟨keep a hy u, by rw [← Act.put_comm a v u h2]; exact he⟩⟩
      case round l f tmps assign body =>
        refine ⟨h.1, RoundIn.mono h.2 fun e w'' he => ?_⟩
        cases e with
        | returned u => exact ⟨keep a hy u, by rw [← Act.put_comm a v u h2]; exact he⟩
        | panicked c => exact hQ _ _ _ he
        | outgrown => exact he
    | halt x w' =>
      cases x <;> simp only [Oper.uponIn] at h ⊢
      case panic u => exact hQ _ _ _ h
  · rename_i hw
    simp only [hw] at h
    exact ⟨fun f _ => hF f, keep a hy _, by rw [← Act.put_comm a v undef h2]; exact h.2⟩
theorem wpAnyT_first {S : World → Prop} (hF : ∀ f, Fe.fn f) (hnd : ∀ (j : Nat) (o : Oper), ops[j]? = some o → noDef o = true) {i : Nat} {oi : Oper} {v : Value} (hi : ops[i]? = some oi) (hsel : ∀ (j : Nat) (o : Oper) cs b, ops[j]? = some o → o.op ≠ .select cs b)
    (hQ : ∀ c a w, Q (.panic c) (a.put oi.dst v) w → Q (.panic c) a w) (hTi : ∀ w, S w → Tr i w w)
    (hTr : ∀ j oj w w', ops[j]? = some oj → j ≠ i → (∀ e ∈ oj.after, Region.binds md e = true → e.on ≠ i) → Tr j w w' → S w → S w') :
    ∀ (fuel : Nat) (listed : Array Bool) (a : Act) (w : World),
      (∀ j oj, ops[j]? = some oj → j ≠ i → listed.getD j true = false → (∀ e ∈ oj.after, Region.binds md e = true → e.on ≠ i) → oi.apart ops oj = true) →
      i ∈ Region.ready md ops listed → YieldsT P ops S oi v a → S w →
      wpAnyT Fe nn P md ops Q Tr fuel (listed.setIfInBounds i true) (a.put oi.dst v) w → wpAnyT Fe nn P md ops Q Tr (fuel + 1) listed a w := by
  intro fuel
  induction fuel with
  | zero =>
    intro listed a w _ hr hy hS H
    refine ⟨fun h => (by rw [h] at hr; cases hr), fun j hj => ?_⟩
    by_cases hji : j = i
    · subst hji; exact hy.wpOpIn hF hi hS ⟨hTi w hS, H⟩
    · have := ready_mono hj hji
      rw [H.1] at this
      cases this
  | succ fuel ih =>
    intro listed a w hfree hr hy hS H
    refine ⟨fun h => (by rw [h] at hr; cases hr), fun j hj => ?_⟩
    by_cases hji : j = i
    · subst hji; exact hy.wpOpIn hF hi hS ⟨hTi w hS, H⟩
    · have h1 := H.2 j (ready_mono hj hji)
      obtain ⟨hjun, oj, hoj, hall⟩ := mem_ready.1 hj
      have hnot : ∀ e ∈ oj.after, Region.binds md e = true → e.on ≠ i := fun e he hb heq => by
        have h1 := hall e he hb
        have h0 := (mem_ready.1 hr).1
        rw [heq] at h1
        rcases Nat.lt_or_ge i listed.size with h' | h'
        · simp [h'] at h0 h1; rw [h0] at h1; cases h1
        · simp [Array.getElem?_eq_none h'] at h1
      have h2 := wpOpIn_putT hF hoj (hnd j oj hoj) (hfree j oj hoj hji hjun hnot) (fun cs b => hsel i oi cs b hi) (fun cs b => hsel j oj cs b hoj) hQ hy h1
      have hfree' : ∀ k ok, ops[k]? = some ok → k ≠ i → (listed.setIfInBounds j true).getD k true = false →
          (∀ e ∈ ok.after, Region.binds md e = true → e.on ≠ i) → oi.apart ops ok = true := fun k ok hk hki hun hno => by
        refine hfree k ok hk hki ?_ hno
        by_cases hjk : j = k
        · subst hjk; exact hjun
        · rw [getD_set_ne true hjk] at hun; exact hun
      refine wpOpIn_mono (fun a' w' h3 => ?_) h2
      obtain ⟨hy', hT, h4⟩ := h3
      refine ⟨hT, ih (listed.setIfInBounds j true) a' w' hfree' (ready_mono hr (Ne.symm hji)) hy' (hTr j oj w w' hoj hji hnot hT hS) ?_⟩
      rw [Array.setIfInBounds_comm _ _ hji]
      exact h4
end

/-! ### The symbolic run -/
def hasEdge (ops : List Oper) (j i : Nat) : Bool := match ops[j]? with
  | some o => o.after.toList.any fun e => Region.binds .any e && Nat.beq e.on i
  | none => false
/-- A way through a region; where several operations of eff come up at once, each of them first. -/
inductive Sd where
  | z
  | op (i : Nat) (r : Sd)
  | alt (l r : Sd)
def Sd.len : Sd → Nat
  | .z => 0
  | .op _ r => r.len + 1
  | .alt l _ => l.len
def Sd.heads : Sd → List Nat
  | .z => []
  | .op i _ => [i]
  | .alt l r => l.heads ++ r.heads
/-- On sch the operations of eff come up one at a time, or each of those that come up is tried; all others may be taken first. -/
def schB (ops : List Oper) (eff : List Nat) : Bool → Sd → Array Bool → Bool
  | u, .z, listed => !u && (Region.ready .any ops.toArray listed).isEmpty
  | u, .op i r, listed => (if u then eff.contains i else if eff.contains i then Region.ready .any ops.toArray listed == [i] else (Region.ready .any ops.toArray listed).contains i && Region.free .any ops.toArray listed i) && schB ops eff false r (listed.setIfInBounds i true)
  | u, .alt l r, listed => (u || Region.ready .any ops.toArray listed == (Sd.alt l r).heads) && schB ops eff true l listed && schB ops eff true r listed && Nat.beq l.len r.len
def drawB (ops : List Oper) (eff : List Nat) (sch : Sd) : Bool := schB ops eff false sch (Array.replicate ops.length false) && Region.noSelect ops.toArray && ops.all noDef && Nat.beq sch.len ops.length
/-- The block that a load reads. -/
def useS (o : Oper) (T : TE) : Option Nat := match o.op with
  | .load _ x => match evS T x with
    | some (.o (.p k _)) => some k
    | _ => none
  | _ => none
/-- No slice of the call's own. -/
def LC.isC : LC → Bool
  | .c _ _ => true
  | .obj _ => true
  | _ => false
/-- What must stay behind operation j: the blocks of vk, but for those that j stores to. -/
def viewP (j n0 : Nat) (st : List (Nat × Nat)) (L L' : LE) : List Nat → Prop
  | [] => True
  | k :: r => (st.any (fun p => Nat.beq p.1 j && Nat.beq p.2 k) = true ∨ (alook L' k = alook L k ∧ k < n0 ∧ ∃ e, alook L k = some e ∧ e.lt' n0 = true ∧ e.isC = true)) ∧ viewP j n0 st L L' r
structure Dw where
  ops : List Oper
  eff : List Nat
  vk : List Nat
  st : List (Nat × Nat)
  vf : List Fact
  n0 : Nat
  T0 : TE
def keepT : TE → TE → Prop
  | [], _ => True
  | (t, u) :: r, T => alook T t = some u ∧ keepT r T
/-- What is known where one gives up within the region. -/
def panK (T0 : TE) (K : KK) : KK := fun e T L n F D => match e with
  | .panic c => keepT T0 T ∧ K (.panic c) T0 L n F D
  | e => K e T L n F D
def pickT : List Nat → TE → TE
  | [], _ => []
  | t :: r, T => match alook T t with
    | some u => (t, u) :: pickT r T
    | none => pickT r T
def offT (T0 : TE) (ops : List Oper) : Bool := ops.all fun o => match o.dst with
  | some d => (alook T0 d).isNone
  | none => true
/-- An operation that is taken first, by a word. -/
def TkS (X : Fx) (W : Dw) (o : Oper) (T : TE) (k : TE → Prop) : Prop := ∃ u, Yd X o T [] W.vf u ∧ match putS X.k o.dst u T with
  | some T' => k T'
  | none => False
/-- What an operation that is taken first may read of the call's own blocks. -/
def seeS (W : Dw) (i : Nat) (o : Oper) (T : TE) (L : LE) : Option LE :=
  match useS o T with
  | none => some []
  | some q => match alook L q with
    | some e => bif (Nat.blt q W.n0 && (e.lt' W.n0 && e.isC)) && (W.vk.any (Nat.beq q) && W.st.all (fun p => !(Nat.beq p.2 q) || hasEdge W.ops p.1 i)) then some [(q, e)] else none
    | none => none
def takeP (X : Fx) (W : Dw) (i : Nat) (o : Oper) (T : TE) (L : LE) (k : TE → Prop) : Prop :=
  match o.op with
  | .pick c a b => match evS T c with
    | some (.o (.v (.bool t))) => brB t (match evS T a with
        | some u => (match putS X.k o.dst u T with | some T' => k T' | none => False)
        | none => False) (match evS T b with
        | some u => (match putS X.k o.dst u T with | some T' => k T' | none => False)
        | none => False)
    | _ => False
  | op => match seeS W i o T L with
    | some Lq => match valF X.tab op T Lq with
      | some u => (match putS X.k o.dst u T with | some T' => k T' | none => False)
      | none => TkS X W o T k
    | none => TkS X W o T k
def dx (X : Fx) (W : Dw) : Sd → TE → LE → Nat → List Fact → DF → KK → Prop
  | .z, T, L, n, F, D, K => K .normal T L n F D
  | .alt l r, T, L, n, F, D, K => dx X W l T L n F D K ∧ dx X W r T L n F D K
  | .op i r, T, L, n, F, D, K => match W.ops[i]? with
    | none => False
    | some o =>
      match o.guard with
      | none => bif W.eff.any (Nat.beq i) then opK X o T L n F D (fun T' L' n' F' D' => (viewP i W.n0 W.st L L' W.vk ∧ ∀ f ∈ W.vf, f ∈ F') ∧ dx X W r T' L' n' F' D' K) (panK W.T0 K) else takeP X W i o T L fun T' => dx X W r T' L n F D K
      | some (j, b) => match (W.ops[j]?).bind (·.dst) with
        | some d => match alook T d with
          | some (.o (.v (.bool c))) => bif b then
              brB c (bif W.eff.any (Nat.beq i) then opK X o ((d, .o (.v (.bool true))) :: T) L n F D (fun T' L' n' F' D' => (viewP i W.n0 W.st L L' W.vk ∧ ∀ f ∈ W.vf, f ∈ F') ∧ dx X W r T' L' n' F' D' K) (panK W.T0 K) else takeP X W i o ((d, .o (.v (.bool true))) :: T) L fun T' => dx X W r T' L n F D K)
                (match putS X.k o.dst (.o (.v undef)) ((d, .o (.v (.bool false))) :: T) with | some T' => dx X W r T' L n F D K | none => False)
            else brB c (match putS X.k o.dst (.o (.v undef)) ((d, .o (.v (.bool true))) :: T) with | some T' => dx X W r T' L n F D K | none => False)
                (bif W.eff.any (Nat.beq i) then opK X o ((d, .o (.v (.bool false))) :: T) L n F D (fun T' L' n' F' D' => (viewP i W.n0 W.st L L' W.vk ∧ ∀ f ∈ W.vf, f ∈ F') ∧ dx X W r T' L' n' F' D' K) (panK W.T0 K) else takeP X W i o ((d, .o (.v (.bool false))) :: T) L fun T' => dx X W r T' L n F D K)
          | _ => False
        | none => False

def nmN (N : List Nat) : Nm := fun j => (N[j]?).getD 0
def TrD (X : Fx) (W : Dw) (j : Nat) (w w' : World) : Prop :=
  (∃ A : Nat → Prop, ∀ f ∈ W.vf, f.h A w') ∧ ∀ q, W.vk.any (Nat.beq q) = true → W.st.any (fun p => Nat.beq p.1 j && Nat.beq p.2 q) = false → w'.heap[nmN X.N q]? = w.heap[nmN X.N q]?
def qNP (X : Fx) (T0 : TE) (K : KK) (Q : Exit → Act → World → Prop) : Exit → Act → World → Prop := fun e a w => match e with
  | .panic c => ∃ L n F D, K (.panic c) T0 L n F D ∧ Rel X T0 L n F D a w
  | e => Q e a w
theorem keepT_spec : ∀ {T0 T : TE}, keepT T0 T → ∀ t x, alook T0 t = some x → alook T t = some x
  | (t', u) :: r, T, h, t, x, hx => by
    rw [alook_cons] at hx
    split at hx
    · rename_i e; cases hx; rw [e]; exact h.1
    · exact keepT_spec h.2 t x hx
theorem offT_spec {T0 : TE} {ops : List Oper} (h : offT T0 ops = true) {o : Oper} (ho : o ∈ ops) {d : Nat} (hd : o.dst = some d) : alook T0 d = none := by
  have := List.all_eq_true.1 h o ho
  rw [hd] at this
  simpa using this
theorem Rel.drop {X : Fx} {T T' : TE} {L : LE} {n : Nat} {F : List Fact} {D : DF} {a : Act} {w : World} (h : Rel X T L n F D a w) (hs : ∀ t x, alook T' t = some x → alook T t = some x) : Rel X T' L n F D a w := by
  obtain ⟨hkb, ρ0, A, h0⟩ := h
  refine ⟨hkb, ρ0, A, fun ρ hρ => ?_⟩
  have h1 := h0 ρ hρ
  exact ⟨⟨fun t x hx => h1.tm t x (hs t x hx), h1.lo, h1.a3⟩, h1.sz, h1.df, h1.kp, h1.nw, h1.ds, h1.a1, h1.a2, h1.mb⟩
theorem Rel.unput {X : Fx} {T : TE} {L : LE} {n : Nat} {F : List Fact} {D : DF} {a : Act} {w : World} {d : Option Nat} {v : Value} (h : Rel X T L n F D (a.put d v) w) (hd : ∀ k, d = some k → alook T k = none) : Rel X T L n F D a w := by
  cases d with
  | none => exact h
  | some k =>
    obtain ⟨hkb, ρ0, A, h0⟩ := h
    refine ⟨hkb, ρ0, A, fun ρ hρ => ?_⟩
    have h1 := h0 ρ hρ
    refine ⟨⟨fun t x hx => ?_, h1.lo, h1.a3⟩, by have := h1.sz; simpa [Act.put] using this, h1.df, h1.kp, h1.nw, h1.ds, h1.a1, h1.a2, h1.mb⟩
    have h2 := h1.tm t x hx
    have : k ≠ t := fun e => by rw [← e, hd k rfl] at hx; cases hx
    simp only [Act.put, Array.getD_eq_getD_getElem?] at h2 ⊢
    rwa [Array.getElem?_setIfInBounds_ne this] at h2
theorem idN_ren_pv {x : PV} : x.ren idN = x := by cases x <;> rfl
theorem idN_ren_sv {x : SV} : x.ren idN = x := by
  cases x with
  | f fn fi ca =>
    have h : ∀ l : List PV, l.map (PV.ren idN) = l := fun l => by
      induction l with
      | nil => rfl
      | cons a l ih => rw [List.map_cons, ih, idN_ren_pv]
    simp only [SV.ren, h]
  | _ => rfl
theorem idN_ren_lc {e : LC} : e.ren idN = e := by
  cases e with
  | c cs t =>
    have h : ∀ l : List SV, l.map (SV.ren idN) = l := fun l => by
      induction l with
      | nil => rfl
      | cons a l ih => rw [List.map_cons, ih, idN_ren_sv]
    simp only [LC.ren, h]
  | _ => rfl
theorem holds_congr {ρ ρ' : Nm} {n q : Nat} {e : LC} {w : World} (h : ∀ j, j < n → ρ' j = ρ j) (hl : e.lt' n = true) (hq : q < n) (he : e.holds ρ q w) : e.holds ρ' q w :=
  LC.ren_holds (r := idN) h hl hq (by rw [idN_ren_lc]; exact he)
theorem Rel0.nm {X : Fx} {T : TE} {L : LE} {F : List Fact} {D : DF} {A : Nat → Prop} {ρ : Nm} {a : Act} {w : World} (h : Rel0 X T L F D A ρ a w) {j : Nat} (hj : j < X.N.length) : nmN X.N j = ρ j := by
  rw [h.mb j _ (List.getElem?_eq_getElem hj)]
  simp [nmN, hj]

theorem rel_dup {X : Fx} {T : TE} {L : LE} {n : Nat} {F : List Fact} {D : DF} {d : Nat} {u : TV} {a : Act} {w : World} (hd : alook T d = some u) (hr : Rel X T L n F D a w) : Rel X ((d, u) :: T) L n F D a w := by
  obtain ⟨hkb, ρ0, A, h0⟩ := hr
  refine ⟨hkb, ρ0, A, fun ρ hρ => ?_⟩
  have h1 := h0 ρ hρ
  refine ⟨⟨fun t x hx => ?_, h1.lo, h1.a3⟩, h1.sz, h1.df, h1.kp, h1.nw, h1.ds, h1.a1, h1.a2, h1.mb⟩
  rw [alook_cons] at hx
  split at hx
  · rename_i e; rw [e]; cases hx; exact h1.tm d _ hd
  · exact h1.tm t x hx
theorem Oper.wpIn_mono_q {Fe : Fence} {nn : Nat} {P : Program} {o : Oper} {a : Act} {w : World} {K K' : Act → World → Prop} {Q Q' : Exit → Act → World → Prop} (hq : ∀ e a w, Q e a w → Q' e a w) (h : ∀ a w, K a w → K' a w) (hh : o.wpIn Fe nn P a w K Q) : o.wpIn Fe nn P a w K' Q' := by
  have lo : LetsOut Q → LetsOut Q' := fun ⟨a, w, h⟩ => ⟨a, w, hq _ _ _ h⟩
  unfold Oper.wpIn at *
  refine ⟨hh.1, ?_⟩
  have hh := hh.2
  generalize (o.semAt Fe.round a.eval).run P w = r at *
  cases r with
  | ok x w' =>
    cases x <;> simp only [Oper.uponIn] at hh ⊢ <;>
      first
        | exact h _ _ hh
        | exact ⟨hh.1, CallsIn.mono hh.2 (fun e w'' he => by cases e <;> first | exact h _ _ he | exact hq _ _ _ he | exact lo he)⟩
        | exact ⟨hh.1, RowsIn.mono hh.2 (fun _ _ he => h _ _ he)⟩
        | exact ⟨hh.1, RoundIn.mono hh.2 (fun e w'' he => by cases e <;> first | exact h _ _ he | exact hq _ _ _ he | exact lo he)⟩
  | halt x w' => cases x <;> simp only [Oper.uponIn] at hh ⊢ <;> exact hq _ _ _ hh
theorem wpAnyIn_mono_q {Fe : Fence} {nn : Nat} {P : Program} {md : Region.Mode} {ops : Array Oper} {Q Q' : Exit → Act → World → Prop} (hq : ∀ e a w, Q e a w → Q' e a w) : ∀ (fuel : Nat) (listed : Array Bool) (a : Act) (w : World), wpAnyIn Fe nn P md ops Q fuel listed a w → wpAnyIn Fe nn P md ops Q' fuel listed a w
  | 0, _, _, _, h => ⟨h.1, hq _ _ _ h.2⟩
  | fuel + 1, _, _, _, h => ⟨fun h0 => hq _ _ _ (h.1 h0), fun i hi => by
    have h2 := h.2 i hi
    unfold wpOpIn at h2 ⊢
    split
    · exact wpAnyIn_mono_q hq fuel _ _ _ (by simpa [*] using h2)
    · rename_i o ho
      simp only [ho] at h2
      split
      · rename_i hw; simp only [hw, if_true] at h2; exact Oper.wpIn_mono_q hq (fun a w => wpAnyIn_mono_q hq fuel _ a w) h2
      · rename_i hw; simp only [hw] at h2; exact ⟨h2.1, wpAnyIn_mono_q hq fuel _ _ _ h2.2⟩⟩

section
variable {X : Fx} {W : Dw} {T : TE} {L : LE} {n : Nat} {F : List Fact} {D : DF} {K : KK}

theorem ready_after {ops : Array Oper} {listed : Array Bool} {i : Nat} (h : i ∈ Region.ready .any ops listed) : ∃ o, ops[i]? = some o := by
  obtain ⟨_, o, ho, _⟩ := mem_ready.1 h
  exact ⟨o, ho⟩

/-- An operation that is taken first. -/
theorem take_sound {KX : KK} {i : Nat} {o : Oper} {m : Nat} {listed : Array Bool} {Q : Exit → Act → World → Prop} {a : Act} {w : World} (hsel : Region.noSelect W.ops.toArray = true) (hnd : W.ops.all noDef = true) (hN : X.N.length = W.n0) (hoff : offT W.T0 W.ops = true)
    (hr : i ∈ Region.ready .any W.ops.toArray listed) (hf : Region.free .any W.ops.toArray listed i = true) (ho : W.ops[i]? = some o) (hg : o.guard = none ∨ ∃ j b, o.guard = some (j, b) ∧ guardS W.ops j T = some b)
    (hrel : Rel X T L n F D a w) (hV : ∃ A : Nat → Prop, ∀ f ∈ W.vf, f.h A w) {k : TE → Prop} (hk : ∀ T', k T' → ∀ a, Rel X T' L n F D a w → wpAnyT X.fe X.nn X.P .any W.ops.toArray (qNP X W.T0 KX Q) (TrD X W) m (listed.setIfInBounds i true) a w)
    (h : takeP X W i o T L k) : wpAnyT X.fe X.nn X.P .any W.ops.toArray (qNP X W.T0 KX Q) (TrD X W) (m + 1) listed a w := by
  have ho' : W.ops.toArray[i]? = some o := by simpa using ho
  have hdef : noDef o = true := List.all_eq_true.1 hnd o (List.mem_of_getElem? ho)
  have key : ∀ (u : TV) (Lq : LE) (T' : TE), (∀ q e, alook Lq q = some e → Lq = [(q, e)] ∧ alook L q = some e ∧ q < W.n0 ∧ e.lt' W.n0 = true ∧ e.isC = true ∧ W.vk.any (Nat.beq q) = true ∧ W.st.all (fun p => !(Nat.beq p.2 q) || hasEdge W.ops p.1 i) = true) →
      Yd X o T Lq W.vf u → putS X.k o.dst u T = some T' → k T' → wpAnyT X.fe X.nn X.P .any W.ops.toArray (qNP X W.T0 KX Q) (TrD X W) (m + 1) listed a w := by
    intro u Lq T' hLq hy hp hkT
    obtain ⟨A1, ρ1, h1⟩ := hrel.one
    have hw : Region.wanted o (yielded W.ops.toArray a.tmps) = true := by
      rcases hg with hg | ⟨j, b, hg, hj⟩
      · exact wanted_none hg _
      · rw [wanted_some hg (h1.guard hj)]; simp
    have hgood : ∀ w', ((∃ A : Nat → Prop, ∀ f ∈ W.vf, f.h A w') ∧ ∀ q e, alook Lq q = some e → e.holds (nmN X.N) q w') → (execOp a.eval o).run X.P w' = .ok (.value (u.den ρ1)) w' := by
      rintro w' ⟨⟨A, hA⟩, hB⟩
      refine hy.2 A ρ1 a w' ⟨h1.tm, fun q e hq => ?_, hA⟩
      obtain ⟨_, h2, h3, h4, _, _⟩ := hLq q e hq
      exact holds_congr (fun j hj => (h1.nm (by rw [hN]; exact hj)).symm) h4 h3 (hB q e hq)
    have hS0 : (∃ A : Nat → Prop, ∀ f ∈ W.vf, f.h A w) ∧ ∀ q e, alook Lq q = some e → e.holds (nmN X.N) q w := by
      refine ⟨hV, fun q e hq => ?_⟩
      obtain ⟨_, h2, h3, h4, _, _⟩ := hLq q e hq
      exact holds_congr (fun j hj => h1.nm (by rw [hN]; exact hj)) h4 h3 (h1.lo q e h2)
    refine wpAnyT_first (S := fun w' => (∃ A : Nat → Prop, ∀ f ∈ W.vf, f.h A w') ∧ ∀ q e, alook Lq q = some e → e.holds (nmN X.N) q w') (fun _ => trivial) (fun j oj hj => List.all_eq_true.1 hnd oj (List.mem_of_getElem? (by simpa using hj))) ho' (Region.noSelect_spec hsel)
      (fun c a w ⟨L', n', F', D', hK, hR⟩ => ⟨L', n', F', D', hK, hR.unput fun k hk => offT_spec hoff (List.mem_of_getElem? ho) hk⟩) (fun w' hS => ⟨hS.1, fun _ _ _ => rfl⟩) ?_ m listed a w (Region.free_spec ho' hf) hr ⟨hdef, .inl ⟨hw, hgood⟩⟩ hS0 ?_
    · intro j oj w1 w2 hj hji hno hT hS
      refine ⟨hT.1, fun q e hq => ?_⟩
      obtain ⟨_, h2, h3, h4, h45, h5, h6⟩ := hLq q e hq
      have hst : W.st.any (fun p => Nat.beq p.1 j && Nat.beq p.2 q) = false := by
        rw [Bool.eq_false_iff]
        intro hx
        obtain ⟨p, hp1, hp2⟩ := List.any_eq_true.1 hx
        simp only [Bool.and_eq_true, Nat.beq_eq] at hp2
        have h7 := List.all_eq_true.1 h6 p hp1
        simp only [hp2.2, Nat.beq_refl, Bool.not_true, Bool.false_or] at h7
        unfold hasEdge at h7
        rw [hp2.1, show W.ops[j]? = some oj by simpa using hj] at h7
        obtain ⟨e', he1, he2⟩ := List.any_eq_true.1 h7
        simp only [Bool.and_eq_true, Nat.beq_eq] at he2
        exact hno e' (by simpa using he1) he2.1 he2.2
      refine LC.keep (hS.2 q e hq) fun b hb => ?_
      have hbq : b = nmN X.N q ∨ ∃ x es sz m cs, e = .own x es sz m cs := by
        cases e with
        | c cs t => simp only [LC.blk, Option.some.injEq] at hb; exact .inl hb.symm
        | obj ob => simp only [LC.blk, Option.some.injEq] at hb; exact .inl hb.symm
        | dead => simp [LC.blk] at hb
        | own x es sz m cs => exact .inr ⟨x, es, sz, m, cs, rfl⟩
      rcases hbq with rfl | ⟨x, es, sz, m, cs, rfl⟩
      · exact hT.2 q h5 hst
      · cases h45
    · exact hk T' hkT _ (hrel.put (fun A ρ h2 => by
        obtain ⟨A', hA'⟩ := hV
        have h3 := hgood w hS0
        have h4 := hy.2 A' ρ a w ⟨h2.tm, fun q e hq => h2.lo q e (hLq q e hq).2.1, hA'⟩
        rw [h3] at h4; injection h4 with h5 h6; injection h5) hp)
  have keyT : TkS X W o T k → wpAnyT X.fe X.nn X.P .any W.ops.toArray (qNP X W.T0 KX Q) (TrD X W) (m + 1) listed a w := by
    rintro ⟨u, hy, h⟩
    split at h
    · rename_i T' hp
      exact key u [] T' (fun q e hq => by cases hq) hy hp h
    · exact h.elim
  unfold takeP at h
  split at h
  · rename_i c a' b' hop
    split at h
    · rename_i t ht
      have kp : ∀ x, (t = true → x = a') → (t = false → x = b') → (match evS T x with
          | some u => (match putS X.k o.dst u T with | some T' => k T' | none => False)
          | none => False) → wpAnyT X.fe X.nn X.P .any W.ops.toArray (qNP X W.T0 KX Q) (TrD X W) (m + 1) listed a w := by
        intro x h1 h2 h
        split at h
        · rename_i u hu
          split at h
          · rename_i T' hp
            refine key u [] T' (fun q e hq => by cases hq) ⟨hdef, fun A ρ a w h0 => ?_⟩ hp h
            have e1 := h0.ev ht
            simp only [TV.den, SV.den] at e1
            cases t
            · simp [execOp, hop, e1, asBool, ← h2 rfl, h0.ev hu]
            · simp [execOp, hop, e1, asBool, ← h1 rfl, h0.ev hu]
          · exact h.elim
        · exact h.elim
      cases t
      · exact kp b' (fun h => by cases h) (fun _ => rfl) h
      · exact kp a' (fun _ => rfl) (fun h => by cases h) h
    · exact h.elim
  · split at h
    · rename_i Lq hLq
      split at h
      · rename_i u hu
        split at h
        · rename_i T' hp
          refine key u Lq T' (fun q e hq => ?_) (valF_yd hu) hp h
          unfold seeS at hLq
          split at hLq
          · cases hLq; cases hq
          · rename_i q' hq'
            split at hLq
            · rename_i e' he'
              rw [cond_eq_ite] at hLq
              split at hLq
              · rename_i hc
                cases hLq
                rw [alook_cons] at hq
                split at hq
                · rename_i e1
                  cases hq
                  subst e1
                  simp only [Bool.and_eq_true, Nat.blt_eq] at hc
                  exact ⟨rfl, he', hc.1.1, hc.1.2.1, hc.1.2.2, hc.2.1, hc.2.2⟩
                · cases hq
              · cases hLq
            · cases hLq
        · exact h.elim
      · exact keyT h
    · exact keyT h

theorem viewP_spec {j n0 : Nat} {st : List (Nat × Nat)} {L L' : LE} : ∀ {vk : List Nat}, viewP j n0 st L L' vk → ∀ q, vk.any (Nat.beq q) = true → st.any (fun p => Nat.beq p.1 j && Nat.beq p.2 q) = false → alook L' q = alook L q ∧ q < n0 ∧ ∃ e, alook L q = some e ∧ e.lt' n0 = true ∧ e.isC = true
  | k :: r, h, q, hq, hs => by
    simp only [List.any_cons, Bool.or_eq_true, Nat.beq_eq] at hq
    rcases hq with rfl | hq
    · rcases h.1 with h1 | h1
      · rw [h1] at hs; cases hs
      · exact h1
    · exact viewP_spec h.2 q hq hs

theorem Sd.pos {ops : List Oper} {eff : List Nat} : ∀ {s : Sd} {listed : Array Bool}, schB ops eff true s listed = true → ∃ m, s.len = m + 1
  | .z, _, h => by simp [schB] at h
  | .op i r, _, h => ⟨_, rfl⟩
  | .alt l r, _, h => by
    simp only [schB, Bool.and_eq_true] at h
    exact Sd.pos (s := l) h.1.1.2
theorem dx_sound (hsel : Region.noSelect W.ops.toArray = true) (hnd : W.ops.all noDef = true) (hN : X.N.length = W.n0) (hoff : offT W.T0 W.ops = true) {Q : Exit → Act → World → Prop} {K : KK} (hQ : Imp X K Q) :
    ∀ {s : Sd} {listed : Array Bool} {T : TE} {L : LE} {n : Nat} {F : List Fact} {D : DF}, dx X W s T L n F D K → ∀ a w, Rel X T L n F D a w → (∃ A : Nat → Prop, ∀ f ∈ W.vf, f.h A w) →
    (schB W.ops W.eff false s listed = true → wpAnyT X.fe X.nn X.P .any W.ops.toArray (qNP X W.T0 K Q) (TrD X W) s.len listed a w) ∧
    (schB W.ops W.eff true s listed = true → ∀ i ∈ s.heads, wpOpIn X.fe X.nn X.P W.ops.toArray (qNP X W.T0 K Q) i (fun a' w' => TrD X W i w w' ∧ wpAnyT X.fe X.nn X.P .any W.ops.toArray (qNP X W.T0 K Q) (TrD X W) (s.len - 1) (listed.setIfInBounds i true) a' w') a w)
  | .z, listed, T, L, n, F, D, h, a, w, hr, hV => ⟨fun hs => ⟨by simpa [schB] using hs, hQ _ _ _ _ _ _ h a w hr⟩, fun hs => by simp [schB] at hs⟩
  | .alt l r, listed, T, L, n, F, D, h, a, w, hr, hV => by
    have both : schB W.ops W.eff true l listed = true → schB W.ops W.eff true r listed = true → l.len = r.len → ∀ i ∈ (Sd.alt l r).heads, wpOpIn X.fe X.nn X.P W.ops.toArray (qNP X W.T0 K Q) i (fun a' w' => TrD X W i w w' ∧ wpAnyT X.fe X.nn X.P .any W.ops.toArray (qNP X W.T0 K Q) (TrD X W) ((Sd.alt l r).len - 1) (listed.setIfInBounds i true) a' w') a w := by
      intro h1 h2 h3 i hi
      rcases List.mem_append.1 hi with hi | hi
      · exact (dx_sound hsel hnd hN hoff hQ h.1 a w hr hV).2 h1 i hi
      · have := (dx_sound hsel hnd hN hoff hQ h.2 a w hr hV).2 h2 i hi
        rw [← h3] at this
        exact this
    constructor
    · intro hs
      simp only [schB, Bool.and_eq_true, Bool.false_or] at hs
      obtain ⟨⟨⟨hs1, hs2⟩, hs3⟩, hs4⟩ := hs
      have hs1 : Region.ready .any W.ops.toArray listed = (Sd.alt l r).heads := by simpa using hs1
      obtain ⟨m, hm⟩ := Sd.pos hs2
      have hb := both hs2 hs3 (Nat.eq_of_beq_eq_true hs4)
      simp only [Sd.len, hm, Nat.add_sub_cancel] at hb ⊢
      refine ⟨fun h0 => ?_, fun j hj => hb j (by rw [hs1] at hj; exact hj)⟩
      rw [hs1] at h0
      exfalso
      have : ∀ {s : Sd} {listed}, schB W.ops W.eff true s listed = true → s.heads ≠ [] := by
        intro s
        induction s with
        | z => intro _ h; simp [schB] at h
        | op i r => intro _ _; simp [Sd.heads]
        | alt l r ihl _ =>
          intro li h
          simp only [schB, Bool.and_eq_true] at h
          have := ihl h.1.1.2
          simp [Sd.heads, this]
      simp only [Sd.heads, List.append_eq_nil_iff] at h0
      exact this hs2 h0.1
    · intro hs
      simp only [schB, Bool.and_eq_true, Bool.true_or, true_and] at hs
      exact both hs.1.1 hs.1.2 (Nat.eq_of_beq_eq_true hs.2)
  | .op i r, listed, T, L, n, F, D, h, a, w, hr, hV => by
    unfold dx at h
    split at h
    · exact h.elim
    · rename_i o ho
      have ho' : W.ops.toArray[i]? = some o := by simpa using ho
      have hdef : noDef o = true := List.all_eq_true.1 hnd o (List.mem_of_getElem? ho)
      have effb : W.eff.contains i = W.eff.any (Nat.beq i) := by
        rw [Bool.eq_iff_iff]
        simp [List.any_eq_true]
      have hs2 : ∀ {u}, schB W.ops W.eff u (.op i r) listed = true → schB W.ops W.eff false r (listed.setIfInBounds i true) = true := by
        intro u hs
        simp only [schB, Bool.and_eq_true] at hs
        exact hs.2
      have two : ∀ a w, (W.eff.any (Nat.beq i) = true → schB W.ops W.eff false r (listed.setIfInBounds i true) = true → wpOpIn X.fe X.nn X.P W.ops.toArray (qNP X W.T0 K Q) i (fun a' w' => TrD X W i w w' ∧ wpAnyT X.fe X.nn X.P .any W.ops.toArray (qNP X W.T0 K Q) (TrD X W) r.len (listed.setIfInBounds i true) a' w') a w) →
          (W.eff.any (Nat.beq i) = false → i ∈ Region.ready .any W.ops.toArray listed → Region.free .any W.ops.toArray listed i = true → schB W.ops W.eff false r (listed.setIfInBounds i true) = true → wpAnyT X.fe X.nn X.P .any W.ops.toArray (qNP X W.T0 K Q) (TrD X W) (r.len + 1) listed a w) →
          (schB W.ops W.eff false (.op i r) listed = true → wpAnyT X.fe X.nn X.P .any W.ops.toArray (qNP X W.T0 K Q) (TrD X W) (Sd.op i r).len listed a w) ∧
          (schB W.ops W.eff true (.op i r) listed = true → ∀ j ∈ (Sd.op i r).heads, wpOpIn X.fe X.nn X.P W.ops.toArray (qNP X W.T0 K Q) j (fun a' w' => TrD X W j w w' ∧ wpAnyT X.fe X.nn X.P .any W.ops.toArray (qNP X W.T0 K Q) (TrD X W) ((Sd.op i r).len - 1) (listed.setIfInBounds j true) a' w') a w) := by
        intro a w hE hN'
        constructor
        · intro hs
          have h2 := hs2 hs
          simp only [schB, Bool.and_eq_true, Bool.false_eq_true, if_false] at hs
          cases he : W.eff.any (Nat.beq i) with
          | true =>
            have hs1 := hs.1
            rw [if_pos (by rw [effb]; exact he)] at hs1
            have hs1 : Region.ready .any W.ops.toArray listed = [i] := by simpa using hs1
            refine ⟨fun h0 => (by rw [hs1] at h0; cases h0), fun j hj => ?_⟩
            rw [hs1] at hj
            simp only [List.mem_singleton] at hj
            subst hj
            exact hE he h2
          | false =>
            have hs1 := hs.1
            rw [if_neg (by rw [effb, he]; simp)] at hs1
            have h4 : i ∈ Region.ready .any W.ops.toArray listed ∧ Region.free .any W.ops.toArray listed i = true := by simpa using hs1
            exact hN' he h4.1 h4.2 h2
        · intro hs j hj
          have h2 := hs2 hs
          simp only [schB, Bool.and_eq_true, if_true] at hs
          simp only [Sd.heads, List.mem_singleton] at hj
          subst hj
          exact hE (by rw [← effb]; exact hs.1) h2
      have run : ∀ T, Rel X T L n F D a w → (o.guard = none ∨ ∃ j b, o.guard = some (j, b) ∧ guardS W.ops j T = some b) →
          (bif W.eff.any (Nat.beq i) then opK X o T L n F D (fun T' L' n' F' D' => (viewP i W.n0 W.st L L' W.vk ∧ ∀ f ∈ W.vf, f ∈ F') ∧ dx X W r T' L' n' F' D' K) (panK W.T0 K) else takeP X W i o T L fun T' => dx X W r T' L n F D K) →
          (schB W.ops W.eff false (.op i r) listed = true → wpAnyT X.fe X.nn X.P .any W.ops.toArray (qNP X W.T0 K Q) (TrD X W) (Sd.op i r).len listed a w) ∧
          (schB W.ops W.eff true (.op i r) listed = true → ∀ j ∈ (Sd.op i r).heads, wpOpIn X.fe X.nn X.P W.ops.toArray (qNP X W.T0 K Q) j (fun a' w' => TrD X W j w w' ∧ wpAnyT X.fe X.nn X.P .any W.ops.toArray (qNP X W.T0 K Q) (TrD X W) ((Sd.op i r).len - 1) (listed.setIfInBounds j true) a' w') a w) := by
        intro T hr hg h
        refine two a w (fun he hs2 => ?_) (fun he h1 h2 hs2 => ?_)
        · rw [he] at h
          simp only [cond_true] at h
          obtain ⟨A1, ρ1, h1⟩ := hr.one
          have hw : Region.wanted o (yielded W.ops.toArray a.tmps) = true := by
            rcases hg with hg | ⟨j, b, hg, hj⟩
            · exact wanted_none hg _
            · rw [wanted_some hg (h1.guard hj)]; simp
          unfold wpOpIn
          simp only [ho', hw, if_true]
          refine opK_sound h (qNP X W.T0 K Q) ?_ _ ?_ a w hr
          · intro e T L n F D hK a w hr
            cases e with
            | panic c => exact ⟨L, n, F, D, hK.2, hr.drop (keepT_spec hK.1)⟩
            | _ => exact hQ _ _ _ _ _ _ hK a w hr
          · rintro T' L' n' F' D' ⟨⟨hv, hf⟩, hd⟩ a' w' hr'
            obtain ⟨A2, ρ2, h2⟩ := hr'.one
            have hV' : ∃ A : Nat → Prop, ∀ f ∈ W.vf, f.h A w' := ⟨A2, fun f hf' => h2.a3 f (hf f hf')⟩
            refine ⟨⟨hV', fun q hq hst => ?_⟩, (dx_sound hsel hnd hN hoff hQ hd a' w' hr' hV').1 hs2⟩
            obtain ⟨e1, hq0, e, e2, hlt, hc⟩ := viewP_spec hv q hq hst
            have g1 := holds_congr (fun j hj => h1.nm (by rw [hN]; exact hj)) hlt hq0 (h1.lo q e e2)
            have g2 := holds_congr (fun j hj => h2.nm (by rw [hN]; exact hj)) hlt hq0 (h2.lo q e (by rw [e1]; exact e2))
            cases e with
            | c cs t => exact g2.trans g1.symm
            | obj ob => exact g2.trans g1.symm
            | dead => cases hc
            | own => cases hc
        · rw [he] at h
          exact take_sound hsel hnd hN hoff h1 h2 ho hg hr hV (fun T' hk a hr' => (dx_sound hsel hnd hN hoff hQ hk a w hr' hV).1 hs2) h
      have skip : ∀ T, Rel X T L n F D a w → ∀ j b c, o.guard = some (j, b) → guardS W.ops j T = some c → (c == b) = false → (match putS X.k o.dst (.o (.v undef)) T with | some T' => dx X W r T' L n F D K | none => False) →
          (schB W.ops W.eff false (.op i r) listed = true → wpAnyT X.fe X.nn X.P .any W.ops.toArray (qNP X W.T0 K Q) (TrD X W) (Sd.op i r).len listed a w) ∧
          (schB W.ops W.eff true (.op i r) listed = true → ∀ j ∈ (Sd.op i r).heads, wpOpIn X.fe X.nn X.P W.ops.toArray (qNP X W.T0 K Q) j (fun a' w' => TrD X W j w w' ∧ wpAnyT X.fe X.nn X.P .any W.ops.toArray (qNP X W.T0 K Q) (TrD X W) ((Sd.op i r).len - 1) (listed.setIfInBounds j true) a' w') a w) := by
        intro T hr j b c hg hj hc h
        split at h
        · rename_i T' hp
          obtain ⟨A1, ρ1, h1⟩ := hr.one
          have hw : Region.wanted o (yielded W.ops.toArray a.tmps) = false := by rw [wanted_some hg (h1.guard hj), hc]
          have hnext := fun hs2 => (dx_sound (listed := listed.setIfInBounds i true) hsel hnd hN hoff hQ h _ w (hr.put (v := undef) (fun _ _ _ => rfl) hp) hV).1 hs2
          refine two a w (fun he hs2 => ?_) (fun he h2 h3 hs2 => ?_)
          · unfold wpOpIn
            simp only [ho', hw, Bool.false_eq_true, if_false]
            exact ⟨fun _ _ => trivial, ⟨hV, fun _ _ _ => rfl⟩, hnext hs2⟩
          · exact wpAnyT_first (S := fun w' => ∃ A : Nat → Prop, ∀ f ∈ W.vf, f.h A w') (fun _ => trivial) (fun j oj hj => List.all_eq_true.1 hnd oj (List.mem_of_getElem? (by simpa using hj))) ho' (Region.noSelect_spec hsel)
              (fun c a w ⟨L', n', F', D', hK, hR⟩ => ⟨L', n', F', D', hK, hR.unput fun k hk => offT_spec hoff (List.mem_of_getElem? ho) hk⟩) (fun w' hS => ⟨hS, fun _ _ _ => rfl⟩) (fun _ _ _ _ _ _ _ hT _ => hT.1) r.len listed a w (Region.free_spec ho' h3) h2 ⟨hdef, .inr ⟨hw, rfl⟩⟩ hV (hnext hs2)
        · exact h.elim
      have dup : ∀ (d : Nat) (u : TV), alook T d = some u → Rel X ((d, u) :: T) L n F D a w := fun d u hd => rel_dup hd hr
      split at h
      · rename_i hg
        exact run T hr (.inl hg) h
      · rename_i j b hg
        split at h
        · rename_i d hd
          split at h
          · rename_i c hc
            have gd : ∀ e : Bool, guardS W.ops j ((d, .o (.v (.bool e))) :: T) = some e := fun e => by
              unfold guardS; rw [hd]; simp only [alook_head]
            cases b <;> cases c
            · exact run _ (dup _ _ hc) (.inr ⟨j, false, hg, gd false⟩) h
            · exact skip _ (dup _ _ hc) j false true hg (gd true) rfl h
            · exact skip _ (dup _ _ hc) j true false hg (gd false) rfl h
            · exact run _ (dup _ _ hc) (.inr ⟨j, true, hg, gd true⟩) h
          · exact h.elim
        · exact h.elim
end

section
variable {X : Fx} {T : TE} {L : LE} {n : Nat} {F : List Fact} {D : DF} {K : KK}
/-- A region that draws its order: one run, by sch; eff are the operations that do more than read; vk the blocks that are read; st which operation stores to which of them. -/
theorem cjs_drawn {id : Nat} {ops : Array Oper} (eff : List Nat) (sch : Sd) (vk : List Nat) (st : List (Nat × Nat)) (keep : List Nat) (vf : List Fact) (hm : X.P.follows .mixedOrders = true) (hB : drawB ops.toList eff sch = true) (hoff : offT (pickT keep T) ops.toList = true) (hXN : X.N.length ≤ n) (hvf : ∀ f ∈ vf, f ∈ F)
    (h : ∀ N : List Nat, dx { X with N := N } ⟨ops.toList, eff, vk, st, vf, n, pickT keep T⟩ sch T L n F D K) : CJs X (.region id ops true) T L n F D K := by
  intro Q hQ a w hr
  simp only [drawB, Bool.and_eq_true] at hB
  obtain ⟨⟨⟨hB1, hB2⟩, hB3⟩, hB4⟩ := hB
  have hlen : sch.len = ops.size := by simpa using Nat.eq_of_beq_eq_true hB4
  obtain ⟨hkb, ρ0, A, h0⟩ := hr
  obtain ⟨N, hN⟩ : ∃ N, N = (List.range n).map ρ0 := ⟨_, rfl⟩
  have hNl : N.length = n := by rw [hN]; simp
  have hN0 : ∀ i b, N[i]? = some b → i < n ∧ ρ0 i = b := by
    intro i b hib
    rw [hN] at hib
    simp only [List.getElem?_map, Option.map_eq_some_iff] at hib
    obtain ⟨j, hj, rfl⟩ := hib
    obtain ⟨h1, h2⟩ := List.getElem?_eq_some_iff.1 hj
    simp at h1 h2
    subst h2
    exact ⟨h1, rfl⟩
  have hrel : Rel { X with N := N } T L n F D a { w with drawn := w.drawn + 1 } := by
    refine ⟨hkb, ρ0, A, fun ρ hρ => ?_⟩
    have h1 := h0 ρ hρ
    exact ⟨⟨h1.tm, fun k e hk => LC.keep (w := w) (h1.lo k e hk) fun b _ => rfl, fun f hf => f.ok (w := w) (fun _ h => h) (fun b _ => rfl) ⟨rfl, rfl, rfl, Nat.le_refl _⟩ (h1.a3 f hf)⟩, h1.sz, h1.df, ⟨h1.kp.os, h1.kp.tape, h1.kp.output, h1.kp.size, h1.kp.keep⟩, h1.nw, h1.ds, h1.a1, h1.a2,
      fun i b hib => by obtain ⟨h2, h3⟩ := hN0 i b hib; rw [hρ i h2, h3]⟩
  have himp : Imp { X with N := N } K Q := by
    intro e T L n' F D hK a w hr'
    refine hQ e T L n' F D hK a w ?_
    obtain ⟨hkb', ρ1, A', h1⟩ := hr'
    refine ⟨hkb', ρ1, A', fun ρ hρ => ?_⟩
    have h2 := h1 ρ hρ
    refine ⟨⟨h2.tm, h2.lo, h2.a3⟩, h2.sz, h2.df, h2.kp, h2.nw, h2.ds, h2.a1, h2.a2, fun i b hib => ?_⟩
    have hi := (List.getElem?_eq_some_iff.1 hib).1
    have h3 := (h0 ρ0 (fun _ _ => rfl)).mb i b hib
    have h4 : N[i]? = some (ρ0 i) := by
      rw [hN, List.getElem?_map, List.getElem?_range (Nat.lt_of_lt_of_le hi hXN)]
      rfl
    rw [h2.mb i _ h4, h3]
  have key := (dx_sound (X := { X with N := N }) (W := ⟨ops.toList, eff, vk, st, vf, n, pickT keep T⟩) (by simpa using hB2) hB3 hNl hoff himp (h N) a _ hrel ⟨A, fun f hf => f.ok (w := w) (fun _ h => h) (fun b _ => rfl) ⟨rfl, rfl, rfl, Nat.le_refl _⟩ ((h0 ρ0 (fun _ _ => rfl)).a3 f (hvf f hf))⟩).1 hB1
  rw [hlen, Array.toArray_toList, Array.length_toList] at key
  refine wpIn_region_any hm (wpAnyIn_mono_q (Q := qNP { X with N := N } (pickT keep T) K Q) (fun e a w hq => ?_) _ _ _ _ (wpAnyIn_of_T _ _ _ _ key))
  cases e with
  | panic c =>
    obtain ⟨L', n', F', D', hK, hR⟩ := hq
    exact himp _ _ _ _ _ _ hK a w hR
  | _ => exact hq
/-- A joint: the code is run up to a state that is named, and on from there. -/
theorem cjs_cut {c : Code} (S : Sg) (h1 : CJs X c T L n F D fun e T' L' n' F' D' => match e with
    | .normal => Wk X T' L' n' F' D' S
    | e => K e T' L' n' F' D') (h2 : K .normal S.T S.L S.n S.F S.D) : CJs X c T L n F D K := by
  intro Q hQ a w hr
  refine h1 Q ?_ a w hr
  intro e T' L' n' F' D' hK a w hr
  cases e with
  | normal => exact hQ _ _ _ _ _ _ h2 a w (hK a w hr)
  | exit id => exact hQ _ _ _ _ _ _ hK a w hr
  | goto l => exact hQ _ _ _ _ _ _ hK a w hr
  | ret => exact hQ _ _ _ _ _ _ hK a w hr
  | panic ch => exact hQ _ _ _ _ _ _ hK a w hr
  | outgrown => exact hQ _ _ _ _ _ _ hK a w hr
end

end Go.Proofs.Ytnkpmeplapkobaa
