/- A symbolic run: literals whose parts are made in any order (slices of parts, maps of slices). No program is in sight. -/
import Derived.Test.YthnkjgffahkecaaGreatEngX
namespace Go.Proofs.YthnkjgffahkecaaGreat
open Go.RowKit Go.Shelf

theorem alook_all' {α : Type} : ∀ {l : List (Nat × α)} {t : Nat} {x : α}, alook l t = some x → (t, x) ∈ l
  | (k, y) :: r, t, x, h => by
    rw [alook_cons] at h
    split at h
    · rename_i e; cases h; subst e; exact List.mem_cons_self ..
    · exact List.mem_cons_of_mem _ (alook_all' h)
section
variable {X : Fx} {T : TE} {L : LE} {n : Nat} {F : List Fact} {D : DF} {K : KK} {k : KS} {o : Oper}

/-- append onto a slice that is full. -/
theorem ojs_appendF {α : Type} {enc : α → List Value} {cl : Call} {s src : Operand} {t e : TypeId} {sz by_ m m' b off : Nat} {zs : List Nat} {xs : List α} {news : List Value} {d : Nat} (ho : o.op = .call cl) (hcl : cl.callee = .builtin .append) (hargs : cl.args.toList = [s, src]) (htys : cl.argTypes.toList = [t, t])
    (hs : evS T s = some (.o (.v (.slice (some ⟨b, off, none⟩) m m)))) (hf : slF enc sz (.slice (some ⟨b, off, none⟩) m m) xs ∈ F) (henc : ∀ x, (enc x).length = sz) (hel : alook X.tab.el t = some (e, sz)) (hze : alook X.tab.ze e = some zs) (hzl : zs.length = sz) (hby : alook X.tab.by_ e = some by_) (hdst : o.dst = some d) (hd : Nat.blt d X.k = true)
    (hsrc : ∀ A ρ a w, Vw T L F A ρ a w → (∀ b, A b → b < w.heap.size) → (∃ ad c, a.eval src = .slice (some ad) m' c ∧ ∀ j u, news[j]? = some u → w.cell? (ad.add j) = some u) ∨ (a.eval src = .slice none 0 0 ∧ m' = 0 ∧ news = [])) (hl : news.length = m' * sz) (hm : 0 < m') (hcap : (m + m') * by_ ≤ 140737488355328) (h63 : m + m' ≤ maxLen)
    (h : ∀ a' c', k ((d, .o (.v (.slice a' (m + m') c'))) :: T) ((n, .own (.slice a' (m + m') c') e sz (m + m') (xs.flatMap enc ++ news)) :: L) (n + 1) F D) : OJs X o T L n F D k K := by
  intro Q hQ Φ hΦ a w hr
  obtain ⟨A, ρ, h0⟩ := hr.one
  refine Oper.wpIn_of_run (by simp [noDef, ho]) ?_
  obtain ⟨ht, i, hi, his⟩ := tyE_spec (X.ok.el _ _ hel)
  obtain ⟨i', z, hi', hz1, hz2⟩ := tyZ_is (X.ok.ze _ _ hze)
  simp only at ht hi his
  rw [hi] at hi'
  cases hi'
  have hyb : i.bytes = by_ := by
    have := X.ok.by_ _ _ hby
    unfold tyY at this
    rw [hi] at this
    simpa using this
  have hzs : z.cells.size = sz := by rw [hz2 ρ]; simp [denL, zcells, hzl]
  have ha1 : cl.args = #[s, src] := Array.ext' hargs
  have ha2 : cl.argTypes = #[t, t] := Array.ext' htys
  have hv : a.eval s = .slice (some ⟨b, off, none⟩) m m := h0.ev hs
  have hS := slF_sl (h0.a3 _ hf) (fun b hb => (h0.a2 b hb).1)
  have hml : m = xs.length := (slF_len (h0.a3 _ hf)).1
  subst hml
  have holds := hS.news henc
  rcases hsrc A ρ a w h0.toVw (fun b hb => (h0.a2 b hb).1) with ⟨ad, c', hsv, hnews⟩ | ⟨hsv, rfl, rfl⟩
  · have hflen : (xs.flatMap enc).length = xs.length * i.size := by rw [his]; exact flat_length henc xs
    have hsmall : xs.length + m' ≤ 9223372036854775807 := by simp only [maxLen] at h63; omega
    have hrun := run_append_grow (P := X.P) w t o.type e i z ht hi hz1 ⟨b, off, none⟩ xs.length xs.length (xs.flatMap enc) hflen holds ad m' c' news (by rw [his]; exact hl) hnews (by omega) (by omega) (growslice_fits (by omega) (by rw [hyb]; exact hcap))
    have hge := grownCap_ge w (xs.length + m') xs.length e
    have hcm : grownCap w (xs.length + m') xs.length e ≤ maxLen := grownCap_le_maxLen w (xs.length + m') xs.length e h63
    have hlen : (xs.flatMap enc ++ news).length = (xs.length + m') * i.size := by rw [List.length_append, hflen, hl, his, Nat.add_mul]
    have hown : (w.drew.alloc (.cells ((xs.flatMap enc).toArray ++ news.toArray ++ Builtin.zeroCells z.cells (grownCap w (xs.length + m') xs.length e - (xs.length + m'))) e)).ownsRow 0 e i.size
        (.slice (some ⟨w.heap.size, 0, none⟩) (xs.length + m') (grownCap w (xs.length + m') xs.length e)) (xs.length + m') (xs.flatMap enc ++ news) := by
      refine ⟨hlen, .inr ⟨w.heap.size, _, _, rfl, Nat.zero_le _, World.alloc_heap_new w.drew _, hge, hcm, ?_, ?_⟩⟩
      · simp only [Array.size_append, List.size_toArray, size_zeroCells, hzs, hflen, hl, ← Nat.add_mul, his]
        congr 1
        omega
      · simp only [Array.toList_append, List.append_assoc]
        rw [← List.append_assoc, ← hlen]
        exact List.take_left
    have e1 : (execOp a.eval o).run X.P w = .ok (.value (.slice (some ⟨w.heap.size, 0, none⟩) (xs.length + m') (grownCap w (xs.length + m') xs.length e))) (w.drew.alloc (.cells ((xs.flatMap enc).toArray ++ news.toArray ++ Builtin.zeroCells z.cells (grownCap w (xs.length + m') xs.length e - (xs.length + m'))) e)) := by
      simp only [execOp, ho, resolve, hcl, ha1, ha2, List.map_toArray, List.map_cons, List.map_nil, hv, hsv, Sem.run_bind, Sem.run_pure, Result.andThen_ok, invoke, builtin, hrun]
    rw [e1]
    refine hΦ _ _ _ _ _ (h (some ⟨w.heap.size, 0, none⟩) (grownCap w (xs.length + m') xs.length e)) _ _ ?_
    have hr1 : Rel X T ((n, .own (.slice none 0 0) e sz 0 []) :: L) (n + 1) F D a w := wk_own e sz a w hr
    rw [his] at hown
    have hr2 := hr1.own (j := n) (v := .slice none 0 0) (alook_head _ _ _) hown ⟨rfl, rfl, rfl, by simp, fun k hk _ => Below.heap_alloc w.drew _ k hk⟩ (fun g hg => .inr (by simp only [Value.ownBlock, Option.some.injEq] at hg; omega))
    have hr3 := hr2.reL (L' := (n, .own (.slice (some ⟨w.heap.size, 0, none⟩) (xs.length + m') (grownCap w (xs.length + m') xs.length e)) e sz (xs.length + m') (xs.flatMap enc ++ news)) :: L) (fun k e' hk => by
      rw [alook_cons] at hk
      refine ⟨e', ?_, fun _ => rfl, fun _ h => h⟩
      rw [alook_cons]
      split at hk
      · rename_i ek; rw [if_pos ek]; exact hk
      · rename_i ek; rw [if_neg ek, alook_cons, if_neg ek]; exact hk)
    exact hr3.put (u := .o (.v _)) (fun _ _ _ => rfl) (by simp [putS, hdst, hd])
  · omega
/-- A slice x[:h:h] of one that is known. -/
theorem yd_slice3 {t e : TypeId} {x y z : Operand} {sz b off m c i : Nat} {ki kj : IntKind} {p q : Int} (hp : p = (i : Int)) (hq : q = (i : Int)) (him : i ≤ m) (hmc : m ≤ c) (ho : o.op = .slice t x none (some y) (some z)) (hel : alook X.tab.el t = some (e, sz)) (hx : evS T x = some (.o (.v (.slice (some ⟨b, off, none⟩) m c)))) (hy : evS T y = some (.o (.v (.int ki p)))) (hz : evS T z = some (.o (.v (.int kj q)))) :
    Yd X o T L F (.o (.v (.slice (some ⟨b, off, none⟩) i i))) := by
  subst hp
  subst hq
  refine ⟨by simp [noDef, ho], fun A ρ a w h0 => ?_⟩
  have e1 := h0.ev hx
  have e2 := h0.ev hy
  have e3 := h0.ev hz
  simp only [TV.den, SV.den] at e1 e2 e3
  obtain ⟨ht, i', hi, his⟩ := tyE_spec (X.ok.el _ _ hel)
  have h4 := elem_of ht
  have h5 : X.P.elem t = e := by unfold Program.elem; rw [ht]
  have hr : (Instr.slice t (.slice (some ⟨b, off, none⟩) m c) none (some (.int ki i)) (some (.int kj i))).run X.P w = .ok (.slice (some ⟨b, off, none⟩) i i) w := by
    have g1 : (0 : Int) ≤ i ∧ (i : Int) ≤ (c : Int) := by omega
    have g2 : (0 : Int) ≤ i ∧ (i : Int) ≤ (i : Int) := by omega
    simp only [Instr.slice, Sem.run_bind, run_underlying ht, Result.andThen_ok]
    simp [Instr.sliceBounds, Instr.sliceBound, asIntOf, g1.2, sizeOf, typeInfo, hi, addr_add]
  simp only [execOp, ho, Option.map_none, Option.map_some, e1, e2, e3, Sem.run_bind, run_sliceAt_slice (h := h4), hr, Result.andThen_ok, Sem.run_pure, TV.den, SV.den]
/-- A map that is filled in any order: ins are its operations: which, the key, whence the value. -/
def mspec (done : Nat → Bool) (env : Nat → Value) : List (Nat × Int × Nat) → Int → Option Value
  | [], _ => none
  | (i, z, j) :: r, k => if k = z ∧ done i = true then some (env j) else mspec done env r k
def mapPm (i0 : Nat) (ins : List (Nat × Int × Nat)) (eqs : List Nat) (done : Nat → Bool) (env : Nat → Value) (mp : LC) : Prop :=
  (done i0 = false → mp = .dead) ∧ (done i0 = true → ∃ g ms, env i0 = .map (some g) ∧ mp = .ob g (mapO ms) ∧ ∀ k, mlook ms k = mspec done env ins k) ∧ ∀ j ∈ eqs, done j = true → env j = env i0
def pvOf (tbl : List (Nat × (Value → Prop))) (j : Nat) (v : Value) : Prop := match alook tbl j with | some p => p v | none => True
def spOf (tbl : List (Nat × (Value → List Fact))) (j : Nat) (v : Value) : List Fact := match alook tbl j with | some p => p v | none => []
/-- What is known of a region of literals: how its results read, what they hang on; one object of the call's own; the rest of the own blocks. -/
structure LitW where
  ops : List Oper
  T0 : TE
  L0 : LE
  nm : Nat
  F0 : List Fact
  D : DF
  pt : List (Nat × (Value → Prop))
  st : List (Nat × (Value → List Fact))
  i0 : Nat
  ins : List (Nat × Int × Nat)
  eqs : List Nat
def LitW.pv (W : LitW) : Nat → Value → Prop := pvOf W.pt
def LitW.sp (W : LitW) : Nat → Value → List Fact := spOf W.st
def LitW.pm (W : LitW) : (Nat → Bool) → (Nat → Value) → LC → Prop := mapPm W.i0 W.ins W.eqs
structure LitH (W : LitW) (done : Nat → Bool) (env : Nat → Value) (mp : LC) (T : TE) (n : Nat) (F : List Fact) : Prop where
  pm : W.pm done env mp
  hn : W.nm < n
  fresh : ∀ k e, alook W.L0 k = some e → k ≠ W.nm ∧ k < n
  hF : ∀ f ∈ W.F0, f ∈ F
  hT : ∀ t u, alook W.T0 t = some u → alook T t = some u
  hv : ∀ j, done j = true → W.pv j (env j)
  hs : ∀ j, done j = true → ∀ f ∈ W.sp j (env j), f ∈ F
  ht : ∀ j o d, W.ops[j]? = some o → o.dst = some d → done j = true → alook T d = some (.o (.v (env j)))
  dc : ∀ j o, W.ops[j]? = some o → done j = true → ∀ e ∈ o.after.toList, Region.binds .any e = true → done e.on = true
structure litK (X : Fx) (W : LitW) (i : Nat) (o : Oper) (done : Nat → Bool) (env : Nat → Value) (T : TE) (F : List Fact) (T' : TE) (L' : LE) (n' : Nat) (F' : List Fact) (D' : DF) : Prop where
  h : ∀ a w, Rel X T' L' n' F' D' a w →
    ∃ v mp n'', W.pv i v ∧ W.pm (upd done i) (fun j => if j = i then v else env j) mp ∧ W.nm < n'' ∧ Rel X (match o.dst with | some d => (d, .o (.v v)) :: T | none => T) ((W.nm, mp) :: W.L0) n'' (W.sp i v ++ F) W.D a w
def dsts (ops : List Oper) : List Nat := ops.filterMap (·.dst)
def distinct : List Nat → Bool
  | [] => true
  | x :: r => !(r.any (Nat.beq x)) && distinct r
theorem distinct_at : ∀ {ops : List Oper}, distinct (dsts ops) = true → ∀ {i j : Nat} {o p : Oper} {d : Nat}, ops[i]? = some o → ops[j]? = some p → o.dst = some d → p.dst = some d → i = j
  | [], _, i, j, o, p, d, hi, _, _, _ => by simp at hi
  | x :: r, h, i, j, o, p, d, hi, hj, hd, hd' => by
    have mem : ∀ {q : Oper} {k : Nat}, r[k]? = some q → q.dst = some d → d ∈ dsts r := fun hq hqd => List.mem_filterMap.2 ⟨_, List.mem_of_getElem? hq, hqd⟩
    have rest : distinct (dsts r) = true := by
      unfold dsts at h
      rw [List.filterMap_cons] at h
      split at h
      · exact h
      · simp only [distinct, Bool.and_eq_true] at h; exact h.2
    have hno : x.dst = some d → ¬ d ∈ dsts r := by
      intro hx hm
      unfold dsts at h
      rw [List.filterMap_cons, hx] at h
      simp only [distinct, Bool.and_eq_true, Bool.not_eq_true'] at h
      have := h.1
      rw [List.any_eq_false] at this
      exact this d hm (by simp)
    cases i with
    | zero =>
      cases j with
      | zero => rfl
      | succ j =>
        simp only [List.getElem?_cons_zero, Option.some.injEq, List.getElem?_cons_succ] at hi hj
        subst hi
        exact absurd (mem hj hd') (hno hd)
    | succ i =>
      cases j with
      | zero =>
        simp only [List.getElem?_cons_zero, Option.some.injEq, List.getElem?_cons_succ] at hi hj
        subst hj
        exact absurd (mem hi hd) (hno hd')
      | succ j =>
        simp only [List.getElem?_cons_succ] at hi hj
        exact congrArg (· + 1) (distinct_at rest hi hj hd hd')
def outT (ops : List Oper) (env : Nat → Value) : List Nat → TE
  | [] => []
  | j :: r => match ops[j]? with
    | some o => match o.dst with
      | some d => (d, .o (.v (env j))) :: outT ops env r
      | none => outT ops env r
    | none => outT ops env r
theorem outT_look {ops : List Oper} {env : Nat → Value} : ∀ {out : List Nat} {t : Nat} {u : TV}, alook (outT ops env out) t = some u → ∃ j o, j ∈ out ∧ ops[j]? = some o ∧ o.dst = some t ∧ u = .o (.v (env j))
  | [], t, u, h => by simp [outT, alook] at h
  | j :: r, t, u, h => by
    unfold outT at h
    split at h
    · rename_i o ho
      split at h
      · rename_i d hd
        rw [alook_cons] at h
        split at h
        · rename_i e; cases h; subst e; exact ⟨j, o, List.mem_cons_self .., ho, hd, rfl⟩
        · obtain ⟨j', o', h1, h2⟩ := outT_look h; exact ⟨j', o', List.mem_cons_of_mem _ h1, h2⟩
      · obtain ⟨j', o', h1, h2⟩ := outT_look h; exact ⟨j', o', List.mem_cons_of_mem _ h1, h2⟩
    · obtain ⟨j', o', h1, h2⟩ := outT_look h; exact ⟨j', o', List.mem_cons_of_mem _ h1, h2⟩
theorem mapPm_start {i0 : Nat} {ins : List (Nat × Int × Nat)} {eqs : List Nat} {env : Nat → Value} : mapPm i0 ins eqs (fun _ => false) env .dead := ⟨fun _ => rfl, fun h => absurd h (by simp), fun j _ h => absurd h (by simp)⟩
theorem mapPm_lt {i0 : Nat} {ins : List (Nat × Int × Nat)} {eqs : List Nat} {m : Nat} {done : Nat → Bool} {env : Nat → Value} {mp : LC} (h : mapPm i0 ins eqs done env mp) : mp.lt' m = true := by
  cases hd : done i0 with
  | false => rw [h.1 hd]; rfl
  | true => obtain ⟨g, ms, _, rfl, _⟩ := h.2.1 hd; rfl
/-- Steps of a region of literals, one by one. -/
def litSteps (X : Fx) (W : LitW) (K : KK) : Nat → List Oper → Prop
  | _, [] => True
  | i, o :: r => (∀ (done : Nat → Bool) (env : Nat → Value) (mp : LC) (T : TE) (n : Nat) (F : List Fact), done i = false → (∀ e ∈ o.after.toList, Region.binds .any e = true → done e.on = true) → LitH W done env mp T n F → OJs X o T ((W.nm, mp) :: W.L0) n F W.D (litK X W i o done env T F) K) ∧ litSteps X W K (i + 1) r
theorem litSteps_at {W : LitW} {l : List Oper} : ∀ {k : Nat}, litSteps X W K k l → ∀ (i : Nat) (o : Oper), l[i]? = some o → ∀ (done : Nat → Bool) (env : Nat → Value) (mp : LC) (T : TE) (n : Nat) (F : List Fact), done (k + i) = false → (∀ e ∈ o.after.toList, Region.binds .any e = true → done e.on = true) → LitH W done env mp T n F → OJs X o T ((W.nm, mp) :: W.L0) n F W.D (litK X W (k + i) o done env T F) K := by
  induction l with
  | nil => intro k h i o ho; simp at ho
  | cons x r ih =>
    intro k h i o ho
    cases i with
    | zero =>
      simp only [List.getElem?_cons_zero, Option.some.injEq] at ho
      subst ho
      exact h.1
    | succ i =>
      have := ih h.2 i o (by simpa using ho)
      rw [show k + (i + 1) = k + 1 + i by omega]
      exact this
theorem wk_dead : Wk X T L n F D ⟨T, (n, .dead) :: L, n + 1, F, D⟩ := by
  rintro a w ⟨hkb, ρ0, A, h0⟩
  have bl : ∀ (ρ : Nm) k e b, alook ((n, LC.dead) :: L) k = some e → e.blk ρ k = some b → alook L k = some e := by
    intro ρ k e b hk hb
    rw [alook_cons] at hk
    split at hk
    · cases hk; simp [LC.blk] at hb
    · exact hk
  refine ⟨fun k e hk => ?_, ρ0, A, fun ρ hρ => ?_⟩
  · show k < n + 1
    rw [alook_cons] at hk
    split at hk
    · omega
    · have := hkb k e hk; omega
  have h1 := h0 ρ fun j hj => hρ j (Nat.lt_succ_of_lt hj)
  refine ⟨⟨h1.tm, fun k e hk => ?_, h1.a3⟩, h1.sz, h1.df, h1.kp, fun k e b hk hb => h1.nw k e b (bl ρ k e b hk hb) hb, fun k k' e e' b hk hk' hb hb' => h1.ds k k' e e' b (bl ρ k e b hk hb) (bl ρ k' e' b hk' hb') hb hb', h1.a1, fun b hb => ⟨(h1.a2 b hb).1, fun k e hk hbk => (h1.a2 b hb).2 k e (bl ρ k e b hk hbk) hbk⟩, h1.mb⟩
  rw [alook_cons] at hk
  split at hk
  · cases hk; trivial
  · exact h1.lo k e hk
theorem cjs_lit {id : Nat} {ops : Array Oper} (W : LitW) (hops : W.ops = ops.toList) (out : List Nat) (hm : X.P.follows .mixedOrders = true) (hac : acycB ops.toList = true) (hpl : plainB ops.toList = true) (hdi : distinct (dsts ops.toList) = true) (hoff : offT W.T0 ops.toList = true) (hout : (out.all fun j => Nat.blt j ops.toList.length) = true)
    (hlt : (W.T0.all fun p => p.2.lt (W.nm + 1)) = true) (hL0 : (W.L0.all fun p => Nat.blt p.1 W.nm && p.2.lt' (W.nm + 1)) = true) (hX : X.N.length ≤ W.nm + 1) (hD : ∀ ρ ρ' : Nm, (∀ j, j < W.nm + 1 → ρ' j = ρ j) → W.D ρ' = W.D ρ)
    (hw : Wk X T L n F D ⟨W.T0, (W.nm, .dead) :: W.L0, W.nm + 1, W.F0, W.D⟩)
    (hstep : litSteps X W K 0 ops.toList)
    (hfin : ∀ (done : Nat → Bool) env mp, (∀ i, Nat.blt i W.ops.length = true → done i = true) → (∀ i, Nat.blt i W.ops.length = true → W.pv i (env i)) → W.pm done env mp → K .normal (outT W.ops env out ++ W.T0) ((W.nm, mp) :: W.L0) (W.nm + 1) (out.flatMap (fun j => W.sp j (env j)) ++ W.F0) W.D) :
    CJs X (.region id ops true) T L n F D K := by
  have fr : ∀ k e, alook W.L0 k = some e → k < W.nm := fun k e hk => by
    have := alook_all (p := fun p => Nat.blt p.1 W.nm && p.2.lt' (W.nm + 1)) hL0 hk
    simp only [Bool.and_eq_true, Nat.blt_eq] at this
    exact this.1
  have begin0 : LitH W (fun _ => false) (fun _ => undef) LC.dead W.T0 (W.nm + 1) W.F0 :=
    ⟨mapPm_start, Nat.lt_succ_self _, fun k e hk => (by have := fr k e hk; omega), fun f h => h, fun _ _ h => h, fun j h => absurd h (by simp), fun j h => absurd h (by simp), fun j o d _ _ h => absurd h (by simp), fun j o _ h => absurd h (by simp)⟩
  intro Q hQ a w hr
  refine cjs_inv (K := fun e T' L' n' F' D' => match e with
      | .normal => ∀ a w, Rel X T' L' n' F' D' a w → Q .normal a w
      | e => K e T' L' n' F' D') (fun done σ => ∃ env mp, σ.L = (W.nm, mp) :: W.L0 ∧ σ.D = W.D ∧ LitH W done env mp σ.T σ.n σ.F) hm hac hpl ⟨W.T0, (W.nm, LC.dead) :: W.L0, W.nm + 1, W.F0, W.D⟩ ⟨fun _ => undef, LC.dead, rfl, rfl, begin0⟩ hw ?_ ?_ Q ?_ a w hr
  · rintro done i o ⟨T, L, n, F, D⟩ ho hdi' hd ⟨env, mp, rfl, rfl, H⟩
    rw [← hops] at ho
    have := litSteps_at hstep i o (by rw [← hops]; exact ho) done env mp T n F (by rwa [Nat.zero_add]) hd H
    rw [Nat.zero_add] at this
    intro Q' hQ' Φ hΦ a w hr
    refine this Q' ?_ Φ (fun T' L' n' F' D' h => hΦ T' L' n' F' D' fun a w hr' => ?_) a w hr
    · intro e T' L' n' F' D' hK a w hr'
      refine hQ' e T' L' n' F' D' ?_ a w hr'
      cases e with
      | normal => exact fun a w hr'' => hQ _ _ _ _ _ _ hK a w hr''
      | _ => exact hK
    · obtain ⟨v, mp', n'', h1, h2, h3, h4⟩ := h.h a w hr'
      refine ⟨⟨_, _, _, _, _⟩, ⟨fun j => if j = i then v else env j, mp', rfl, rfl, ⟨h2, h3, fun k e hk => (by have := fr k e hk; dsimp only; omega), fun f hf => List.mem_append_right _ (H.hF f hf), fun t u htu => ?_, fun j hj => ?_, fun j hj f hf => ?_, fun j p d hp hpd hj => ?_, fun j p hp hj e he hb => ?_⟩⟩, h4⟩
      · have h5 := H.hT t u htu
        split
        · rename_i d hd'
          have := offT_spec hoff (by rw [← hops]; exact List.mem_of_getElem? ho) hd'
          rw [alook_cons, if_neg (fun e => by rw [e, this] at htu; cases htu)]
          exact h5
        · exact h5
      · by_cases e : j = i
        · subst e; simpa using h1
        · rw [upd_ne e] at hj
          simpa [e] using H.hv j hj
      · by_cases e : j = i
        · subst e; exact List.mem_append_left _ (by simpa using hf)
        · rw [upd_ne e] at hj
          exact List.mem_append_right _ (H.hs j hj f (by simpa [e] using hf))
      · by_cases e : j = i
        · subst e
          rw [ho] at hp
          cases hp
          simp only [hpd, alook_head, if_true]
        · rw [upd_ne e] at hj
          have h5 := H.ht j p d hp hpd hj
          simp only [e, if_false]
          split
          · rename_i d' hd'
            rw [alook_cons, if_neg (fun e' => e (distinct_at hdi (by rw [← hops]; exact hp) (by rw [← hops]; exact ho) hpd (by rw [hd', e'])))]
            exact h5
          · exact h5
      · by_cases e' : j = i
        · subst e'
          rw [ho] at hp
          cases hp
          exact upd_old (hd e he hb)
        · rw [upd_ne e'] at hj
          exact upd_old (H.dc j p hp hj e he hb)
  · rintro done ⟨T, L, n, F, D⟩ hall ⟨env, mp, rfl, rfl, H⟩ a w hr
    rw [← hops] at hall
    refine hQ _ _ _ _ _ _ (hfin done env mp (fun i hi => hall i (by simpa using hi)) (fun i hi => H.hv i (hall i (by simpa using hi))) H.pm) a w ?_
    refine hr.weakL (fun t u htu => ?_) (fun k e hk => ?_) (fun A h f hf => ?_) hD hX
    · rw [alook_append] at htu
      cases hx : alook (outT W.ops env out) t with
      | none =>
        rw [hx] at htu
        exact ⟨alook_all (p := fun p => p.2.lt (W.nm + 1)) hlt htu, H.hT t u htu⟩
      | some x =>
        rw [hx] at htu
        cases htu
        obtain ⟨j, o, hj, ho, hod, rfl⟩ := outT_look hx
        have hjl := List.all_eq_true.1 hout j hj
        rw [Nat.blt_eq, ← hops] at hjl
        exact ⟨rfl, H.ht j o t ho hod (hall j hjl)⟩
    · refine ⟨?_, ?_, hk⟩
      · rw [alook_cons] at hk
        split at hk
        · omega
        · have := fr k e hk; omega
      · rw [alook_cons] at hk
        split at hk
        · cases hk; exact mapPm_lt H.pm
        · have := alook_all (p := fun p => Nat.blt p.1 W.nm && p.2.lt' (W.nm + 1)) hL0 hk
          simp only [Bool.and_eq_true] at this
          exact this.2
    · rcases List.mem_append.1 hf with hf | hf
      · obtain ⟨j, hj, hf⟩ := List.mem_flatMap.1 hf
        have hjl := List.all_eq_true.1 hout j hj
        rw [Nat.blt_eq, ← hops] at hjl
        exact h f (H.hs j (hall j hjl) f hf)
      · exact h f (H.hF f hf)
  · intro e T' L' n' F' D' hK a w hr'
    cases e with
    | normal => exact hK a w hr'
    | exit id => exact hQ _ _ _ _ _ _ hK a w hr'
    | goto l => exact hQ _ _ _ _ _ _ hK a w hr'
    | ret => exact hQ _ _ _ _ _ _ hK a w hr'
    | panic ch => exact hQ _ _ _ _ _ _ hK a w hr'
    | outgrown => exact hQ _ _ _ _ _ _ hK a w hr'

theorem Rel.slots {T' : TE} {a : Act} {w : World} (h : Rel X T L n F D a w) (hs : ∀ ρ t x, alook T' t = some x → ∃ y, alook T t = some y ∧ y.den ρ = x.den ρ) : Rel X T' L n F D a w := by
  obtain ⟨hkb, ρ0, A, h0⟩ := h
  refine ⟨hkb, ρ0, A, fun ρ hρ => ?_⟩
  have h1 := h0 ρ hρ
  refine ⟨⟨fun t x hx => ?_, h1.lo, h1.a3⟩, h1.sz, h1.df, h1.kp, h1.nw, h1.ds, h1.a1, h1.a2, h1.mb⟩
  obtain ⟨y, hy, e⟩ := hs ρ t x hx
  rw [← e]
  exact h1.tm t y hy
/-- Slots that are looked at, laid in front. -/
theorem ojs_vis (V : TE) (hV : ∀ p ∈ V, alook T p.1 = some p.2) (h : OJs X o (V ++ T) L n F D k K) : OJs X o T L n F D k K := by
  intro Q hQ Φ hΦ a w hr
  refine h Q hQ Φ hΦ a w (hr.slots fun ρ t x hx => ?_)
  rw [alook_append] at hx
  cases h2 : alook V t with
  | none => rw [h2] at hx; exact ⟨x, hx, rfl⟩
  | some y =>
    rw [h2] at hx
    cases hx
    exact ⟨_, hV _ (alook_all' h2), rfl⟩

theorem vis_slots {V : TE} (hV : ∀ p ∈ V, alook T p.1 = some p.2) {d : Nat} {u : TV} {v : Value} (hu : ∀ ρ, u.den ρ = v) : ∀ (ρ : Nm) t x, alook ((d, .o (.v v)) :: T) t = some x → ∃ y, alook ((d, u) :: (V ++ T)) t = some y ∧ y.den ρ = x.den ρ := by
  intro ρ t x hx
  rw [alook_cons] at hx ⊢
  split at hx
  · rename_i e
    cases hx
    exact ⟨u, by rw [if_pos e], hu ρ⟩
  · rename_i e
    rw [if_neg e, alook_append]
    cases h : alook V t with
    | none => exact ⟨x, hx, rfl⟩
    | some y =>
      have := hV _ (alook_all' h)
      rw [hx] at this
      cases this
      exact ⟨_, rfl, rfl⟩
theorem dep_done {o : Oper} {done : Nat → Bool} (hd : ∀ e ∈ o.after.toList, Region.binds .any e = true → done e.on = true) (j : Nat) (h : (o.after.toList.any fun e => Region.binds .any e && Nat.beq e.on j) = true) : done j = true := by
  obtain ⟨e, he, h2⟩ := List.any_eq_true.1 h
  simp only [Bool.and_eq_true, Nat.beq_eq] at h2
  exact h2.2 ▸ hd e he h2.1
theorem Rel.obMove {nm g : Nat} {ob : Obj} {a : Act} {w : World} (h : Rel X T ((n, .ob g ob) :: (nm, .dead) :: L) (n + 1) F D a w) (hn : nm < n) (hf : ∀ k e, alook L k = some e → k ≠ nm ∧ k < n) : Rel X T ((nm, .ob g ob) :: L) (n + 1) F D a w := by
  obtain ⟨hkb, ρ0, A, h0⟩ := h
  have key : ∀ k e, alook ((nm, LC.ob g ob) :: L) k = some e → (k = nm ∧ e = .ob g ob) ∨ (k ≠ nm ∧ k < n ∧ alook ((n, LC.ob g ob) :: (nm, .dead) :: L) k = some e) := by
    intro k e hk
    rw [alook_cons] at hk
    split at hk
    · rename_i ek; cases hk; exact .inl ⟨ek, rfl⟩
    · rename_i ek
      have := hf k e hk
      exact .inr ⟨ek, this.2, by rw [alook_cons, if_neg (by omega), alook_cons, if_neg ek]; exact hk⟩
  refine ⟨fun k e hk => ?_, ρ0, A, fun ρ hρ => ?_⟩
  · rcases key k e hk with ⟨rfl, _⟩ | ⟨_, h2, _⟩ <;> omega
  have h1 := h0 ρ hρ
  have hn0 : alook ((n, LC.ob g ob) :: (nm, .dead) :: L) n = some (.ob g ob) := alook_head _ _ _
  refine ⟨⟨h1.tm, fun k e hk => ?_, h1.a3⟩, h1.sz, h1.df, h1.kp, fun k e b hk hb => ?_, fun k k' e e' b hk hk' hb hb' => ?_, h1.a1, fun b hb => ⟨(h1.a2 b hb).1, fun k e hk hbk => ?_⟩, h1.mb⟩
  · rcases key k e hk with ⟨_, rfl⟩ | ⟨_, _, h3⟩
    · exact h1.lo n _ hn0
    · exact h1.lo k e h3
  · rcases key k e hk with ⟨_, rfl⟩ | ⟨_, _, h3⟩
    · exact h1.nw n _ b hn0 hb
    · exact h1.nw k e b h3 hb
  · rcases key k e hk with ⟨e1, rfl⟩ | ⟨e1, e2, h3⟩ <;> rcases key k' e' hk' with ⟨e1', rfl⟩ | ⟨e1', e2', h3'⟩
    · rw [e1, e1']
    · have := h1.ds n k' _ _ b hn0 h3' hb hb'; omega
    · have := h1.ds k n _ _ b h3 hn0 hb hb'; omega
    · exact h1.ds k k' e e' b h3 h3' hb hb'
  · rcases key k e hk with ⟨_, rfl⟩ | ⟨_, _, h3⟩
    · exact (h1.a2 b hb).2 n _ hn0 hbk
    · exact (h1.a2 b hb).2 k e h3 hbk
def insB (ops : List Oper) (ins : List (Nat × Int × Nat)) : Bool := ins.all fun p => match ops[p.1]? with
  | some o => o.after.toList.any fun e => Region.binds .any e && Nat.beq e.on p.2.2
  | none => false
theorem mspec_same {done done' : Nat → Bool} {env env' : Nat → Value} {k : Int} : ∀ {ins : List (Nat × Int × Nat)}, (∀ p ∈ ins, done' p.1 = done p.1 ∧ (done p.1 = true → env' p.2.2 = env p.2.2)) → mspec done' env' ins k = mspec done env ins k
  | [], _ => rfl
  | (i, z, j) :: r, h => by
    have h1 := h _ (List.mem_cons_self ..)
    simp only at h1
    simp only [mspec, h1.1, mspec_same fun p hp => h p (List.mem_cons_of_mem _ hp)]
    split
    · rename_i hd; rw [h1.2 hd.2]
    · rfl
theorem mapPm_val {W : LitW} {ins : List (Nat × Int × Nat)} {done : Nat → Bool} {env : Nat → Value} {mp : LC} (H : LitH W done env mp T n F) (hins : insB W.ops ins = true) {i : Nat} (hi : done i = false) {p : Nat × Int × Nat} (hp : p ∈ ins) (hd : done p.1 = true) : p.2.2 ≠ i := by
  have := List.all_eq_true.1 hins p hp
  split at this
  · rename_i o ho
    have := dep_done (H.dc p.1 o ho hd) p.2.2 this
    intro e
    rw [e, hi] at this
    cases this
  · cases this
theorem mapPm_keep {W : LitW} {i0 : Nat} {ins : List (Nat × Int × Nat)} {eqs : List Nat} {done : Nat → Bool} {env : Nat → Value} {mp : LC} {i : Nat} (v : Value) (H : LitH W done env mp T n F) (hins : insB W.ops ins = true) (hi : done i = false) (h : mapPm i0 ins eqs done env mp) (h0 : Nat.beq i i0 = false) (h1 : (ins.all fun p => !(Nat.beq p.1 i)) = true) (h2 : (eqs.all fun j => !(Nat.beq j i)) = true) :
    mapPm i0 ins eqs (upd done i) (fun j => if j = i then v else env j) mp := by
  have e0 : i0 ≠ i := by rw [Bool.eq_false_iff] at h0; simpa using fun e : i0 = i => h0 (by simp [e])
  have ho : ∀ p ∈ ins, p.1 ≠ i := fun p hp e => by have := List.all_eq_true.1 h1 p hp; rw [e] at this; simp at this
  refine ⟨fun hd => h.1 (by rwa [upd_ne e0] at hd), fun hd => ?_, fun j hj hd => ?_⟩
  · rw [upd_ne e0] at hd
    obtain ⟨g, ms, e1, e2, e3⟩ := h.2.1 hd
    refine ⟨g, ms, by simpa [e0] using e1, e2, fun k => (e3 k).trans (mspec_same fun p hp => ⟨upd_ne (ho p hp), fun hd' => ?_⟩).symm⟩
    have := mapPm_val H hins hi hp hd'
    simp [this]
  · have ej : j ≠ i := fun e => by have := List.all_eq_true.1 h2 j hj; rw [e] at this; simp at this
    rw [upd_ne ej] at hd
    simpa [ej, e0] using h.2.2 j hj hd
theorem mapPm_eq {W : LitW} {i0 : Nat} {ins : List (Nat × Int × Nat)} {eqs : List Nat} {done : Nat → Bool} {env : Nat → Value} {mp : LC} {i : Nat} (H : LitH W done env mp T n F) (hins : insB W.ops ins = true) (hi : done i = false) (h : mapPm i0 ins eqs done env mp) (h0 : Nat.beq i i0 = false) (h1 : (ins.all fun p => !(Nat.beq p.1 i)) = true) :
    mapPm i0 ins eqs (upd done i) (fun j => if j = i then env i0 else env j) mp := by
  have e0 : i0 ≠ i := by rw [Bool.eq_false_iff] at h0; simpa using fun e : i0 = i => h0 (by simp [e])
  have ho : ∀ p ∈ ins, p.1 ≠ i := fun p hp e => by have := List.all_eq_true.1 h1 p hp; rw [e] at this; simp at this
  refine ⟨fun hd => h.1 (by rwa [upd_ne e0] at hd), fun hd => ?_, fun j hj hd => ?_⟩
  · rw [upd_ne e0] at hd
    obtain ⟨g, ms, e1, e2, e3⟩ := h.2.1 hd
    refine ⟨g, ms, by simpa [e0] using e1, e2, fun k => (e3 k).trans (mspec_same fun p hp => ⟨upd_ne (ho p hp), fun hd' => ?_⟩).symm⟩
    have := mapPm_val H hins hi hp hd'
    simp [this]
  · by_cases ej : j = i
    · simp [ej, e0]
    · rw [upd_ne ej] at hd
      simpa [ej, e0] using h.2.2 j hj hd
/-- An operation of a region of literals that yields a value. -/
theorem litK_val {W : LitW} {i d n' : Nat} {done : Nat → Bool} {env : Nat → Value} {V : TE} {u : TV} {v : Value} {mp : LC} {F' : List Fact} (H : LitH W done env mp T n F) (hd : o.dst = some d) (hV : ∀ p ∈ V, alook T p.1 = some p.2) (hu : ∀ ρ, u.den ρ = v) (hpv : W.pv i v)
    (hi : done i = false) (hins : insB W.ops W.ins = true) (h0 : Nat.beq i W.i0 = false) (h1 : (W.ins.all fun p => !(Nat.beq p.1 i)) = true) (h2 : (W.eqs.all fun j => !(Nat.beq j i)) = true) (hn : n ≤ n') (hF : ∀ A w, (∀ f ∈ F', f.h A w) → ∀ f ∈ W.sp i v ++ F, f.h A w) : litK X W i o done env T F ((d, u) :: (V ++ T)) ((W.nm, mp) :: W.L0) n' F' W.D := by
  constructor
  intro a w hr
  refine ⟨v, mp, n', hpv, mapPm_keep v H hins hi H.pm h0 h1 h2, Nat.lt_of_lt_of_le H.hn hn, ?_⟩
  rw [hd]
  exact (hr.slots (vis_slots hV hu)).more fun A => hF A w
theorem litK_eq {W : LitW} {i d n' : Nat} {done : Nat → Bool} {env : Nat → Value} {V : TE} {mp : LC} {F' : List Fact} (H : LitH W done env mp T n F) (hd : o.dst = some d) (hV : ∀ p ∈ V, alook T p.1 = some p.2) (hpv : W.pv i (env W.i0)) (hi : done i = false) (hins : insB W.ops W.ins = true) (h0 : Nat.beq i W.i0 = false) (h1 : (W.ins.all fun p => !(Nat.beq p.1 i)) = true) (hn : n ≤ n') (hF : ∀ A w, (∀ f ∈ F', f.h A w) → ∀ f ∈ W.sp i (env W.i0) ++ F, f.h A w) :
    litK X W i o done env T F ((d, .o (.v (env W.i0))) :: (V ++ T)) ((W.nm, mp) :: W.L0) n' F' W.D := by
  constructor
  intro a w hr
  refine ⟨env W.i0, mp, n', hpv, mapPm_eq H hins hi H.pm h0 h1, Nat.lt_of_lt_of_le H.hn hn, ?_⟩
  rw [hd]
  exact (hr.slots (vis_slots hV fun _ => rfl)).more fun A => hF A w
/-- A slice literal, within a region of literals. -/
theorem litK_slice {W : LitW} {i d m sz : Nat} {e : TypeId} {done : Nat → Bool} {env : Nat → Value} {V : TE} {mp : LC} {α : Type} {enc : α → List Value} {cells : List Value} (xs : List α) (H : LitH W done env mp T n F) (hd : o.dst = some d) (hV : ∀ p ∈ V, alook T p.1 = some p.2) (hX : X.M = []) (hc : cells = xs.flatMap enc) (henc : ∀ x, (enc x).length = sz) (hm : m = xs.length) (hmx : m ≤ maxLen)
    (hpv : ∀ g, W.pv i (.slice (some ⟨g, 0, none⟩) m m)) (hi : done i = false) (hins : insB W.ops W.ins = true) (h0 : Nat.beq i W.i0 = false) (h1 : (W.ins.all fun p => !(Nat.beq p.1 i)) = true) (h2 : (W.eqs.all fun j => !(Nat.beq j i)) = true) (hF : ∀ g A w, (slF enc sz (.slice (some ⟨g, 0, none⟩) m m) xs).h A w → (∀ f ∈ F, f.h A w) → ∀ f ∈ W.sp i (.slice (some ⟨g, 0, none⟩) m m), f.h A w) :
    litK X W i o done env T F ((d, .o (.s n 0 m m)) :: (V ++ T)) ((n, .c (cells.map SV.v) e) :: (W.nm, mp) :: W.L0) (n + 1) F W.D := by
  constructor
  intro a w hr
  subst hc
  obtain ⟨g, hr1⟩ := hr.litOwn (t := d) (j := n) (sz := sz) (alook_head _ _ _) (alook_head _ _ _) (by rw [hm]; exact flat_length henc xs) hmx
  refine ⟨.slice (some ⟨g, 0, none⟩) m m, mp, n + 1, hpv g, mapPm_keep _ H hins hi H.pm h0 h1 h2, Nat.lt_succ_of_lt H.hn, ?_⟩
  rw [hd]
  have hr2 := wk_seal (j := n) (enc := enc) (xs := xs) (.inl hX) henc hm (alook_head _ _ _) a w hr1
  refine ((hr2.slots (T' := (d, .o (.v (.slice (some ⟨g, 0, none⟩) m m))) :: T) fun ρ t x hx => ?_).reL (L' := (W.nm, mp) :: W.L0) fun k e' hk => ?_).more fun A h f hf => ?_
  · rw [alook_cons] at hx ⊢
    split at hx
    · rename_i e; cases hx; exact ⟨_, by rw [if_pos e], rfl⟩
    · rename_i e
      rw [if_neg e]
      obtain ⟨y, hy, e2⟩ := vis_slots (d := d) (u := .o (.v undef)) (v := undef) hV (fun _ => rfl) ρ t x (by rw [alook_cons, if_neg e]; exact hx)
      rw [alook_cons, if_neg e] at hy
      exact ⟨y, by rw [alook_cons, if_neg e]; exact hy, e2⟩
  · refine ⟨e', ?_, fun _ => rfl, fun _ h => h⟩
    have hkn : k ≠ n := by
      intro ek
      subst ek
      rw [alook_cons] at hk
      split at hk
      · rename_i e3; have := H.hn; omega
      · exact absurd (H.fresh _ _ hk).2 (Nat.lt_irrefl _)
    rw [alook_cons, if_neg hkn, alook_cons, if_neg hkn, alook_cons, if_neg hkn]
    exact hk
  · rcases List.mem_append.1 hf with hf | hf
    · exact hF g A w (h _ (List.mem_cons_self ..)) (fun f hf => h f (List.mem_cons_of_mem _ hf)) f hf
    · exact h f (List.mem_cons_of_mem _ hf)

theorem litK_own {W : LitW} {i d m sz : Nat} {e : TypeId} {done : Nat → Bool} {env : Nat → Value} {V : TE} {mp : LC} {α : Type} {enc : α → List Value} {cells : List Value} {a0 : Option Addr} {c0 : Nat} (xs : List α) (H : LitH W done env mp T n F) (hd : o.dst = some d) (hV : ∀ p ∈ V, alook T p.1 = some p.2) (hX : X.M = []) (hc : cells = xs.flatMap enc) (henc : ∀ x, (enc x).length = sz) (hm : m = xs.length)
    (hpv : W.pv i (.slice a0 m c0)) (hi : done i = false) (hins : insB W.ops W.ins = true) (h0 : Nat.beq i W.i0 = false) (h1 : (W.ins.all fun p => !(Nat.beq p.1 i)) = true) (h2 : (W.eqs.all fun j => !(Nat.beq j i)) = true) (hF : ∀ A w, (slF enc sz (.slice a0 m c0) xs).h A w → (∀ f ∈ F, f.h A w) → ∀ f ∈ W.sp i (.slice a0 m c0), f.h A w) :
    litK X W i o done env T F ((d, .o (.v (.slice a0 m c0))) :: (V ++ T)) ((n, .own (.slice a0 m c0) e sz m cells) :: (W.nm, mp) :: W.L0) (n + 1) F W.D := by
  constructor
  intro a w hr1
  subst hc
  refine ⟨.slice a0 m c0, mp, n + 1, hpv, mapPm_keep _ H hins hi H.pm h0 h1 h2, Nat.lt_succ_of_lt H.hn, ?_⟩
  rw [hd]
  have hr2 := wk_seal (j := n) (enc := enc) (xs := xs) (.inl hX) henc hm (alook_head _ _ _) a w hr1
  refine ((hr2.slots (vis_slots (u := .o (.v (.slice a0 m c0))) hV (fun _ => rfl))).reL (L' := (W.nm, mp) :: W.L0) fun k e' hk => ?_).more fun A h f hf => ?_
  · refine ⟨e', ?_, fun _ => rfl, fun _ h => h⟩
    have hkn : k ≠ n := by
      intro ek
      subst ek
      rw [alook_cons] at hk
      split at hk
      · rename_i e3; have := H.hn; omega
      · exact absurd (H.fresh _ _ hk).2 (Nat.lt_irrefl _)
    rw [alook_cons, if_neg hkn, alook_cons, if_neg hkn]
    exact hk
  · rcases List.mem_append.1 hf with hf | hf
    · exact hF A w (h _ (List.mem_cons_self ..)) (fun f hf => h f (List.mem_cons_of_mem _ hf)) f hf
    · exact h f (List.mem_cons_of_mem _ hf)
def keysB : List (Nat × Int × Nat) → Bool
  | [] => true
  | p :: r => (r.all fun q => !(q.2.1 == p.2.1) && !(Nat.beq q.1 p.1)) && keysB r
theorem mspec_none {done : Nat → Bool} {env : Nat → Value} {k : Int} : ∀ {ins : List (Nat × Int × Nat)}, (∀ p ∈ ins, p.2.1 = k → done p.1 = false) → mspec done env ins k = none
  | [], _ => rfl
  | (i, z, j) :: r, h => by
    have h1 := h _ (List.mem_cons_self ..)
    simp only [mspec]
    rw [if_neg (fun h2 => by rw [h1 h2.1.symm] at h2; cases h2.2)]
    exact mspec_none fun p hp => h p (List.mem_cons_of_mem _ hp)
theorem keysB_at : ∀ {ins : List (Nat × Int × Nat)}, keysB ins = true → ∀ {p q : Nat × Int × Nat}, p ∈ ins → q ∈ ins → p.2.1 = q.2.1 ∨ p.1 = q.1 → p = q
  | x :: r, h, p, q, hp, hq, he => by
    simp only [keysB, Bool.and_eq_true, List.all_eq_true, Bool.not_eq_true', beq_eq_false_iff_ne] at h
    have hn : ∀ y ∈ r, y.2.1 ≠ x.2.1 ∧ y.1 ≠ x.1 := fun y hy => ⟨(h.1 y hy).1, fun e => by have := (h.1 y hy).2; rw [e] at this; simp at this⟩
    rcases List.mem_cons.1 hp with e1 | hp <;> rcases List.mem_cons.1 hq with e2 | hq
    · rw [e1, e2]
    · rw [e1] at he
      rcases he with e | e
      · exact absurd e.symm (hn q hq).1
      · exact absurd e.symm (hn q hq).2
    · rw [e2] at he
      rcases he with e | e
      · exact absurd e (hn p hp).1
      · exact absurd e (hn p hp).2
    · exact keysB_at h.2 hp hq he
theorem mspec_ins {done : Nat → Bool} {env env' : Nat → Value} {i j : Nat} {z : Int} {v : Value} (hv : env' j = v) (hd : done i = false) : ∀ {ins : List (Nat × Int × Nat)}, keysB ins = true → (i, z, j) ∈ ins → (∀ p ∈ ins, done p.1 = true → env' p.2.2 = env p.2.2) → ∀ k, mspec (upd done i) env' ins k = (mspec done env ins k).or (if k = z then some v else none)
  | (a, y, b) :: r, h, hm, he, k => by
    simp only [keysB, Bool.and_eq_true, List.all_eq_true, Bool.not_eq_true', beq_eq_false_iff_ne] at h
    have hn : ∀ q ∈ r, q.2.1 ≠ y ∧ q.1 ≠ a := fun q hq => ⟨(h.1 q hq).1, fun e => by have := (h.1 q hq).2; rw [e] at this; simp at this⟩
    rcases List.mem_cons.1 hm with e | hm'
    · cases e
      have hs : ∀ k, mspec (upd done i) env' r k = mspec done env r k := fun k => mspec_same fun q hq => ⟨upd_ne (hn q hq).2, he q (List.mem_cons_of_mem _ hq)⟩
      simp only [mspec, upd_self, hd, hs]
      by_cases hk : k = z
      · subst hk
        have h0 : mspec done env r k = none := mspec_none fun q hq e => absurd e (hn q hq).1
        simp [h0, hv]
      · simp [hk]
    · have ih := mspec_ins hv hd h.2 hm' (fun p hp => he p (List.mem_cons_of_mem _ hp)) k
      have hai : a ≠ i := fun e => (hn _ hm').2 e.symm
      simp only [mspec, upd_ne hai]
      split
      · rename_i hc
        rw [he _ (List.mem_cons_self ..) hc.2]
        rfl
      · exact ih
def depB (ops : List Oper) (l : List Nat) (i : Nat) : Bool := l.all fun p => !(Nat.beq p i) && match ops[p]? with
  | some o => o.after.toList.any fun e => Region.binds .any e && Nat.beq e.on i
  | none => false
theorem depB_at {W : LitW} {l : List Nat} {i : Nat} {done : Nat → Bool} {env : Nat → Value} {mp : LC} (H : LitH W done env mp T n F) (h : depB W.ops l i = true) (hi : done i = false) {p : Nat} (hp : p ∈ l) : done p = false ∧ p ≠ i := by
  have := List.all_eq_true.1 h p hp
  rw [Bool.and_eq_true] at this
  refine ⟨?_, fun e => by have := this.1; rw [e] at this; simp at this⟩
  have := this.2
  split at this
  · rename_i o ho
    cases hd : done p with
    | false => rfl
    | true =>
      have := dep_done (H.dc p o ho hd) i this
      rw [hi] at this
      cases this
  · cases this
/-- A map is made, within a region of literals. -/
theorem lit_makeMap {W : LitW} {i d : Nat} {t : TypeId} {done : Nat → Bool} {env : Nat → Value} {mp : LC} (H : LitH W done env mp T n F) (hW : W.i0 = i) (hi : done i = false) (hdp : depB W.ops (W.ins.map (·.1) ++ W.eqs) i = true) (ho : o.op = .makeMap t none) (hd : o.dst = some d) (hdk : Nat.blt d X.k = true)
    (hpv : ∀ g, W.pv i (.map (some g))) (hsp : ∀ g, W.sp i (.map (some g)) = []) : OJs X o T ((W.nm, mp) :: W.L0) n F W.D (litK X W i o done env T F) K := by
  have hno : ∀ p ∈ W.ins, done p.1 = false := fun p hp => (depB_at H hdp hi (List.mem_append_left _ (List.mem_map.2 ⟨p, hp, rfl⟩))).1
  have hne : ∀ p ∈ W.ins, p.1 ≠ i := fun p hp => (depB_at H hdp hi (List.mem_append_left _ (List.mem_map.2 ⟨p, hp, rfl⟩))).2
  have he : ∀ j ∈ W.eqs, done j = false ∧ j ≠ i := fun j hj => depB_at H hdp hi (List.mem_append_right _ hj)
  refine ojs_makeMap ho hd hdk fun g => ?_
  constructor
  intro a w hr
  have hmp : mp = .dead := H.pm.1 (by rw [hW]; exact hi)
  subst hmp
  refine ⟨.map (some g), .ob g (mapO []), n + 1, hpv g, ?_, Nat.lt_succ_of_lt H.hn, ?_⟩
  · refine ⟨fun h => (by rw [hW, upd_self] at h; cases h), fun _ => ⟨g, [], by simp [hW], rfl, fun k => ?_⟩, fun j hj hdj => ?_⟩
    · exact (mspec_none fun p hp _ => by rw [upd_ne (hne p hp)]; exact hno p hp).symm
    · rw [upd_ne (he j hj).2, (he j hj).1] at hdj
      cases hdj
  · rw [hd, hsp]
    exact hr.obMove H.hn H.fresh
theorem lit_insert {W : LitW} {i j : Nat} {z : Int} {t dm dv : TypeId} {x y : Operand} {v : Value} {done : Nat → Bool} {env : Nat → Value} {mp : LC} (H : LitH W done env mp T n F) (hi : done i = false) (hins : insB W.ops W.ins = true) (hk : keysB W.ins = true) (hmem' : (W.ins.any fun p => Nat.beq p.1 i && (p.2.1 == z && Nat.beq p.2.2 j)) = true) (h00' : Nat.beq i W.i0 = false) (heq' : (W.eqs.all fun q => !(Nat.beq q i)) = true)
    (ho : o.op = .insert t x y (.tmp dv)) (hd : o.dst = none) (ht : isMapK X.P t = true) (hx : x = .tmp dm) (hy : y = .const (.int .i64 z)) (h0 : done W.i0 = true) (hj : done j = true) (hdm : alook T dm = some (.o (.v (env W.i0)))) (hdv : alook T dv = some (.o (.v (env j)))) (hpv : W.pv i v) (hsp : W.sp i v = []) :
    OJs X o T ((W.nm, mp) :: W.L0) n F W.D (litK X W i o done env T F) K := by
  have hmem : (i, z, j) ∈ W.ins := by
    obtain ⟨p, hp, h2⟩ := List.any_eq_true.1 hmem'
    obtain ⟨p1, p2, p3⟩ := p
    simp only [Bool.and_eq_true, Nat.beq_eq, beq_iff_eq] at h2
    obtain ⟨rfl, rfl, rfl⟩ := h2
    exact hp
  have h00 : i ≠ W.i0 := fun e => by rw [e] at h00'; simp at h00'
  have heq : ∀ q ∈ W.eqs, q ≠ i := fun q hq e => by have := List.all_eq_true.1 heq' q hq; rw [e] at this; simp at this
  have hpm : mapPm W.i0 W.ins W.eqs done env mp := H.pm
  obtain ⟨g, ms, e1, rfl, e3⟩ := hpm.2.1 h0
  subst hx
  subst hy
  rw [e1] at hdm
  have hnone : mlook ms z = none := by
    rw [e3]
    refine mspec_none fun p hp e => ?_
    have := keysB_at hk hp hmem (.inl e)
    rw [this]; exact hi
  refine ojs_insert (j := W.nm) (u := .o (.v (env j))) (v := env j) ho hd ht hdm rfl hdv (fun _ => rfl) (alook_head _ _ _) hnone ?_
  constructor
  intro a w hr
  refine ⟨v, .ob g (mapO (ms ++ [(z, env j)])), n, hpv, ?_, H.hn, ?_⟩
  · have hji : j ≠ i := fun e => by rw [e, hi] at hj; cases hj
    refine ⟨fun h => (by rw [upd_ne (Ne.symm h00), h0] at h; cases h), fun _ => ⟨g, _, by simpa [Ne.symm h00] using e1, rfl, fun k => ?_⟩, fun q hq hdq => ?_⟩
    · rw [mlook_snoc, e3]
      refine (mspec_ins (by simp [hji]) hi hk hmem (fun p hp hdp => ?_) k).symm
      have := mapPm_val H hins hi hp hdp
      simp [this]
    · have := heq q hq
      rw [upd_ne this] at hdq
      simpa [this, Ne.symm h00] using hpm.2.2 q hq hdq
  · rw [hd, hsp]
    exact hr.reL fun k e' hk => ⟨e', by
      rw [alook_cons] at hk ⊢
      split at hk
      · rename_i ek; rw [if_pos ek]; exact hk
      · rename_i ek; rw [if_neg ek, alook_cons, if_neg ek]; exact hk, fun _ => rfl, fun _ h => h⟩
/-- append of nothing. -/
theorem yd_append0 {cl : Call} {s src : Operand} {t e : TypeId} {sz b off m c : Nat} (ho : o.op = .call cl) (hcl : cl.callee = .builtin .append) (hargs : cl.args.toList = [s, src]) (htys : cl.argTypes.toList = [t, t])
    (hs : evS T s = some (.o (.v (.slice (some ⟨b, off, none⟩) m c)))) (hmc : m ≤ c) (hel : alook X.tab.el t = some (e, sz)) (hsrc : evS T src = some (.o (.v (.slice none 0 0)))) : Yd X o T L F (.o (.v (.slice (some ⟨b, off, none⟩) m c))) := by
  refine ⟨by simp [noDef, ho], fun A ρ a w h0 => ?_⟩
  have ha1 : cl.args = #[s, src] := Array.ext' hargs
  have ha2 : cl.argTypes = #[t, t] := Array.ext' htys
  obtain ⟨ht, i, hi, his⟩ := tyE_spec (X.ok.el _ _ hel)
  simp only at ht hi his
  have e1 : a.eval s = .slice (some ⟨b, off, none⟩) m c := h0.ev hs
  have e2 : a.eval src = .slice none 0 0 := h0.ev hsrc
  simp [execOp, ho, resolve, hcl, ha1, ha2, e1, e2, invoke, builtin, Builtin.append_, run_underlying ht, sizeOf, typeInfo, hi, Builtin.lenOf, Builtin.firstCells, loadCells, hmc, storeCells, TV.den, SV.den]

end

end Go.Proofs.YthnkjgffahkecaaGreat
