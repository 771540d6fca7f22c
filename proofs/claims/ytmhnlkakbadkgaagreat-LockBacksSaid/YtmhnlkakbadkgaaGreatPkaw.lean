/- Part 23 of the proof of LockBacks: contracts of functions that the law reaches, or the rules by which they are walked. No condition. -/
import Derived.Test.YtmhnlkakbadkgaaGreatPkav
namespace Go.Proofs.YtmhnlkakbadkgaaGreat.Ck
open Go Go.RowKit Go.Shelf
set_option maxRecDepth 100000
def up1 {α : Type} (f : Nat → α) (i : Nat) (v : α) (k : Nat) : α := if k = i then v else f k
theorem up1_self {α : Type} (f : Nat → α) (i : Nat) (v : α) : up1 f i v i = v := if_pos rfl
theorem up1_ne {α : Type} {f : Nat → α} {i k : Nat} {v : α} (h : k ≠ i) : up1 f i v k = f k := if_neg h
structure Pre (ops : Array Oper) (an n0 : Nat) (F0 : Fr) (val : Nat → Value) (blk : Nat → Option Bk) (rk : Nat → Nat) (hc : Nat → CH) (M pd dn : Nat) (F : Fr) (H B : CH) (es : List (Nat × CH)) : Prop where
  ex : ∀ i, dn.testBit i = true → ∃ o : Oper, ops[i]? = some o
  slot1 : ∀ (i : Nat) (o : Oper) (t : Nat), dn.testBit i = true → ops[i]? = some o → o.dst = some t → (F.T.get t).getD undef = val i
  slot2 : ∀ t, (∀ (i : Nat) (o : Oper), dn.testBit i = true → ops[i]? = some o → o.dst ≠ some t) → (F.T.get t).getD undef = (F0.T.get t).getD undef
  fr : F.m = F0.m ∧ F.D = F0.D ∧ F.q = F0.q
  B : B = hc M
  n : H.n = (hc M).n
  h1 : ∀ i b, pd.testBit i = true → blk i = some b → H.h.get (n0 + i) = some b
  h2 : ∀ k, (∀ i, k = n0 + i → pd.testBit i = true → blk i = none) → H.h.get k = (hc M).h.get k
  cl : ∀ i k, dn.testBit i = true → isAnc an k i = true → dn.testBit k = true
  esf : es.length = M ∧ ∀ (q : Nat) (p : Nat × CH), es[q]? = some p → dn.testBit p.1 = true ∧ isE ops p.1 ∧ rk p.1 + q + 1 = M ∧ p.2 = hc (rk p.1)
  top : ∀ e, dn.testBit e = true → isE ops e → rk e < M ∧ ∃ (q : Nat) (p : Nat × CH), es[q]? = some p ∧ p.1 = e
  rkM : ∀ i, dn.testBit i = true → rk i ≤ M
  ord : ∀ i e, dn.testBit i = true → dn.testBit e = true → isE ops e → i ≠ e → rk i ≤ rk e → isAnc an i e = true
  pd1 : ∀ i, pd.testBit i = true → dn.testBit i = true ∧ ∀ e, dn.testBit e = true → isE ops e → isAnc an i e = false ∧ i ≠ e
  pd2 : ∀ i, dn.testBit i = true → pd.testBit i = false → ∃ e, dn.testBit e = true ∧ isE ops e ∧ (i = e ∨ isAnc an i e = true)
section
variable {ops : Array Oper} {an n0 : Nat} {F0 : Fr} {val : Nat → Value} {blk : Nat → Option Bk} {rk : Nat → Nat} {hc : Nat → CH} {M pd dn : Nat} {F F1 : Fr} {H H1 B : CH} {es : List (Nat × CH)} {i : Nat} {o : Oper} {v : Value}
theorem dn_cases {k : Nat} (h : (setB dn i).testBit k = true) (hne : k ≠ i) : dn.testBit k = true := ((setB_bit dn i k).1 h).resolve_left hne
theorem ne_of_dn {k : Nat} (hnd : dn.testBit i = false) (h : dn.testBit k = true) : k ≠ i := fun e => by rw [e, hnd] at h; cases h
theorem Pre.slots (h : Pre ops an n0 F0 val blk rk hc M pd dn F H B es) (hcl : Cl ops an) (ho : ops[i]? = some o) (hnd : dn.testBit i = false) (hT : ∀ t, F1.T.get t = if o.dst = some t then some v else F.T.get t) :
    (∀ (i' : Nat) (o : Oper) (t : Nat), (setB dn i).testBit i' = true → ops[i']? = some o → o.dst = some t → (F1.T.get t).getD undef = up1 val i v i') ∧
    ∀ t, (∀ (i' : Nat) (o : Oper), (setB dn i).testBit i' = true → ops[i']? = some o → o.dst ≠ some t) → (F1.T.get t).getD undef = (F0.T.get t).getD undef := by
  constructor
  · intro i' o' t hi' ho' hd
    by_cases e : i' = i
    · subst e
      rw [ho] at ho'
      cases ho'
      rw [hT, if_pos hd, up1_self]
      rfl
    · rw [hT, if_neg (hcl.slot i' i o' o t ho' ho e hd).1, up1_ne e]
      exact h.slot1 i' o' t (dn_cases hi' e) ho' hd
  · intro t ht
    rw [hT, if_neg (ht i o ((setB_bit dn i i).2 (.inl rfl)) ho)]
    exact h.slot2 t fun i' o' hi' => ht i' o' ((setB_bit dn i i').2 (.inr hi'))
theorem Pre.base (h : Pre ops an n0 F0 val blk rk hc M pd dn F H B es) (ho : ops[i]? = some o) (hanc : ∀ k, isAnc an k i = true → dn.testBit k = true) :
    (∀ i', (setB dn i).testBit i' = true → ∃ o : Oper, ops[i']? = some o) ∧ ∀ i' k, (setB dn i).testBit i' = true → isAnc an k i' = true → (setB dn i).testBit k = true := by
  constructor
  · intro i' hi'
    by_cases e : i' = i
    · exact ⟨o, by rw [e]; exact ho⟩
    · exact h.ex i' (dn_cases hi' e)
  · intro i' k hi' hk
    refine (setB_bit dn i k).2 (.inr ?_)
    by_cases e : i' = i
    · subst e; exact hanc k hk
    · exact h.cl i' k (dn_cases hi' e) hk
theorem isE_ne (ho : ops[i]? = some o) (hE : isEff o = false) {e : Nat} (he : isE ops e) : e ≠ i := fun e' => by
  obtain ⟨oe, h1, h2⟩ := he
  rw [e', ho] at h1
  cases h1
  rw [hE] at h2; cases h2
theorem Pre.quiet (h : Pre ops an n0 F0 val blk rk hc M pd dn F H B es) (hcl : Cl ops an) (ho : ops[i]? = some o) (hnd : dn.testBit i = false) (hanc : ∀ k, isAnc an k i = true → dn.testBit k = true) (hE : isEff o = false)
    (hF : F1.m = F.m ∧ F1.D = F.D ∧ F1.q = F.q) (hT : ∀ t, F1.T.get t = if o.dst = some t then some v else F.T.get t) {bo : Option Bk} (hn : H1.n = H.n) (hh : ∀ k, H1.h.get k = if bo.isSome = true ∧ k = n0 + i then bo else H.h.get k) :
    Pre ops an n0 F0 (up1 val i v) (up1 blk i bo) (up1 rk i M) hc M (setB pd i) (setB dn i) F1 H1 B es := by
  have npd : pd.testBit i = false := by
    cases hp : pd.testBit i with
    | false => rfl
    | true => rw [(h.pd1 i hp).1] at hnd; cases hnd
  have ene : ∀ e, isE ops e → e ≠ i := fun e => isE_ne ho hE
  have npi : ∀ {k}, pd.testBit k = true → k ≠ i := fun hk e => by rw [e, npd] at hk; cases hk
  have bit : ∀ {m k}, m.testBit k = true → (setB m i).testBit k = true := fun hk => (setB_bit _ i _).2 (.inr hk)
  obtain ⟨b1, b2⟩ := h.base ho hanc
  obtain ⟨s1, s2⟩ := h.slots hcl ho hnd hT
  refine ⟨b1, s1, s2, ⟨hF.1.trans h.fr.1, hF.2.1.trans h.fr.2.1, hF.2.2.trans h.fr.2.2⟩, h.B, hn.trans h.n, fun i' b hi' hb => ?_, fun k hk => ?_, b2, ⟨h.esf.1, fun q p hp => ?_⟩, fun e he hE' => ?_, fun i' hi' => ?_, fun i' e hi' he hE' hne hr => ?_, fun i' hi' => ?_, fun i' hi' hp => ?_⟩
  · by_cases e : i' = i
    · subst e
      rw [up1_self] at hb
      subst hb
      rw [hh, if_pos ⟨rfl, rfl⟩]
    · rw [up1_ne e] at hb
      rw [hh, if_neg (by omega)]
      exact h.h1 i' b (((setB_bit pd i i').1 hi').resolve_left e) hb
  · have hx : ¬ (bo.isSome = true ∧ k = n0 + i) := fun ⟨h1, h2⟩ => by
      have := hk i h2 ((setB_bit pd i i).2 (.inl rfl))
      rw [up1_self] at this
      rw [this] at h1; cases h1
    rw [hh, if_neg hx]
    refine h.h2 k fun i' e hi' => ?_
    have := hk i' e (bit hi')
    rwa [up1_ne (npi hi')] at this
  · obtain ⟨h1, h2, h3, h4⟩ := h.esf.2 q p hp
    rw [up1_ne (ene p.1 h2)]
    exact ⟨bit h1, h2, h3, h4⟩
  · rw [up1_ne (ene e hE')]
    exact h.top e (dn_cases he (ene e hE')) hE'
  · by_cases e : i' = i
    · rw [e, up1_self]; exact Nat.le_refl _
    · rw [up1_ne e]; exact h.rkM i' (dn_cases hi' e)
  · have he' := dn_cases he (ene e hE')
    rw [up1_ne (ene e hE')] at hr
    by_cases e' : i' = i
    · rw [e', up1_self] at hr
      have := (h.top e he' hE').1
      omega
    · rw [up1_ne e'] at hr
      exact h.ord i' e (dn_cases hi' e') he' hE' hne hr
  · by_cases e : i' = i
    · subst e
      refine ⟨(setB_bit dn i' i').2 (.inl rfl), fun e he hE' => ⟨?_, Ne.symm (ene e hE')⟩⟩
      cases hx : isAnc an i' e with
      | false => rfl
      | true =>
        have := h.cl e i' (dn_cases he (ene e hE')) hx
        rw [hnd] at this; cases this
    · obtain ⟨h1, h2⟩ := h.pd1 i' (((setB_bit pd i i').1 hi').resolve_left e)
      exact ⟨bit h1, fun e he hE' => h2 e (dn_cases he (ene e hE')) hE'⟩
  · have e : i' ≠ i := fun e => by
      rw [e, (setB_bit pd i i).2 (.inl rfl)] at hp; cases hp
    obtain ⟨e', h1, h2, h3⟩ := h.pd2 i' (dn_cases hi' e) (by
      cases hx : pd.testBit i' with
      | false => rfl
      | true => rw [bit hx] at hp; cases hp)
    exact ⟨e', bit h1, h2, h3⟩
theorem Pre.all (h : Pre ops an n0 F0 val blk rk hc M pd dn F H B es) (hcl : Cl ops an) (ho : ops[i]? = some o) (hE : effOk an i pd es = true) : (∀ k, pd.testBit k = true → isAnc an k i = true) ∧ ∀ k, dn.testBit k = true → isAnc an k i = true := by
  unfold effOk at hE
  simp only [Bool.and_eq_true] at hE
  obtain ⟨e1, e2⟩ := hE
  have hi := (Array.getElem?_eq_some_iff.1 ho).1
  have hp : ∀ k, pd.testBit k = true → isAnc an k i = true := fun k hk => sub_spec e1 hk
  have hes : ∀ e, dn.testBit e = true → isE ops e → isAnc an e i = true := fun e he hEe => by
    obtain ⟨hlt, q, p, hq, rfl⟩ := h.top e he hEe
    cases hes : es with
    | nil => rw [hes] at hq; simp at hq
    | cons p0 es' =>
      rw [hes] at e2
      dsimp only at e2
      obtain ⟨f1, f2, f3, _⟩ := h.esf.2 0 p0 (by rw [hes]; rfl)
      by_cases e' : p.1 = p0.1
      · rw [e']; exact e2
      · refine hcl.trans i p0.1 p.1 hi e2 (h.ord p.1 p0.1 he f1 f2 e' (by omega))
  refine ⟨hp, fun k hk => ?_⟩
  cases hx : pd.testBit k with
  | true => exact hp k hx
  | false =>
    obtain ⟨e, h1, h2, h3⟩ := h.pd2 k hk hx
    rcases h3 with rfl | h3
    · exact hes k h1 h2
    · exact hcl.trans i e k hi (hes e h1 h2) h3
theorem Pre.eff (h : Pre ops an n0 F0 val blk rk hc M pd dn F H B es) (hcl : Cl ops an) (ho : ops[i]? = some o) (hnd : dn.testBit i = false) (hanc : ∀ k, isAnc an k i = true → dn.testBit k = true) (hE : isEff o = true) (hok : effOk an i pd es = true)
    (hF : F1.m = F.m ∧ F1.D = F.D ∧ F1.q = F.q) (hT : ∀ t, F1.T.get t = if o.dst = some t then some v else F.T.get t) :
    Pre ops an n0 F0 (up1 val i v) (up1 blk i none) (up1 rk i M) (up1 hc (M + 1) H1) (M + 1) 0 (setB dn i) F1 H1 H1 ((i, B) :: es) := by
  have hall := (h.all hcl ho hok).2
  have bit : ∀ {m k}, m.testBit k = true → (setB m i).testBit k = true := fun hk => (setB_bit _ i _).2 (.inr hk)
  have self : (setB dn i).testBit i = true := (setB_bit dn i i).2 (.inl rfl)
  have hEi : isE ops i := ⟨o, ho, hE⟩
  obtain ⟨b1, b2⟩ := h.base ho hanc
  obtain ⟨s1, s2⟩ := h.slots hcl ho hnd hT
  refine ⟨b1, s1, s2, ⟨hF.1.trans h.fr.1, hF.2.1.trans h.fr.2.1, hF.2.2.trans h.fr.2.2⟩, (up1_self hc _ _).symm, by rw [up1_self], fun i' b hi' => by simp at hi', fun k hk => by rw [up1_self], b2, ⟨by simp [h.esf.1], fun q p hp => ?_⟩, fun e he hE' => ?_, fun i' hi' => ?_, fun i' e hi' he hE' hne hr => ?_, fun i' hi' => by simp at hi', fun i' hi' hp => ⟨i, self, hEi, ?_⟩⟩
  · cases q with
    | zero =>
      simp only [List.getElem?_cons_zero, Option.some.injEq] at hp
      subst hp
      dsimp only
      rw [up1_self, up1_ne (Nat.ne_of_lt (Nat.lt_succ_self M))]
      exact ⟨self, hEi, by omega, h.B⟩
    | succ q =>
      simp only [List.getElem?_cons_succ] at hp
      obtain ⟨h1, h2, h3, h4⟩ := h.esf.2 q p hp
      rw [up1_ne (ne_of_dn hnd h1), up1_ne (by omega)]
      exact ⟨bit h1, h2, by omega, h4⟩
  · by_cases e' : e = i
    · subst e'
      rw [up1_self]
      exact ⟨Nat.lt_succ_self M, 0, (e, B), rfl, rfl⟩
    · obtain ⟨h1, q, p, h2, h3⟩ := h.top e (dn_cases he e') hE'
      rw [up1_ne e']
      exact ⟨Nat.lt_succ_of_lt h1, q + 1, p, by simpa using h2, h3⟩
  · by_cases e : i' = i
    · rw [e, up1_self]; exact Nat.le_succ _
    · rw [up1_ne e]; exact Nat.le_succ_of_le (h.rkM i' (dn_cases hi' e))
  · by_cases e' : e = i
    · subst e'
      exact hall i' (dn_cases hi' hne)
    · rw [up1_ne e'] at hr
      have he' := dn_cases he e'
      by_cases e2 : i' = i
      · rw [e2, up1_self] at hr
        have := (h.top e he' hE').1
        omega
      · rw [up1_ne e2] at hr
        exact h.ord i' e (dn_cases hi' e2) he' hE' hne hr
  · by_cases e : i' = i
    · exact .inl e
    · exact .inr (hall i' (dn_cases hi' e))
theorem Pre.preH (h : Pre ops an n0 F0 val blk rk hc M pd dn F H B es) (hcl : Cl ops an) (ho : ops[i]? = some o) (hanc : ∀ k, isAnc an k i = true → dn.testBit k = true) (hok : effOk an i pd es = true)
    {blk' : Nat → Option Bk} {rk' : Nat → Nat} {hc' : Nat → CH} (a1 : ∀ k, dn.testBit k = true → blk' k = blk k ∧ rk' k = rk k) (a2 : rk' i = M) (a3 : hc' M = hc M) (a4 : ∀ k, dn.testBit k = false → k < ops.size → M ≤ rk' k)
    {Hp : CH} (hp1 : Hp.n = H.n) (hp2 : ∀ k, Hp.h.get k = H.h.get k) : PreH ops an n0 blk' rk' hc' i Hp := by
  unfold PreH
  rw [a2, a3]
  refine ⟨hp1.trans h.n, fun k b hk hb hbk => ?_, fun k hk => ?_⟩
  · have hd := hanc k hk
    rw [(a1 k hd).1] at hbk
    rw [hp2]
    refine h.h1 k b ?_ hbk
    cases hx : pd.testBit k with
    | true => rfl
    | false =>
      obtain ⟨e, h1, h2, h3⟩ := h.pd2 k hd hx
      exact absurd ⟨e, h2, by rw [(a1 e h1).2]; exact (h.top e h1 h2).1, h3⟩ hb
  · rw [hp2]
    refine h.h2 k fun i' e hi' => ?_
    obtain ⟨h1, h2⟩ := h.pd1 i' hi'
    have := hk i' e ((h.all hcl ho hok).1 i' hi') fun ⟨e', h3, h4, h5⟩ => by
      cases hx : dn.testBit e' with
      | true =>
        obtain ⟨h6, h7⟩ := h2 e' hx h3
        rcases h5 with h5 | h5
        · exact h7 h5
        · rw [h6] at h5; cases h5
      | false =>
        obtain ⟨oe, h6, _⟩ := h3
        have := a4 e' hx (Array.getElem?_eq_some_iff.1 h6).1
        omega
    rwa [(a1 i' h1).1] at this
theorem Pre.rst (h : Pre ops an n0 F0 val blk rk hc M pd dn F H B es) (hcl : Cl ops an) (ho : ops[i]? = some o) (hnd : dn.testBit i = false) (hanc : ∀ k, isAnc an k i = true → dn.testBit k = true)
    {val' : Nat → Value} (a1 : ∀ k, dn.testBit k = true → val' k = val k) {T : Tr Value} (hT : (∀ t, Operand.tmp t ∉ o.op.operands.toList → T.get t = none) ∧ ∀ t, Operand.tmp t ∈ o.op.operands.toList → (T.get t).getD undef = (F.T.get t).getD undef) : Rst ops an F0.T val' T i o := by
  refine ⟨fun t ht => hT.1 t (by simpa using ht), fun t ht => ?_⟩
  rw [hT.2 t (by simpa using ht)]
  refine ⟨fun k ok hk hd hka => ?_, fun hno => ?_⟩
  · rw [a1 k (hanc k hka)]
    exact h.slot1 k ok t (hanc k hka) hk hd
  · refine h.slot2 t fun k ok hkd hk hd => ?_
    rcases (hcl.slot k i ok o t hk ho (ne_of_dn hnd hkd) hd).2 with h1 | h1 | h1
    · rw [hno k ok hk hd] at h1; cases h1
    · have := h.cl k i hkd h1
      rw [hnd] at this; cases this
    · exact h1 ht
end
end Go.Proofs.YtmhnlkakbadkgaaGreat.Ck
