/- A symbolic run of a function's body: code, contracts, calls, loops, ends. No program is in sight. -/
import Derived.Test.YtnkpmeplapkobaaEngD
namespace Go.Proofs.Ytnkpmeplapkobaa
open Go.RowKit Go.Shelf

def seqK (y : TE → LE → Nat → List Fact → DF → Prop) (K : KK) : KK := fun e T L n F D => match e with
  | .normal => y T L n F D
  | e => K e T L n F D
def blkK (id : Nat) (K : KK) : KK := fun e T L n F D => match e with
  | .exit i => bif Nat.beq i id then K .normal T L n F D else K (.exit i) T L n F D
  | e => K e T L n F D
def sx (X : Fx) : Code → TE → LE → Nat → List Fact → DF → KK → Prop
  | .skip, T, L, n, F, D, K => K .normal T L n F D
  | .region _ ops false, T, L, n, F, D, K => rl X ops.toList ops.toList T L n F D K
  | .seq a b, T, L, n, F, D, K => sx X a T L n F D (seqK (fun T L n F D => sx X b T L n F D K) K)
  | .cond c a b, T, L, n, F, D, K => match evS T c with
    | some (.o (.v (.bool t))) => brB t (sx X a T L n F D K) (sx X b T L n F D K)
    | _ => CJs X (.cond c a b) T L n F D K
  | .block id b, T, L, n, F, D, K => sx X b T L n F D (blkK id K)
  | .exit id, T, L, n, F, D, K => K (.exit id) T L n F D
  | .ret, T, L, n, F, D, K => K .ret T L n F D
  | .goto l, T, L, n, F, D, K => K (.goto l) T L n F D
  | .label _, T, L, n, F, D, K => K .normal T L n F D
  | c, T, L, n, F, D, K => CJs X c T L n F D K

theorem sx_sound {X : Fx} : ∀ {c : Code} {T : TE} {L : LE} {n : Nat} {F : List Fact} {D : DF} {K : KK}, sx X c T L n F D K → CJs X c T L n F D K := by
  intro c
  induction c with
  | skip => exact fun h Q hQ a w hr => wpIn_skip (hQ _ _ _ _ _ _ h a w hr)
  | region id ops d =>
    intro T L n F D K h
    cases d
    · intro Q hQ a w hr
      have := rl_sound h Q hQ a w hr
      rw [Array.toArray_toList] at this
      exact wpIn_region_list this
    · exact h
  | seq x y ihx ihy =>
    intro T L n F D K h Q hQ a w hr
    refine wpIn_seq (ihx h _ ?_ a w hr)
    intro e T L n F D hK a w hr
    cases e with
    | normal => exact ihy hK Q hQ a w hr
    | exit id => exact hQ _ _ _ _ _ _ hK a w hr
    | goto l => exact hQ _ _ _ _ _ _ hK a w hr
    | ret => exact hQ _ _ _ _ _ _ hK a w hr
    | panic ch => exact hQ _ _ _ _ _ _ hK a w hr
    | outgrown => exact hQ _ _ _ _ _ _ hK a w hr
  | cond c x y ihx ihy =>
    intro T L n F D K h
    unfold sx at h
    split at h
    · rename_i t ht
      intro Q hQ a w hr
      obtain ⟨A, ρ, h0⟩ := hr.one
      have e1 := h0.ev ht
      cases t
      · exact wpIn_cond_false e1 (ihy h Q hQ a w hr)
      · exact wpIn_cond_true e1 (ihx h Q hQ a w hr)
    · exact h
  | block id b ih =>
    intro T L n F D K h Q hQ a w hr
    refine wpIn_block (ih h _ ?_ a w hr)
    intro e T L n F D hK a w hr
    cases e with
    | normal => exact hQ _ _ _ _ _ _ hK a w hr
    | exit i =>
      simp only [blkK, cond_eq_ite, Nat.beq_eq] at hK
      simp only [Exit.inBlock]
      split at hK
      · rename_i e; rw [if_pos e]; exact hQ _ _ _ _ _ _ hK a w hr
      · rename_i e; rw [if_neg e]; exact hQ _ _ _ _ _ _ hK a w hr
    | goto l => exact hQ _ _ _ _ _ _ hK a w hr
    | ret => exact hQ _ _ _ _ _ _ hK a w hr
    | panic ch => exact hQ _ _ _ _ _ _ hK a w hr
    | outgrown => exact hQ _ _ _ _ _ _ hK a w hr
  | exit id => exact fun h Q hQ a w hr => wpIn_exit (hQ _ _ _ _ _ _ h a w hr)
  | ret => exact fun h Q hQ a w hr => wpIn_ret (hQ _ _ _ _ _ _ h a w hr)
  | goto l => exact fun h Q hQ a w hr => wpIn_goto (hQ _ _ _ _ _ _ h a w hr)
  | label l => exact fun h Q hQ a w hr => wpIn_label (hQ _ _ _ _ _ _ h a w hr)
  | loop b ih => exact fun h => h
  | rangeFunc f ps x y ihx ihy => exact fun h => h
  | scope b ih => exact fun h => h
  | refuse y => exact fun h => h

section
variable {X : Fx} {ops l : List Oper} {o : Oper} {T : TE} {L : LE} {n : Nat} {F : List Fact} {D : DF} {K : KK} {k : KS} {c : Code}

theorem Rel.fact {a : Act} {w : World} (h : Rel X T L n F D a w) : ∃ A : Nat → Prop, (∀ b, A b → b < w.heap.size) ∧ ∀ f ∈ F, f.h A w := by
  obtain ⟨A, ρ, h0⟩ := h.one
  exact ⟨A, fun b hb => (h0.a2 b hb).1, h0.a3⟩
/-- What a fact says that hangs on no memory. -/
theorem ojs_fact {p : Prop} (f : Fact) (hf : f ∈ F) (hp : ∀ A w, f.h A w → p) (h : p → OJs X o T L n F D k K) : OJs X o T L n F D k K := by
  intro Q hQ Φ hΦ a w hr
  obtain ⟨A, _, h3⟩ := hr.fact
  exact h (hp A w (h3 f hf)) Q hQ Φ hΦ a w hr
theorem cjs_fact {p : Prop} (f : Fact) (hf : f ∈ F) (hp : ∀ A w, f.h A w → p) (h : p → CJs X c T L n F D K) : CJs X c T L n F D K := by
  intro Q hQ a w hr
  obtain ⟨A, _, h3⟩ := hr.fact
  exact h (hp A w (h3 f hf)) Q hQ a w hr
theorem Rel.more {a : Act} {w : World} {F' : List Fact} (h : Rel X T L n F D a w) (hF : ∀ A : Nat → Prop, (∀ f ∈ F, f.h A w) → ∀ f ∈ F', f.h A w) : Rel X T L n F' D a w := by
  obtain ⟨hkb, ρ0, A, h0⟩ := h
  refine ⟨hkb, ρ0, A, fun ρ hρ => ?_⟩
  have h1 := h0 ρ hρ
  exact ⟨⟨h1.tm, h1.lo, hF A h1.a3⟩, h1.sz, h1.df, h1.kp, h1.nw, h1.ds, h1.a1, h1.a2, h1.mb⟩
/-- Other facts, that follow. -/
theorem ojs_facts (F' : List Fact) (hF : ∀ A w, (∀ f ∈ F, f.h A w) → ∀ f ∈ F', f.h A w) (h : OJs X o T L n F' D k K) : OJs X o T L n F D k K := fun Q hQ Φ hΦ a w hr => h Q hQ Φ hΦ a w (hr.more fun A => hF A w)
theorem cjs_facts (F' : List Fact) (hF : ∀ A w, (∀ f ∈ F, f.h A w) → ∀ f ∈ F', f.h A w) (h : CJs X c T L n F' D K) : CJs X c T L n F D K := fun Q hQ a w hr => h Q hQ a w (hr.more fun A => hF A w)

/-- A block that stays. -/
def blkF (b : Nat) (cs : List Value) (t : TypeId) : Fact := ⟨fun A w => A b ∧ w.heap[b]? = some (.cells cs.toArray t (0, 0)), fun hA hw _ h => ⟨hA _ h.1, (hw _ h.1).trans h.2⟩⟩
abbrev MB := Nat × List Value × TypeId
abbrev OutT := Ending → List (List Value) → List Fact → Prop
/-- A function's contract: what it does to the blocks mu that it is handed, in a memory of which F0 holds. -/
def Res (w0 : World) (A0 : Nat → Prop) (mu : List MB) (Out : OutT) (e : Ending) (w' : World) : Prop :=
  ∃ cs F1, Out e cs F1 ∧ Kp (mu.map (·.1)) w0 w' ∧ cs.length = mu.length ∧ (∀ (i : Nat) (x : MB) (c : List Value), mu[i]? = some x → cs[i]? = some c → w'.heap[x.1]? = some (.cells c.toArray x.2.2 (0, 0))) ∧
    ∃ A' : Nat → Prop, (∀ b, A' b → A0 b ∨ w0.heap.size ≤ b) ∧ (∀ b, A' b → b < w'.heap.size) ∧ ∀ f ∈ F1, f.h A' w'
def Cm (P : Program) (g : FuncId) (args : List Value) (mu : List MB) (F0 : List Fact) (Out : OutT) : Prop :=
  ∀ (A : Nat → Prop) (w : World), (mu.map (·.1)).Nodup → (∀ x ∈ mu, w.heap[x.1]? = some (.cells x.2.1.toArray x.2.2 (0, 0)) ∧ ¬ A x.1) → (∀ b, A b → b < w.heap.size) → (∀ f ∈ F0, f.h A w) → Calls P g args.toArray w (Res w A mu Out)
def rets (v : Value) : OutT := fun e _ F1 => e = .returned v ∧ F1 = []

/-- The function that is called: its number, what stands ahead of the arguments, and behind. -/
def calS (T : TE) (f : Operand) : Option (Nat × List PV × List PV) :=
  match evS T f with
  | some (.o (.v (.func (.func g) fi ca))) => some (g, fi.toList.map PV.v, ca.toList.map PV.v)
  | some (.o (.f (.func g) fi ca)) => some (g, fi, ca)
  | _ => none
def argS (T : TE) : List Operand → Option (List TV)
  | [] => some []
  | x :: r => match evS T x with
    | some u => match argS T r with
      | some us => some (u :: us)
      | none => none
    | none => none
def argV (ρ : Nm) (fi : List PV) (us : List TV) (ca : List PV) : List Value := fi.map (PV.den ρ) ++ us.map (TV.den ρ) ++ ca.map (PV.den ρ)
theorem argS_den {A : Nat → Prop} {ρ : Nm} {a : Act} {w : World} (h : Vw T L F A ρ a w) : ∀ {l : List Operand} {us : List TV}, argS T l = some us → l.map a.eval = us.map (TV.den ρ)
  | [], _, h2 => by cases h2; rfl
  | x :: r, us, h2 => by
    unfold argS at h2
    split at h2
    · rename_i u hu
      split at h2
      · rename_i vs hv
        cases h2
        rw [List.map_cons, List.map_cons, h.ev hu, argS_den h hv]
      · cases h2
    · cases h2
theorem tyB_spec {P : Program} {g : Nat} (h : tyB P g = true) : Enters P g := by
  unfold tyB at h
  split at h
  · rename_i fn hfn
    simp only [Bool.and_eq_true, Bool.not_eq_true'] at h
    obtain ⟨c, hc⟩ := Option.isSome_iff_exists.1 h.1
    exact enters_of hfn h.2 hc
  · cases h
theorem call_run {A : Nat → Prop} {ρ : Nm} {a : Act} {w : World} (h0 : Vw T L F A ρ a w) {c : Call} {f : Operand} {g : Nat} {fi ca : List PV} {us : List TV} (ho : o.op = .call c) (hc : c.callee = .value f) (hf : calS T f = some (g, fi, ca)) (hus : argS T c.args.toList = some us) (hfn : alook X.tab.fn g = some ()) :
    (execOp a.eval o).run X.P w = .ok (.enter g (argV ρ fi us ca).toArray) w := by
  have hE : ∀ args w, (callFunc g args).run X.P w = .ok (.enter g args) w := tyB_spec (X.ok.fn _ _ hfn)
  have e1 := argS_den h0 hus
  have e2 : c.args.map a.eval = (us.map (TV.den ρ)).toArray := by apply Array.ext'; rw [Array.toList_map]; exact e1
  unfold calS at hf
  split at hf
  · rename_i g' fi' ca' hv
    cases hf
    have e3 := h0.ev hv
    simp only [TV.den, SV.den] at e3
    simp [execOp, ho, resolve, hc, e3, Deferred.ofValue, invoke, hE, e2, argV, PV.den, Function.comp_def]
  · rename_i g' fi' ca' hv
    cases hf
    have e3 := h0.ev hv
    simp only [TV.den, SV.den] at e3
    simp [execOp, ho, resolve, hc, e3, Deferred.ofValue, invoke, hE, e2, argV]
  · cases hf

/-- Blocks that are lent. -/
def lentS (L : LE) : List Nat → Option (List (Nat × List SV × TypeId))
  | [] => some []
  | k :: r => match alook L k with
    | some (.c cs t) => match lentS L r with
      | some ls => some ((k, cs, t) :: ls)
      | none => none
    | _ => none
def lentV (ρ : Nm) (ls : List (Nat × List SV × TypeId)) : List MB := ls.map fun x => (ρ x.1, denL ρ x.2.1, x.2.2)
theorem lentS_spec : ∀ {ks : List Nat} {ls : List (Nat × List SV × TypeId)}, lentS L ks = some ls → ls.map (·.1) = ks ∧ ∀ x ∈ ls, alook L x.1 = some (.c x.2.1 x.2.2)
  | [], ls, h => by cases h; simp
  | k :: r, ls, h => by
    unfold lentS at h
    split at h
    · rename_i cs t hk
      split at h
      · rename_i ls' hl
        cases h
        obtain ⟨h1, h2⟩ := lentS_spec hl
        refine ⟨by simp [h1], fun x hx => ?_⟩
        rcases List.mem_cons.1 hx with rfl | hx
        · exact hk
        · exact h2 x hx
      · cases h
    · cases h
/-- The blocks behind the call. -/
def backL : List (Nat × List SV × TypeId) → List (List Value) → LE → LE
  | (k, _, t) :: r, c :: cs, L => (k, .c (c.map SV.v) t) :: backL r cs L
  | _, _, L => L
def callK (X : Fx) (o : Oper) (T : TE) (L : LE) (n : Nat) (F1 F : List Fact) (D : DF) (k : KS) (K : KK) (e : Ending) : Prop :=
  match e with
  | .returned v => match putS X.k o.dst (.o (.v v)) T with
    | some T' => k T' L n (F1 ++ F) D
    | none => False
  | .panicked ch => K (.panic ch) T L n (F1 ++ F) D
  | .outgrown => False
theorem backL_look {ls : List (Nat × List SV × TypeId)} {cs : List (List Value)} {L : LE} {k : Nat} {e : LC} (hn : (ls.map (·.1)).Nodup) (hl : cs.length = ls.length) (h : alook (backL ls cs L) k = some e) :
    (∃ (i : Nat) (cs' : List SV) (t : TypeId) (c : List Value), ls[i]? = some (k, cs', t) ∧ cs[i]? = some c ∧ e = .c (c.map SV.v) t) ∨ (k ∉ ls.map (·.1) ∧ alook L k = some e) := by
  induction ls generalizing cs with
  | nil => right; cases cs <;> exact ⟨by simp, h⟩
  | cons x ls ih =>
    cases cs with
    | nil => simp at hl
    | cons c cs =>
      obtain ⟨k', cs', t⟩ := x
      simp only [backL] at h
      rw [alook_cons] at h
      split at h
      · rename_i ek
        cases h
        subst ek
        exact .inl ⟨0, cs', t, c, rfl, rfl, rfl⟩
      · rename_i ek
        rcases ih (by simp at hn; exact hn.2) (by simpa using hl) h with ⟨i, cs2, t2, c2, h1, h2, h3⟩ | ⟨h1, h2⟩
        · exact .inl ⟨i + 1, cs2, t2, c2, by simpa using h1, by simpa using h2, h3⟩
        · exact .inr ⟨by simp at h1 ⊢; exact ⟨fun e => ek e, h1⟩, h2⟩
theorem LC.blk_congr {ρ ρ' : Nm} {k : Nat} {e : LC} (h : ρ k = ρ' k) : e.blk ρ k = e.blk ρ' k := by cases e <;> simp [LC.blk, h]

set_option maxHeartbeats 1000000 in
/-- A call, by a contract; blocks are lent for reading (ro), or to be written (mu). -/
theorem rel_call {a : Act} {w : World} {g : Nat} {fi ca : List PV} {us : List TV} {ro mu : List (Nat × List SV × TypeId)} {F0 : List Fact} {Out : OutT} {rk mk : List Nat} (hr : Rel X T L n F D a w)
    (hro : lentS L rk = some ro) (hmu : lentS L mk = some mu) (hnd : (rk ++ mk).Nodup)
    (ct : ∀ ρ, Cm X.P g (argV ρ fi us ca) (lentV ρ mu) ((lentV ρ ro).map (fun x => blkF x.1 x.2.1 x.2.2) ++ F0) Out) (hF0 : ∀ f ∈ F0, f ∈ F) (hno : rk = [] ∨ ∀ e cs F1, Out e cs F1 → F1 = []) :
    ∃ A ρ, Rel0 X T L F D A ρ a w ∧ Calls X.P g (argV ρ fi us ca).toArray w fun e w' => ∃ cs F1, cs.length = mu.length ∧ Out e cs F1 ∧ Rel X T (backL mu cs L) n (F1 ++ F) D a w' := by
  obtain ⟨hkb, ρ0, A, hr0⟩ := hr
  have h0 := hr0 ρ0 (fun _ _ => rfl)
  refine ⟨A, ρ0, h0, ?_⟩
  obtain ⟨hro1, hro2⟩ := lentS_spec hro
  obtain ⟨hmu1, hmu2⟩ := lentS_spec hmu
  have inj : ∀ (ls : List (Nat × List SV × TypeId)), (∀ x ∈ ls, alook L x.1 = some (.c x.2.1 x.2.2)) → (ls.map (·.1)).Nodup → ((lentV ρ0 ls).map (·.1)).Nodup := by
    intro ls hls hnd
    simp only [lentV, List.map_map]
    refine List.Pairwise.map _ ?_ (List.pairwise_map.1 hnd |>.imp_of_mem fun {x y} hx hy hxy => (⟨hx, hy, hxy⟩ : x ∈ ls ∧ y ∈ ls ∧ x.1 ≠ y.1))
    rintro x y ⟨hx, hy, hxy⟩ e
    exact hxy (h0.ds x.1 y.1 _ _ (ρ0 x.1) (hls x hx) (hls y hy) rfl (by simpa [LC.blk] using e.symm))
  have hndm : (mu.map (·.1)).Nodup := by rw [hmu1]; exact (List.nodup_append.1 hnd).2.1
  have hCm := ct ρ0 (fun b => A b ∨ ∃ x ∈ ro, ρ0 x.1 = b) w (inj mu hmu2 hndm) (by
      intro x hx
      obtain ⟨y, hy, rfl⟩ := List.mem_map.1 hx
      refine ⟨h0.lo y.1 _ (hmu2 y hy), ?_⟩
      rintro (hA | ⟨z, hz, hzy⟩)
      · exact (h0.a2 _ hA).2 y.1 _ (hmu2 y hy) rfl
      · have e := h0.ds z.1 y.1 _ _ (ρ0 z.1) (hro2 z hz) (hmu2 y hy) rfl (by simp only [LC.blk]; rw [hzy])
        have h1 : z.1 ∈ rk := by rw [← hro1]; exact List.mem_map.2 ⟨z, hz, rfl⟩
        have h2 : y.1 ∈ mk := by rw [← hmu1]; exact List.mem_map.2 ⟨y, hy, rfl⟩
        exact (List.nodup_append.1 hnd).2.2 _ h1 _ h2 e) (by
      rintro b (hA | ⟨z, hz, rfl⟩)
      · exact (h0.a2 b hA).1
      · exact LC.lt (h0.lo z.1 _ (hro2 z hz)) rfl) (by
      intro fa hfa
      rcases List.mem_append.1 hfa with hfa | hfa
      · obtain ⟨x, hx, rfl⟩ := List.mem_map.1 hfa
        obtain ⟨y, hy, rfl⟩ := List.mem_map.1 hx
        exact ⟨.inr ⟨y, hy, rfl⟩, h0.lo y.1 _ (hro2 y hy)⟩
      · exact fa.ok (fun _ h => .inl h) (fun _ _ => rfl) (Grow.refl _) (h0.a3 fa (hF0 fa hfa)))
  refine hCm.mono ?_
  rintro e w' ⟨cs, F1, hout, hkp, hcl, hcs, A', hA1, hA2, hA3⟩
  have hcl : cs.length = mu.length := by rw [hcl]; simp [lentV]
  have rel : Rel X T (backL mu cs L) n (F1 ++ F) D a w' := by
    have old : ∀ k e, alook L k = some e → k ∉ mk → ∀ ρ : Nm, (∀ j, j < n → ρ j = ρ0 j) → ∀ b, e.blk ρ k = some b → b < w.heap.size ∧ w'.heap[b]? = w.heap[b]? := by
      intro k e hke hkm ρ hρ b hb
      have h1 := hr0 ρ hρ
      have hlt := LC.lt (h1.lo k e hke) hb
      refine ⟨hlt, hkp.keep b hlt fun hm => hkm ?_⟩
      obtain ⟨x, hx, hxb⟩ := List.mem_map.1 hm
      obtain ⟨y, hy, rfl⟩ := List.mem_map.1 hx
      have hyk : y.1 < n := hkb _ _ (hmu2 y hy)
      have := h1.ds k y.1 _ _ b hke (hmu2 y hy) hb (by simp only [LC.blk]; rw [hρ _ hyk]; exact congrArg some hxb)
      rw [this, ← hmu1]
      exact List.mem_map.2 ⟨y, hy, rfl⟩
    have look : ∀ k e, alook (backL mu cs L) k = some e → (∃ (cs' : List SV) (t : TypeId) (c : List Value), alook L k = some (.c cs' t) ∧ e = .c (c.map SV.v) t ∧ k ∈ mk ∧ w'.heap[ρ0 k]? = some (.cells c.toArray t (0, 0))) ∨ (k ∉ mk ∧ alook L k = some e) := by
      intro k e hke
      rcases backL_look hndm hcl hke with ⟨i, cs', t, c, h1, h2, rfl⟩ | ⟨h1, h2⟩
      · have hm := List.mem_of_getElem? h1
        refine .inl ⟨cs', t, c, hmu2 _ hm, rfl, ?_, ?_⟩
        · rw [← hmu1]; exact List.mem_map.2 ⟨_, hm, rfl⟩
        · exact hcs i (ρ0 k, denL ρ0 cs', t) c (by simp [lentV, h1]) h2
      · exact .inr ⟨by rw [← hmu1]; exact h1, h2⟩
    have bl : ∀ k e b (ρ : Nm), alook (backL mu cs L) k = some e → e.blk ρ k = some b → ∃ e0, alook L k = some e0 ∧ e0.blk ρ k = some b := by
      intro k e b ρ hke hb
      rcases look k e hke with ⟨cs', t, c, h1, rfl, _, _⟩ | ⟨_, h2⟩
      · exact ⟨_, h1, hb⟩
      · exact ⟨e, h2, hb⟩
    refine ⟨fun k e hke => ?_, ρ0, fun b => A b ∨ (F1 ≠ [] ∧ A' b), fun ρ hρ => ?_⟩
    · rcases look k e hke with ⟨cs', t, c, h1, _, _, _⟩ | ⟨_, h2⟩
      · exact hkb _ _ h1
      · exact hkb _ _ h2
    have h1 := hr0 ρ hρ
    have hA'sub : ∀ b, F1 ≠ [] → A' b → A b ∨ w.heap.size ≤ b := by
      intro b hne hb
      rcases hA1 b hb with (hA | ⟨x, hx, _⟩) | h2
      · exact .inl hA
      · rcases hno with hno | hno
        · rw [← hro1] at hno
          rw [List.map_eq_nil_iff.1 hno] at hx
          cases hx
        · exact absurd (hno e cs F1 hout) hne
      · exact .inr h2
    have Aold : ∀ b, A b → w'.heap[b]? = w.heap[b]? := by
      intro b hb
      refine hkp.keep b (h1.a2 b hb).1 fun hm => ?_
      obtain ⟨x, hx, hxb⟩ := List.mem_map.1 hm
      obtain ⟨y, hy, rfl⟩ := List.mem_map.1 hx
      have hyk : y.1 < n := hkb _ _ (hmu2 y hy)
      exact (h1.a2 b hb).2 y.1 _ (hmu2 y hy) (by simp only [LC.blk]; rw [hρ _ hyk]; exact congrArg some hxb)
    refine ⟨⟨h1.tm, ?_, ?_⟩, h1.sz, h1.df, ?_, ?_, ?_, ?_, ?_, h1.mb⟩
    · intro k e hke
      rcases look k e hke with ⟨cs', t, c, h3, rfl, _, h4⟩ | ⟨hkm, h2⟩
      · show w'.heap[ρ k]? = _
        rw [hρ k (hkb _ _ h3), h4]
        simp [denL, List.map_map, Function.comp_def, SV.den]
      · exact LC.keep (h1.lo k e h2) fun b hb => (old k e h2 hkm ρ hρ b hb).2
    · intro fa hfa
      rcases List.mem_append.1 hfa with hfa | hfa
      · exact fa.ok (fun b hb => .inr ⟨List.ne_nil_of_mem hfa, hb⟩) (fun _ _ => rfl) (Grow.refl _) (hA3 fa hfa)
      · exact fa.ok (fun b hb => .inl hb) (fun b hb => Aold b hb) hkp.grow (h1.a3 fa hfa)
    · refine ⟨hkp.os.trans h1.kp.os, hkp.tape.trans h1.kp.tape, hkp.output.trans h1.kp.output, Nat.le_trans h1.kp.size hkp.size, fun b hb hm => ?_⟩
      rw [hkp.keep b (Nat.lt_of_lt_of_le hb h1.kp.size) fun hm2 => ?_]
      · exact h1.kp.keep b hb hm
      · obtain ⟨x, hx, hxb⟩ := List.mem_map.1 hm2
        obtain ⟨y, hy, rfl⟩ := List.mem_map.1 hx
        have hyk : y.1 < n := hkb _ _ (hmu2 y hy)
        rcases h1.nw y.1 _ b (hmu2 y hy) (by simp only [LC.blk]; rw [hρ _ hyk]; exact congrArg some hxb) with h2 | h2
        · exact hm h2
        · omega
    · intro k e b hke hb
      obtain ⟨e0, h2, h3⟩ := bl k e b ρ hke hb
      exact h1.nw k e0 b h2 h3
    · intro k k' e e' b hke hke' hb hb'
      obtain ⟨e0, h2, h3⟩ := bl k e b ρ hke hb
      obtain ⟨e1, h4, h5⟩ := bl k' e' b ρ hke' hb'
      exact h1.ds k k' e0 e1 b h2 h4 h3 h5
    · rintro b (hb | ⟨hne, hb⟩)
      · exact h1.a1 b hb
      · rcases hA'sub b hne hb with h2 | h2
        · exact h1.a1 b h2
        · exact .inr (Nat.le_trans h1.kp.size h2)
    · rintro b (hb | ⟨hne, hb⟩)
      · refine ⟨Nat.lt_of_lt_of_le (h1.a2 b hb).1 hkp.size, fun k e hke hbk => ?_⟩
        obtain ⟨e0, h2, h3⟩ := bl k e b ρ hke hbk
        exact (h1.a2 b hb).2 k e0 h2 h3
      · refine ⟨hA2 b hb, fun k e hke hbk => ?_⟩
        obtain ⟨e0, h2, h3⟩ := bl k e b ρ hke hbk
        rcases hA'sub b hne hb with h4 | h4
        · exact (h1.a2 b h4).2 k e0 h2 h3
        · have := LC.lt (h1.lo k e0 h2) h3; omega
  exact ⟨cs, F1, hcl, hout, rel⟩
theorem ojs_call {c : Call} {f : Operand} {g : Nat} {fi ca : List PV} {us : List TV} {ro mu : List (Nat × List SV × TypeId)} {F0 : List Fact} {Out : OutT} (rk mk : List Nat)
    (ho : o.op = .call c) (hc : c.callee = .value f) (hf : calS T f = some (g, fi, ca)) (hus : argS T c.args.toList = some us) (hfn : alook X.tab.fn g = some ())
    (hro : lentS L rk = some ro) (hmu : lentS L mk = some mu) (hnd : (rk ++ mk).Nodup)
    (ct : ∀ ρ, Cm X.P g (argV ρ fi us ca) (lentV ρ mu) ((lentV ρ ro).map (fun x => blkF x.1 x.2.1 x.2.2) ++ F0) Out) (hF0 : ∀ f ∈ F0, f ∈ F) (hno : rk = [] ∨ ∀ e cs F1, Out e cs F1 → F1 = [])
    (h : ∀ e cs F1, cs.length = mu.length → Out e cs F1 → callK X o T (backL mu cs L) n F1 F D k K e) : OJs X o T L n F D k K := by
  intro Q hQ Φ hΦ a w hr
  obtain ⟨A, ρ0, h0, hCm⟩ := rel_call hr hro hmu hnd ct hF0 hno
  refine Oper.wpIn_of_run (by simp [noDef, ho]) ?_
  rw [call_run h0.toVw ho hc hf hus hfn]
  refine ⟨fun hd => by simp [Fx.fe, Fence.wide] at hd, ?_⟩
  refine CallsIn.mono (show CallsIn X.fe (X.nn - 1) X.P g (argV ρ0 fi us ca).toArray w _ from ⟨trivial, ((callsIn_wide (n := X.nn - 1)).2 hCm).2⟩) ?_
  rintro e w' ⟨cs, F1, hcl, hout, rel⟩
  have hk := h e cs F1 hcl hout
  cases e with
  | returned v =>
    simp only [callK] at hk
    split at hk
    · rename_i T' hp
      exact hΦ _ _ _ _ _ hk _ w' (rel.put (fun _ _ _ => rfl) hp)
    · exact hk.elim
  | panicked ch => exact hQ _ _ _ _ _ _ hk a w' rel
  | outgrown => exact hk.elim
end

end Go.Proofs.Ytnkpmeplapkobaa
