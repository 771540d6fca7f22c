/- A symbolic run: regions that draw their order, by what holds behind each set of operations; maps with int keys. No program is in sight. -/
import Derived.Test.YthnkjgffahkecaaGreatEng2
import Derived.Test.YthnkjgffahkecaaGreatEngW
import Derived.Test.YthnkjgffahkecaaGreatEngV
import Derived.MapKept
namespace Go.Proofs.YthnkjgffahkecaaGreat
open Go.RowKit Go.Shelf

theorem count_set {l : List Bool} : ∀ {i : Nat}, l[i]? = some false → (l.set i true).count false + 1 = l.count false := by
  induction l with
  | nil => intro i h; simp at h
  | cons b l ih =>
    intro i h
    cases i with
    | zero =>
      simp only [List.getElem?_cons_zero, Option.some.injEq] at h
      subst h
      simp
    | succ i =>
      simp only [List.getElem?_cons_succ] at h
      have := ih h
      simp only [List.set_cons_succ, List.count_cons]
      omega
theorem count_none {l : List Bool} (h : l.count false = 0) {i : Nat} (hi : i < l.length) : l[i]? = some true := by
  rw [List.count_eq_zero] at h
  rw [List.getElem?_eq_getElem hi]
  cases hb : l[i] with
  | true => rfl
  | false => exact absurd (hb ▸ List.getElem_mem hi) h
/-- Each operation waits for earlier ones alone. -/
def acycB (ops : List Oper) : Bool := (List.range ops.length).all fun i => match ops[i]? with
  | some o => o.after.toList.all fun e => !Region.binds .any e || Nat.blt e.on i
  | none => true
theorem acycB_spec {ops : List Oper} (h : acycB ops = true) {i : Nat} {o : Oper} (ho : ops[i]? = some o) {e : Edge} (he : e ∈ o.after) (hb : Region.binds .any e = true) : e.on < i := by
  have hi := (List.getElem?_eq_some_iff.1 ho).1
  have := List.all_eq_true.1 h i (List.mem_range.2 hi)
  simp only [ho] at this
  have := List.all_eq_true.1 this e (by simpa using he)
  simpa [hb] using this
def upd (done : Nat → Bool) (i : Nat) : Nat → Bool := fun j => Nat.beq j i || done j
theorem upd_self (done : Nat → Bool) (i : Nat) : upd done i i = true := by simp [upd]
theorem upd_old {done : Nat → Bool} {i j : Nat} (h : done j = true) : upd done i j = true := by simp [upd, h]
theorem upd_ne {done : Nat → Bool} {i j : Nat} (h : j ≠ i) : upd done i j = done j := by
  have : Nat.beq j i = false := by rw [Bool.eq_false_iff]; simpa using h
  simp [upd, this]

section
variable {Fe : Fence} {nn : Nat} {P : Program} {Q : Exit → Act → World → Prop}
theorem wpAny_inv {ops : Array Oper} (I : (Nat → Bool) → Act → World → Prop) (hac : acycB ops.toList = true)
    (hstep : ∀ (done : Nat → Bool) i o a w, ops[i]? = some o → done i = false → (∀ e ∈ o.after, Region.binds .any e = true → done e.on = true) → I done a w → wpOpIn Fe nn P ops Q i (fun a' w' => I (upd done i) a' w') a w)
    (hfin : ∀ (done : Nat → Bool) a w, (∀ i, i < ops.size → done i = true) → I done a w → Q .normal a w) :
    ∀ (fuel : Nat) (listed : Array Bool) (a : Act) (w : World), listed.size = ops.size → listed.toList.count false ≤ fuel → I (fun j => listed.getD j false) a w → wpAnyIn Fe nn P .any ops Q fuel listed a w := by
  have full : ∀ (listed : Array Bool), listed.size = ops.size → Region.ready .any ops listed = [] → ∀ i, i < ops.size → listed.getD i false = true := by
    intro listed hl h0 i
    induction i using Nat.strongRecOn with
    | _ i ih =>
      intro hi
      cases hb : listed.getD i false with
      | true => rfl
      | false =>
        exfalso
        obtain ⟨o, ho⟩ : ∃ o, ops[i]? = some o := ⟨_, Array.getElem?_eq_getElem hi⟩
        have : i ∈ Region.ready .any ops listed := mem_ready.2 ⟨by
          simp only [Array.getD_eq_getD_getElem?, Array.getElem?_eq_getElem (show i < listed.size by omega), Option.getD_some] at hb ⊢
          exact hb, o, ho, fun e he hbd => by
            have hlt := acycB_spec hac (by simpa using ho) he hbd
            exact ih e.on hlt (by omega)⟩
        rw [h0] at this
        cases this
  have none0 : ∀ (listed : Array Bool), listed.size = ops.size → listed.toList.count false = 0 → Region.ready .any ops listed = [] := by
    intro listed hl h0
    rw [List.eq_nil_iff_forall_not_mem]
    intro i hi
    obtain ⟨h1, o, ho, _⟩ := mem_ready.1 hi
    have hlt := (Array.getElem?_eq_some_iff.1 ho).1
    have := count_none h0 (i := i) (by simpa [hl] using hlt)
    simp only [Array.getD_eq_getD_getElem?, Array.getElem?_toList] at h1 this
    rw [this] at h1
    simp at h1
  intro fuel
  induction fuel with
  | zero =>
    intro listed a w hl hc hI
    have h0 := none0 listed hl (Nat.le_zero.1 hc)
    exact ⟨h0, hfin _ a w (full listed hl h0) hI⟩
  | succ fuel ih =>
    intro listed a w hl hc hI
    refine ⟨fun h0 => hfin _ a w (full listed hl h0) hI, fun i hi => ?_⟩
    obtain ⟨h1, o, ho, hd⟩ := mem_ready.1 hi
    have hlt := (Array.getElem?_eq_some_iff.1 ho).1
    have hli : listed[i]? = some false := by
      rw [Array.getElem?_eq_getElem (show i < listed.size by omega)]
      simp only [Array.getD_eq_getD_getElem?, Array.getElem?_eq_getElem (show i < listed.size by omega), Option.getD_some] at h1
      rw [h1]
    refine wpOpIn_mono (fun a' w' h => ?_) (hstep (fun j => listed.getD j false) i o a w ho (by simp [Array.getD_eq_getD_getElem?, hli]) hd hI)
    refine ih _ a' w' (by simpa using hl) ?_ ?_
    · have := count_set (l := listed.toList) (i := i) (by simpa using hli)
      simp only [Array.toList_setIfInBounds]
      omega
    · have e : (fun j => (listed.setIfInBounds i true).getD j false) = upd (fun j => listed.getD j false) i := by
        funext j
        by_cases hj : j = i
        · subst hj
          rw [upd_self]
          simp [Array.getD_eq_getD_getElem?, show j < listed.size by omega]
        · rw [upd_ne hj]
          simp [Array.getD_eq_getD_getElem?, Array.getElem?_setIfInBounds_ne (Ne.symm hj)]
      rw [e]
      exact h
end

section
variable {X : Fx} {T : TE} {L : LE} {n : Nat} {F : List Fact} {D : DF} {K : KK} {k : KS} {o : Oper}
def plainB (ops : List Oper) : Bool := ops.all fun o => noDef o && o.guard.isNone
/-- A region that draws its order: I holds behind each set of operations that are done. -/
theorem cjs_inv {id : Nat} {ops : Array Oper} (I : (Nat → Bool) → Sg → Prop) (hm : X.P.follows .mixedOrders = true) (hac : acycB ops.toList = true) (hpl : plainB ops.toList = true)
    (σ0 : Sg) (h0 : I (fun _ => false) σ0) (hw : Wk X T L n F D σ0)
    (hstep : ∀ (done : Nat → Bool) i o σ, ops.toList[i]? = some o → done i = false → (∀ e ∈ o.after.toList, Region.binds .any e = true → done e.on = true) → I done σ →
      OJs X o σ.T σ.L σ.n σ.F σ.D (fun T' L' n' F' D' => ∀ a w, Rel X T' L' n' F' D' a w → ∃ σ', I (upd done i) σ' ∧ Rel X σ'.T σ'.L σ'.n σ'.F σ'.D a w) K)
    (hfin : ∀ (done : Nat → Bool) σ, (∀ i, i < ops.toList.length → done i = true) → I done σ → K .normal σ.T σ.L σ.n σ.F σ.D) : CJs X (.region id ops true) T L n F D K := by
  intro Q hQ a w hr
  have hr1 := hw a w hr
  have hrel : Rel X σ0.T σ0.L σ0.n σ0.F σ0.D a { w with drawn := w.drawn + 1 } := by
    obtain ⟨hkb, ρ0, A, h1⟩ := hr1
    refine ⟨hkb, ρ0, A, fun ρ hρ => ?_⟩
    have h1 := h1 ρ hρ
    exact ⟨⟨h1.tm, fun k e hk => LC.keep (w := w) (h1.lo k e hk) fun b _ => rfl, fun f hf => f.ok (w := w) (fun _ h => h) (fun b _ => rfl) ⟨rfl, rfl, rfl, Nat.le_refl _⟩ (h1.a3 f hf)⟩, h1.sz, h1.df, ⟨h1.kp.os, h1.kp.tape, h1.kp.output, h1.kp.size, h1.kp.keep⟩, h1.nw, h1.ds, h1.a1, h1.a2, h1.mb⟩
  refine wpIn_region_any hm (wpAny_inv (fun done a w => ∃ σ, I done σ ∧ Rel X σ.T σ.L σ.n σ.F σ.D a w) hac ?_ ?_ _ _ _ _ (by simp) (by simp) ⟨σ0, by simpa [Array.getD_eq_getD_getElem?, Array.getElem?_replicate, apply_ite] using (show I (fun j => (Array.replicate ops.size false).getD j false) σ0 from by
    have e : (fun j => (Array.replicate ops.size false).getD j false) = fun _ => false := by
      funext j
      rw [Array.getD_eq_getD_getElem?, Array.getElem?_replicate]
      split <;> rfl
    rw [e]; exact h0), hrel⟩)
  · rintro done i o a w ho hdi hd ⟨σ, hI, hr⟩
    have hpo := List.all_eq_true.1 hpl o (List.mem_of_getElem? (by simpa using ho))
    simp only [Bool.and_eq_true, Option.isNone_iff_eq_none] at hpo
    unfold wpOpIn
    simp only [ho, wanted_none hpo.2, if_true]
    exact hstep done i o σ (by simpa using ho) hdi (fun e he => hd e (by simpa using he)) hI Q hQ _ (fun T' L' n' F' D' h a w hr' => h a w hr') a w hr
  · rintro done a w hall ⟨σ, hI, hr⟩
    exact hQ _ _ _ _ _ _ (hfin done σ (by simpa using hall) hI) a w hr

/-- Maps with int keys, each of which is new. -/
def mE : Nat → List (Int × Value) → List MapEntry
  | _, [] => []
  | i, (z, v) :: r => { key := .int .i64 z, val := v, born := i } :: mE (i + 1) r
def mapO (ms : List (Int × Value)) : Obj := .map (mE 0 ms).toArray ms.length
def mlook : List (Int × Value) → Int → Option Value
  | [], _ => none
  | (z, v) :: r, k => if k = z then some v else mlook r k
theorem mE_snoc (z : Int) (v : Value) : ∀ (ms : List (Int × Value)) (i : Nat), mE i (ms ++ [(z, v)]) = mE i ms ++ [{ key := .int .i64 z, val := v, born := i + ms.length }]
  | [], i => rfl
  | (y, u) :: r, i => by
    simp only [List.cons_append, mE, mE_snoc z v r (i + 1), List.length_cons]
    rw [show i + 1 + r.length = i + (r.length + 1) by omega]
theorem mlook_snoc {z k : Int} {v : Value} : ∀ {ms : List (Int × Value)}, mlook (ms ++ [(z, v)]) k = (mlook ms k).or (if k = z then some v else none)
  | [] => by simp [mlook]
  | (y, u) :: r => by
    simp only [List.cons_append, mlook]
    split
    · rfl
    · exact mlook_snoc
theorem find_mE {k : Int} : ∀ (ms : List (Int × Value)) (j i : Nat), Instr.findNow (.int .i64) (.int .i64 k) (mE j ms) i = some (match mlook ms k with | some v => some (i + (ms.findIdx fun p => p.1 == k), v) | none => none)
  | [], _, _ => rfl
  | (y, u) :: r, j, i => by
    simp only [mE, Instr.findNow, Instr.sameNow, mlook]
    by_cases h : k = y
    · subst h
      simp [List.findIdx_cons]
    · have h2 : (k == y) = false := by simpa using h
      have h3 : (y == k) = false := by simpa using (fun e : y = k => h e.symm)
      simp only [if_neg h, h2, if_true, find_mE r (j + 1) (i + 1), List.findIdx_cons, h3, cond_false]
      cases mlook r k with
      | none => rfl
      | some v => simp; omega
def isMapI (P : Program) (t e : TypeId) : Bool := match P.underlying t with
  | some (.map q e') => Nat.beq e e' && isInt P q .i64
  | _ => false
theorem isMapI_spec {P : Program} {t e : TypeId} (h : isMapI P t e = true) : ∃ q, P.underlying t = some (.map q e) ∧ P.underlying q = some (.int .i64) := by
  unfold isMapI at h
  split at h
  · rename_i q e' ht
    rw [Bool.and_eq_true, Nat.beq_eq] at h
    obtain ⟨rfl, h⟩ := h
    refine ⟨q, ht, ?_⟩
    unfold isInt at h
    split at h
    · rename_i k' hk
      have := ikN_inj (Nat.eq_of_beq_eq_true h)
      rw [hk, ← this]
    · cases h
  · cases h
def isMapK (P : Program) (t : TypeId) : Bool := match P.underlying t with
  | some (.map q _) => isInt P q .i64
  | _ => false
theorem isMapK_spec {P : Program} {t : TypeId} (h : isMapK P t = true) : ∃ e, isMapI P t e = true := by
  unfold isMapK at h
  split at h
  · rename_i q e ht
    exact ⟨e, by simp [isMapI, ht, h]⟩
  · cases h
theorem checkKey_int {P : Program} {q : TypeId} (hq : P.underlying q = some (.int .i64)) (em : Bool) (n : Nat) (z : Int) (w : World) : (Instr.checkKey em (n + 1) q (.int .i64 z)).run P w = .ok () w := by
  simp [Instr.checkKey, run_underlying hq]
theorem findKey_int {P : Program} {q : TypeId} (hq : P.underlying q = some (.int .i64)) (z : Int) (ms : List (Int × Value)) (w : World) :
    (Instr.findKey q (.int .i64 z) (mE 0 ms)).run P w = .ok (match mlook ms z with | some v => some (0 + (ms.findIdx fun p => p.1 == z), v) | none => none) w := by
  simp only [Instr.findKey, Sem.run_bind, run_underlying hq, Result.andThen_ok, find_mE, Sem.run_pure]
theorem run_insert {P : Program} {t e : TypeId} (ht : isMapI P t e = true) {g : Nat} {ms : List (Int × Value)} {z : Int} (hz : mlook ms z = none) (v : Value) {w : World} (hg : w.heap[g]? = some (mapO ms)) :
    (Instr.mapUpdate t (.map (some g)) (.int .i64 z) v).run P w = .ok () { w with heap := w.heap.setIfInBounds g (mapO (ms ++ [(z, v)])) } := by
  obtain ⟨q, h1, h2⟩ := isMapI_spec ht
  have hf := findKey_int h2 z ms w
  rw [hz] at hf
  have hs := MapKept.run_setObj_map (P := P) (.map ((mE 0 ms).toArray.push { key := .int .i64 z, val := v, born := ms.length }) (ms.length + 1)) hg
  have e : mapO (ms ++ [(z, v)]) = .map ((mE 0 ms).toArray.push { key := .int .i64 z, val := v, born := ms.length }) (ms.length + 1) := by
    simp [mapO, mE_snoc]
  rw [e]
  simp only [Instr.mapUpdate, Sem.run_bind, run_underlying h1, Result.andThen_ok, MapKept.run_getObj_map hg, checkKey_int h2, hf, hs]
theorem run_lookupM {P : Program} {t e : TypeId} (ht : isMapI P t e = true) {g : Nat} {ms : List (Int × Value)} {z : Int} {w : World} (hg : w.heap[g]? = some (mapO ms)) {zv v : Value} (hzv : (zeroValue e).run P w = .ok zv w) (ok : Bool) (hv : mlook ms z = some v ∨ (mlook ms z = none ∧ v = zv)) :
    (Instr.lookup t (.map (some g)) (.int .i64 z) ok).run P w = .ok (if ok then .tuple #[v, .bool (mlook ms z).isSome] else v) w := by
  obtain ⟨q, h1, h2⟩ := isMapI_spec ht
  have hf := findKey_int h2 z ms w
  simp only [Instr.lookup, Sem.run_bind, run_underlying h1, Result.andThen_ok, MapKept.run_getObj_map hg, Sem.run_pure, checkKey_int h2, hf]
  rcases hv with hv | ⟨hv, rfl⟩
  · rw [hv]
    cases ok <;> rfl
  · rw [hv]
    simp only [Sem.run_bind, hzv, Result.andThen_ok, Sem.run_pure]
    cases ok <;> rfl

theorem Rel.ob {a : Act} {w w' : World} {j g : Nat} {o o' : Obj} (h : Rel X T L n F D a w) (hj : alook L j = some (.ob g o)) (ho : w'.heap[g]? = some o') (hg : w.grownBy w' (some g)) : Rel X T ((j, .ob g o') :: L) n F D a w' := by
  obtain ⟨hkb, ρ0, A, h0⟩ := h
  refine ⟨fun k e hk => ?_, ρ0, A, fun ρ hρ => ?_⟩
  · rw [alook_cons] at hk
    split at hk
    · rename_i ek; rw [ek]; exact hkb _ _ hj
    · exact hkb _ _ hk
  have h1 := h0 ρ hρ
  have old : ∀ b, b < w.heap.size → b ≠ g → w'.heap[b]? = w.heap[b]? := fun b hb hn => hg.block b hb (fun e => hn (Option.some.inj e))
  have hgl : g < w.heap.size := LC.lt (h1.lo j _ hj) rfl
  have bl : ∀ k e' b, alook ((j, LC.ob g o') :: L) k = some e' → e'.blk ρ k = some b → (k = j ∧ b = g) ∨ (k ≠ j ∧ alook L k = some e' ∧ b < w.heap.size ∧ b ≠ g) := by
    intro k e' b hk hb
    rw [alook_cons] at hk
    split at hk
    · rename_i ek; cases hk; exact .inl ⟨ek, by simpa [LC.blk] using hb.symm⟩
    · rename_i ek
      exact .inr ⟨ek, hk, LC.lt (h1.lo k e' hk) hb, fun hv => ek (h1.ds k j e' _ b hk hj hb (by rw [hv]; rfl))⟩
  have Ab : ∀ b, A b → b ≠ g := fun b hb e => (h1.a2 b hb).2 j _ hj (by rw [e]; rfl)
  refine ⟨⟨h1.tm, ?_, fun f hf => f.ok (w := w) (fun _ h => h) (fun b hb => old b (h1.a2 b hb).1 (Ab b hb)) ⟨hg.os, hg.tape, hg.output, hg.size⟩ (h1.a3 f hf)⟩, h1.sz, h1.df, ?_, ?_, ?_, h1.a1, ?_, h1.mb⟩
  · intro k e' hk
    have hk0 := hk
    rw [alook_cons] at hk
    split at hk
    · cases hk; exact ho
    · rename_i ek
      refine LC.keep (w := w) (h1.lo k e' hk) fun b hb => ?_
      rcases bl k e' b hk0 hb with ⟨e1, _⟩ | ⟨_, _, h3, h4⟩
      · exact absurd e1 ek
      · exact old b h3 h4
  · refine ⟨hg.os.trans h1.kp.os, hg.tape.trans h1.kp.tape, hg.output.trans h1.kp.output, Nat.le_trans h1.kp.size hg.size, fun b hb hm => ?_⟩
    rw [old b (Nat.lt_of_lt_of_le hb h1.kp.size) (fun hv => ?_)]
    · exact h1.kp.keep b hb hm
    · subst hv
      rcases h1.nw j _ b hj rfl with h2 | h2
      · exact hm h2
      · omega
  · intro k e' b hk hb
    rcases bl k e' b hk hb with ⟨_, hv⟩ | ⟨_, h2, _, _⟩
    · subst hv; exact h1.nw j _ b hj rfl
    · exact h1.nw k e' b h2 hb
  · intro k1 k2 f1 f2 b hk1 hk2 hb1 hb2
    rcases bl k1 f1 b hk1 hb1 with ⟨e1, hv1⟩ | ⟨_, h2, h3, h4⟩ <;> rcases bl k2 f2 b hk2 hb2 with ⟨e2, hv2⟩ | ⟨_, h2', h3', h4'⟩
    · rw [e1, e2]
    · exact absurd hv1 h4'
    · exact absurd hv2 h4
    · exact h1.ds k1 k2 f1 f2 b h2 h2' hb1 hb2
  · intro b hb
    refine ⟨Nat.lt_of_lt_of_le (h1.a2 b hb).1 hg.size, fun k e' hk hbk => ?_⟩
    rcases bl k e' b hk hbk with ⟨_, hv⟩ | ⟨_, h2, _, _⟩
    · exact Ab b hb hv
    · exact (h1.a2 b hb).2 k e' h2 hbk
/-- A new object of the call's own, at a block by its number. -/
theorem Rel.newOb {a : Act} {w : World} (ob : Obj) (h : Rel X T L n F D a w) : Rel X T ((n, .ob w.heap.size ob) :: L) (n + 1) F D a (w.alloc ob) := by
  obtain ⟨hkb, ρ0, A, h0⟩ := h
  refine ⟨fun k e hk => ?_, ρ0, A, fun ρ hρ => ?_⟩
  · rw [alook_cons] at hk
    split at hk
    · omega
    · have := hkb k e hk; omega
  have h1 := h0 ρ (fun j hj => hρ j (by omega))
  have hW : X.w0.heap.size ≤ w.heap.size := h1.kp.size
  have old : ∀ b, b < w.heap.size → (w.alloc ob).heap[b]? = w.heap[b]? := fun b hb => Below.heap_alloc w _ b hb
  have bl : ∀ k e b, alook ((n, LC.ob w.heap.size ob) :: L) k = some e → e.blk ρ k = some b → (k = n ∧ b = w.heap.size) ∨ (k ≠ n ∧ alook L k = some e ∧ b < w.heap.size) := by
    intro k e b hk hb
    rw [alook_cons] at hk
    split at hk
    · rename_i ek; cases hk; exact .inl ⟨ek, by simpa [LC.blk] using hb.symm⟩
    · rename_i ek; exact .inr ⟨ek, hk, LC.lt (h1.lo k e hk) hb⟩
  refine ⟨⟨h1.tm, ?_, fun f hf => f.ok (fun _ h => h) (fun b hb => old b (h1.a2 b hb).1) ⟨rfl, rfl, rfl, by simp⟩ (h1.a3 f hf)⟩, h1.sz, h1.df, h1.kp.trans ⟨rfl, rfl, rfl, by simp, fun b hb _ => old b hb⟩, ?_, ?_, h1.a1, ?_, h1.mb⟩
  · intro k e hk
    rw [alook_cons] at hk
    split at hk
    · cases hk
      exact World.alloc_heap_new w _
    · exact LC.keep (h1.lo k e hk) fun b hb => old b (LC.lt (h1.lo k e hk) hb)
  · intro k e b hk hb
    rcases bl k e b hk hb with ⟨_, rfl⟩ | ⟨_, h3, _⟩
    · exact .inr hW
    · exact h1.nw k e b h3 hb
  · intro k k' e e' b hk hk' hb hb'
    rcases bl k e b hk hb with ⟨rfl, rfl⟩ | ⟨_, h3, h4⟩ <;> rcases bl k' e' _ hk' hb' with ⟨rfl, _⟩ | ⟨_, h3', h4'⟩
    · rfl
    · omega
    · omega
    · exact h1.ds k k' e e' b h3 h3' hb hb'
  · intro b hb
    refine ⟨by have := (h1.a2 b hb).1; simp; omega, fun k e hk hbk => ?_⟩
    rcases bl k e b hk hbk with ⟨_, rfl⟩ | ⟨_, h3, _⟩
    · have := (h1.a2 _ hb).1; omega
    · exact (h1.a2 b hb).2 k e h3 hbk
def objF (g : Nat) (o : Obj) : Fact := ⟨fun A w => A g ∧ w.heap[g]? = some o, fun hA hw _ h => ⟨hA _ h.1, (hw _ h.1).trans h.2⟩⟩
/-- An object of the call's own is written no more: it is a fact. -/
theorem Rel.sealOb {a : Act} {w : World} {j g : Nat} {ob : Obj} (h : Rel X T L n F D a w) (hM : X.M = []) (hj : alook L j = some (.ob g ob)) : Rel X T ((j, .dead) :: L) n (objF g ob :: F) D a w := by
  obtain ⟨hkb, ρ0, A, h0⟩ := h
  have bl : ∀ (ρ : Nm) k e' b, alook ((j, LC.dead) :: L) k = some e' → e'.blk ρ k = some b → k ≠ j ∧ alook L k = some e' := by
    intro ρ k e' b hk hb
    rw [alook_cons] at hk
    split at hk
    · cases hk; simp [LC.blk] at hb
    · rename_i ek; exact ⟨ek, hk⟩
  refine ⟨fun k e' hk => ?_, ρ0, fun b => A b ∨ b = g, fun ρ hρ => ?_⟩
  · rw [alook_cons] at hk
    split at hk
    · rename_i ek; rw [ek]; exact hkb _ _ hj
    · exact hkb k e' hk
  have h1 := h0 ρ hρ
  refine ⟨⟨h1.tm, fun k e' hk => ?_, fun f hf => ?_⟩, h1.sz, h1.df, h1.kp, fun k e' b hk hb => h1.nw k e' b (bl ρ k e' b hk hb).2 hb, fun k1 k2 f1 f2 b hk1 hk2 hb1 hb2 => h1.ds k1 k2 f1 f2 b (bl ρ k1 f1 b hk1 hb1).2 (bl ρ k2 f2 b hk2 hb2).2 hb1 hb2, ?_, ?_, h1.mb⟩
  · rw [alook_cons] at hk
    split at hk
    · cases hk; trivial
    · exact h1.lo k e' hk
  · rcases List.mem_cons.1 hf with rfl | hf
    · exact ⟨.inr rfl, h1.lo j _ hj⟩
    · exact f.ok (w := w) (fun _ h => .inl h) (fun _ _ => rfl) (Grow.refl _) (h1.a3 f hf)
  · rintro b (hb | rfl)
    · exact h1.a1 b hb
    · rcases h1.nw j _ b hj rfl with h2 | h2
      · rw [hM] at h2; cases h2
      · exact .inr h2
  · rintro b (hb | rfl)
    · exact ⟨(h1.a2 b hb).1, fun k e' hk hbk => (h1.a2 b hb).2 k e' (bl ρ k e' b hk hbk).2 hbk⟩
    · refine ⟨LC.lt (h1.lo j _ hj) rfl, fun k e' hk hbk => ?_⟩
      obtain ⟨h2, h3⟩ := bl ρ k e' b hk hbk
      exact h2 (h1.ds k j e' _ b h3 hj hbk rfl)
theorem wk_sealOb {j g : Nat} {ob : Obj} (hM : X.M = []) (hj : alook L j = some (.ob g ob)) : Wk X T L n F D ⟨T, (j, .dead) :: L, n, objF g ob :: F, D⟩ := fun _ _ h => h.sealOb hM hj

theorem ojs_makeMap {t : TypeId} {d : Nat} (ho : o.op = .makeMap t none) (hd : o.dst = some d) (hdk : Nat.blt d X.k = true)
    (h : ∀ g, k ((d, .o (.v (.map (some g)))) :: T) ((n, .ob g (mapO [])) :: L) (n + 1) F D) : OJs X o T L n F D k K := by
  intro Q hQ Φ hΦ a w hr
  refine Oper.wpIn_of_run (by simp [noDef, ho]) ?_
  have e1 : (execOp a.eval o).run X.P w = .ok (.value (.map (some w.heap.size))) (w.alloc (mapO [])) := by
    simp [execOp, ho, Instr.makeMap, mapO, mE]
  rw [e1]
  refine hΦ _ _ _ _ _ (h w.heap.size) _ _ ((hr.newOb (mapO [])).put (u := .o (.v (.map (some w.heap.size)))) (fun _ _ _ => rfl) (by simp [putS, hd, hdk]))
theorem ojs_insert {t : TypeId} {x y z : Operand} {u : TV} {v : Value} {j g : Nat} {ms : List (Int × Value)} {key : Int} (ho : o.op = .insert t x y z) (hd : o.dst = none) (ht : isMapK X.P t = true) (hx : evS T x = some (.o (.v (.map (some g))))) (hy : evS T y = some (.o (.v (.int .i64 key))))
    (hz : evS T z = some u) (hu : ∀ ρ, u.den ρ = v) (hj : alook L j = some (.ob g (mapO ms))) (hk : mlook ms key = none) (h : k T ((j, .ob g (mapO (ms ++ [(key, v)]))) :: L) n F D) : OJs X o T L n F D k K := by
  intro Q hQ Φ hΦ a w hr
  obtain ⟨e, ht⟩ := isMapK_spec ht
  obtain ⟨A, ρ, h0⟩ := hr.one
  have hg : w.heap[g]? = some (mapO ms) := h0.lo j _ hj
  refine Oper.wpIn_of_run (by simp [noDef, ho]) ?_
  have e1 := h0.ev hx
  have e2 := h0.ev hy
  have e3 := h0.ev hz
  simp only [TV.den, SV.den] at e1 e2
  have e4 : (execOp a.eval o).run X.P w = .ok .skip { w with heap := w.heap.setIfInBounds g (mapO (ms ++ [(key, v)])) } := by
    simp only [execOp, ho, e1, e2, e3, hu, Sem.run_bind, run_insert ht hk v hg, Result.andThen_ok, Sem.run_pure]
  rw [e4]
  have hput : a.put o.dst undef = a := by rw [hd]; rfl
  show Φ (a.put o.dst undef) _
  rw [hput]
  have hlt := lt_of_block hg
  exact hΦ _ _ _ _ _ h _ _ (hr.ob hj (by simp [hlt]) ⟨rfl, rfl, rfl, by simp, fun i _ hi => by
    show (w.heap.setIfInBounds g _)[i]? = _
    rw [Array.getElem?_setIfInBounds_ne (fun e => hi (by rw [e]))]⟩)
theorem yd_lookupF {t e : TypeId} {x y : Operand} {g : Nat} {ms : List (Int × Value)} {key : Int} {v : Value} {i : TypeInfo} (hf : objF g (mapO ms) ∈ F) (ho : o.op = .lookup t x y false) (ht : isMapI X.P t e = true) (hi : X.P.info? e = some i) (hx : evS T x = some (.o (.v (.map (some g))))) (hy : evS T y = some (.o (.v (.int .i64 key))))
    (hv : mlook ms key = some v ∨ (mlook ms key = none ∧ i.zero = some v)) : Yd X o T L F (.o (.v v)) := by
  refine ⟨by simp [noDef, ho], fun A ρ a w h0 => ?_⟩
  have e1 := h0.ev hx
  have e2 := h0.ev hy
  simp only [TV.den, SV.den] at e1 e2
  have hg : w.heap[g]? = some (mapO ms) := (h0.a3 _ hf).2
  rcases hv with hv | ⟨hv, hz⟩
  · obtain ⟨q, h1, h2⟩ := isMapI_spec ht
    have hr : (Instr.lookup t (.map (some g)) (.int .i64 key) false).run X.P w = .ok v w := by
      have hfk := findKey_int h2 key ms w
      simp only [Instr.lookup, Sem.run_bind, run_underlying h1, Result.andThen_ok, MapKept.run_getObj_map hg, Sem.run_pure, checkKey_int h2, hfk, hv]
      rfl
    simp [execOp, ho, e1, e2, hr, TV.den, SV.den]
  · have hzv : (zeroValue e).run X.P w = .ok v w := by
      simp [zeroValue, typeInfo, hi, hz]
    have hr := run_lookupM (P := X.P) ht hg hzv false (z := key) (v := v) (.inr ⟨hv, rfl⟩)
    simp [execOp, ho, e1, e2, hr, TV.den, SV.den]
theorem yd_lookupOk {t e : TypeId} {x y : Operand} {g : Nat} {ms : List (Int × Value)} {key : Int} {v : Value} {b : Bool} {i : TypeInfo} (hf : objF g (mapO ms) ∈ F) (ho : o.op = .lookup t x y true) (ht : isMapI X.P t e = true) (hi : X.P.info? e = some i) (hx : evS T x = some (.o (.v (.map (some g))))) (hy : evS T y = some (.o (.v (.int .i64 key))))
    (hv : (mlook ms key = some v ∧ b = true) ∨ (mlook ms key = none ∧ i.zero = some v ∧ b = false)) : Yd X o T L F (.t [.v v, .v (.bool b)]) := by
  refine ⟨by simp [noDef, ho], fun A ρ a w h0 => ?_⟩
  have e1 := h0.ev hx
  have e2 := h0.ev hy
  simp only [TV.den, SV.den] at e1 e2
  have hg : w.heap[g]? = some (mapO ms) := (h0.a3 _ hf).2
  rcases hv with ⟨hv, rfl⟩ | ⟨hv, hz, rfl⟩
  · obtain ⟨q, h1, h2⟩ := isMapI_spec ht
    have hr : (Instr.lookup t (.map (some g)) (.int .i64 key) true).run X.P w = .ok (.tuple #[v, .bool true]) w := by
      have hfk := findKey_int h2 key ms w
      simp only [Instr.lookup, Sem.run_bind, run_underlying h1, Result.andThen_ok, MapKept.run_getObj_map hg, Sem.run_pure, checkKey_int h2, hfk, hv]
      rfl
    simp [execOp, ho, e1, e2, hr, TV.den, SV.den, denL]
  · have hzv : (zeroValue e).run X.P w = .ok v w := by
      simp [zeroValue, typeInfo, hi, hz]
    have hr := run_lookupM (P := X.P) ht hg hzv true (z := key) (v := v) (.inr ⟨hv, rfl⟩)
    rw [hv] at hr
    simp [execOp, ho, e1, e2, hr, TV.den, SV.den, denL]
theorem cjs_litOwn {c : Code} {j m : Nat} {e : TypeId} (t : Nat) (sz : Nat) (cells : List Value) (ht : alook T t = some (.o (.s j 0 m m))) (hj : alook L j = some (.c (cells.map SV.v) e)) (hl : cells.length = m * sz) (hm : m ≤ maxLen)
    (h : ∀ g, CJs X c ((t, .o (.v (.slice (some ⟨g, 0, none⟩) m m))) :: T) ((j, .own (.slice (some ⟨g, 0, none⟩) m m) e sz m cells) :: L) n F D K) : CJs X c T L n F D K := by
  intro Q hQ a w hr
  obtain ⟨g, hr'⟩ := hr.litOwn ht hj hl hm
  exact h g Q hQ a w hr'
/-- A look into a map of the call's own. -/
theorem yd_lookupL {t : TypeId} {x y : Operand} {j g : Nat} {ms : List (Int × Value)} {key : Int} {v : Value} (hj : alook L j = some (.ob g (mapO ms))) (ho : o.op = .lookup t x y false) (ht : isMapK X.P t = true) (hx : evS T x = some (.o (.v (.map (some g))))) (hy : evS T y = some (.o (.v (.int .i64 key)))) (hv : mlook ms key = some v) (a : Act) (w : World) (hr : Rel X T L n F D a w) : (execOp a.eval o).run X.P w = .ok (.value v) w := by
  obtain ⟨e, ht⟩ := isMapK_spec ht
  obtain ⟨A, ρ, h0⟩ := hr.one
  have e1 := h0.ev hx
  have e2 := h0.ev hy
  simp only [TV.den, SV.den] at e1 e2
  have hg : w.heap[g]? = some (mapO ms) := h0.lo j _ hj
  obtain ⟨q, h1, h2⟩ := isMapI_spec ht
  have hr : (Instr.lookup t (.map (some g)) (.int .i64 key) false).run X.P w = .ok v w := by
    have hfk := findKey_int h2 key ms w
    simp only [Instr.lookup, Sem.run_bind, run_underlying h1, Result.andThen_ok, MapKept.run_getObj_map hg, Sem.run_pure, checkKey_int h2, hfk, hv]
    rfl
  simp [execOp, ho, e1, e2, hr]
theorem ojs_lookupL {t : TypeId} {x y : Operand} {j g d : Nat} {ms : List (Int × Value)} {key : Int} {v : Value} (hj : alook L j = some (.ob g (mapO ms))) (ho : o.op = .lookup t x y false) (hd : o.dst = some d) (hdk : Nat.blt d X.k = true) (ht : isMapK X.P t = true) (hx : evS T x = some (.o (.v (.map (some g))))) (hy : evS T y = some (.o (.v (.int .i64 key)))) (hv : mlook ms key = some v)
    (h : k ((d, .o (.v v)) :: T) L n F D) : OJs X o T L n F D k K := by
  intro Q hQ Φ hΦ a w hr
  refine Oper.wpIn_of_run (by simp [noDef, ho]) ?_
  rw [yd_lookupL hj ho ht hx hy hv a w hr]
  exact hΦ _ _ _ _ _ h _ w (hr.put (u := .o (.v v)) (fun _ _ _ => rfl) (by simp [putS, hd, hdk]))
end

end Go.Proofs.YthnkjgffahkecaaGreat
