/- Part 5 of the proof of LockBacks: contracts of functions that the law reaches, or the rules by which they are walked. No condition. -/
import Derived.Test.YtmhnlkakbadkgaaGreatPkad
import Derived.Test.YtmhnlkakbadkgaaGreatPkaa
import Derived.ScopeJumps
import Derived.WalkMore
namespace Go.Proofs.YtmhnlkakbadkgaaGreat
open Go.RowKit Go.Shelf
theorem PV.ren_at {r ρ : Nm} (x : PV) : x.den (fun j => ρ (r j)) = (x.ren r).den ρ := by cases x <;> rfl
theorem SV.ren_at {r ρ : Nm} (x : SV) : x.den (fun j => ρ (r j)) = (x.ren r).den ρ := by
  cases x with
  | f fn fi ca =>
    have h : ∀ l : List PV, l.map (PV.den fun j => ρ (r j)) = (l.map (PV.ren r)).map (PV.den ρ) := fun l => by
      rw [List.map_map]; exact List.map_congr_left fun p _ => PV.ren_at p
    simp only [SV.den, SV.ren, h]
  | _ => rfl
theorem denL_at {r ρ : Nm} (xs : List SV) : denL (fun j => ρ (r j)) xs = denL ρ (xs.map (SV.ren r)) := by
  simp only [denL, List.map_map]; exact List.map_congr_left fun p _ => SV.ren_at p
theorem TV.ren_at {r ρ : Nm} (x : TV) : x.den (fun j => ρ (r j)) = (x.ren r).den ρ := by
  cases x with
  | o x => exact SV.ren_at x
  | t xs => simp only [TV.den, TV.ren, denL_at]
  | g xs => simp only [TV.den, TV.ren, denL_at]
inductive XB where
  | c (cs : List SV) (t : TypeId)
  | r (cs : List Value) (t : TypeId)
def XB.den (ρ : Nm) : XB → List Value
  | .c cs _ => denL ρ cs
  | .r cs _ => cs
def XB.ty : XB → TypeId
  | .c _ t => t
  | .r _ t => t
def XB.lt (m : Nat) : XB → Bool
  | .c cs _ => cs.all (SV.lt m)
  | .r _ _ => true
def XB.lc (r : Nm) : XB → LC
  | .c cs t => .c (cs.map (SV.ren r)) t
  | .r cs t => objC cs t
def XB.lc0 : XB → LC
  | .c cs t => .c cs t
  | .r cs t => objC cs t
theorem XB.lc_holds {r ρ : Nm} {k : Nat} {w : World} (x : XB) : (x.lc r).holds ρ k w ↔ w.heap[ρ k]? = some (.cells (x.den fun j => ρ (r j)).toArray x.ty (0, 0)) := by
  cases x with
  | c cs t => simp only [XB.lc, LC.holds, XB.den, XB.ty, denL_at]
  | r cs t => exact Iff.rfl
theorem XB.lc0_holds {ρ : Nm} {k : Nat} {w : World} (x : XB) : x.lc0.holds ρ k w ↔ w.heap[ρ k]? = some (.cells (x.den ρ).toArray x.ty (0, 0)) := by
  cases x with
  | c cs t => exact Iff.rfl
  | r cs t => exact Iff.rfl
theorem XB.lc_blk {r ρ : Nm} {k : Nat} (x : XB) : (x.lc r).blk ρ k = some (ρ k) := by cases x <;> rfl
theorem XB.lc0_blk {ρ : Nm} {k : Nat} (x : XB) : x.lc0.blk ρ k = some (ρ k) := by cases x <;> rfl
abbrev OutX := TV ⊕ List PanicEntry → List XB → List Fact → Prop
def ltX (m : Nat) : TV ⊕ List PanicEntry → Bool
  | .inl u => u.lt m
  | .inr _ => true
def endX (ρ : Nm) : TV ⊕ List PanicEntry → Ending
  | .inl u => .returned (u.den ρ)
  | .inr ch => .panicked ch
structure PostX (ρ : Nm) (m : Nat) (w : World) (A : Nat → Prop) (r : TV ⊕ List PanicEntry) (Ls : List XB) (F1 : List Fact) (ρ' : Nm) (A' : Nat → Prop) (e : Ending) (w' : World) : Prop where
  ml : m ≤ Ls.length
  old : ∀ j, j < m → ρ' j = ρ j
  kp : Kp ((List.range m).map ρ) w w'
  new : ∀ j, m ≤ j → j < Ls.length → w.heap.size ≤ ρ' j
  inj : ∀ i j, i < Ls.length → j < Ls.length → ρ' i = ρ' j → i = j
  bl : ∀ j x, Ls[j]? = some x → w'.heap[ρ' j]? = some (.cells (x.den ρ').toArray x.ty (0, 0))
  lt : (Ls.all fun x => x.lt Ls.length) = true
  ltr : ltX Ls.length r = true
  en : e = endX ρ' r
  a1 : ∀ b, A' b → A b ∨ w.heap.size ≤ b
  a2 : ∀ b, A' b → b < w'.heap.size ∧ ∀ j, j < Ls.length → ρ' j ≠ b
  fs : ∀ f ∈ F1, f.h A' w'
def ResX (ρ : Nm) (m : Nat) (w : World) (A : Nat → Prop) (Out : OutX) (e : Ending) (w' : World) : Prop :=
  ∃ r Ls F1 ρ' A', Out r Ls F1 ∧ PostX ρ m w A r Ls F1 ρ' A' e w'
def Cx (P : Program) (g : FuncId) (us : List TV) (mu : List XB) (F0 : List Fact) (Out : OutX) : Prop :=
  ∀ (ρ : Nm) (A : Nat → Prop) (w : World), (∀ i j, i < mu.length → j < mu.length → ρ i = ρ j → i = j) → (∀ j x, mu[j]? = some x → w.heap[ρ j]? = some (.cells (x.den ρ).toArray x.ty (0, 0)) ∧ ¬ A (ρ j)) → (∀ b, A b → b < w.heap.size) → (∀ f ∈ F0, f.h A w) →
    Calls P g (us.map (TV.den ρ)).toArray w (ResX ρ mu.length w A Out)
def renX (ks : List Nat) (n : Nat) : Nm := fun j => match ks[j]? with
  | some k => k
  | none => n + (j - ks.length)
def muX (L : LE) (r : Nm) : Nat → List XB → Prop
  | _, [] => True
  | j, x :: rest => alook L (r j) = some (x.lc r) ∧ muX L r (j + 1) rest
theorem muX_at {L : LE} {r : Nm} : ∀ {mu : List XB} {i j : Nat} {x : XB}, muX L r i mu → mu[j]? = some x → alook L (r (i + j)) = some (x.lc r)
  | x :: rest, i, 0, y, h, hj => by cases hj; exact h.1
  | x :: rest, i, j + 1, y, h, hj => by
    have := muX_at (i := i + 1) (j := j) h.2 (by simpa using hj)
    rwa [Nat.add_assoc, Nat.add_comm 1 j] at this
def layX (r : Nm) : Nat → List XB → LE → LE
  | _, [], L => L
  | j, x :: rest, L => (r j, x.lc r) :: layX r (j + 1) rest L
theorem layX_look {r : Nm} {L : LE} : ∀ {Ls : List XB} {i k : Nat} {e : LC}, alook (layX r i Ls L) k = some e → (∃ j x, Ls[j]? = some x ∧ k = r (i + j) ∧ e = x.lc r) ∨ ((∀ j, j < Ls.length → k ≠ r (i + j)) ∧ alook L k = some e)
  | [], i, k, e, h => .inr ⟨fun j hj => absurd hj (Nat.not_lt_zero _), h⟩
  | x :: rest, i, k, e, h => by
    rw [layX, alook_cons] at h
    split at h
    · rename_i hk
      cases h
      exact .inl ⟨0, x, rfl, hk, rfl⟩
    · rename_i hk
      rcases layX_look h with ⟨j, y, h1, h2, h3⟩ | ⟨h1, h2⟩
      · exact .inl ⟨j + 1, y, by simpa using h1, by rw [h2]; congr 1; omega, h3⟩
      · refine .inr ⟨fun j hj => ?_, h2⟩
        cases j with
        | zero => exact hk
        | succ j => have := h1 j (by simpa using hj); rwa [show i + (j + 1) = i + 1 + j by omega]
section
variable {X : Fx} {o : Oper} {T : TE} {L : LE} {n : Nat} {F : List Fact} {D : DF} {K : KK} {k : KS}
def callX (X : Fx) (o : Oper) (T : TE) (L : LE) (n : Nat) (F : List Fact) (D : DF) (k : KS) (K : KK) (m : Nat) (rn : Nm) (r : TV ⊕ List PanicEntry) (Ls : List XB) (F1 : List Fact) : Prop :=
  match r with
  | .inl u => match putS X.k o.dst (u.ren rn) T with
    | some T' => k T' (layX rn 0 Ls L) (n + (Ls.length - m)) (F1 ++ F) D
    | none => False
  | .inr ch => K (.panic ch) T (layX rn 0 Ls L) (n + (Ls.length - m)) (F1 ++ F) D
theorem rel_callX {a : Act} {w : World} {g : Nat} {us : List TV} {mu : List XB} {F0 : List Fact} {Out : OutX} {ks : List Nat} {vs : Nm → List Value} (hr : Rel X T L n F D a w) (hm : mu.length = ks.length) (hmu : muX L (renX ks n) 0 mu) (hnd : ks.Nodup)
    (hvs : ∀ ρ, vs ρ = us.map (TV.den fun j => ρ (renX ks n j))) (ct : Cx X.P g us mu F0 Out) (hF0 : ∀ f ∈ F0, f ∈ F) :
    ∃ A ρ, Rel0 X T L F D A ρ a w ∧ Calls X.P g (vs ρ).toArray w fun e w' => ∃ r Ls F1 ρ', Out r Ls F1 ∧ e = endX ρ' r ∧ Rel X T (layX (renX ks n) 0 Ls L) (n + (Ls.length - ks.length)) (F1 ++ F) D a w' ∧
      ∀ u, r = .inl u → ∀ T2 d, putS X.k d (u.ren (renX ks n)) T = some T2 → Rel X T2 (layX (renX ks n) 0 Ls L) (n + (Ls.length - ks.length)) (F1 ++ F) D (a.put d (u.den ρ')) w' := by
  obtain ⟨hkb, ρ0, A, hr0⟩ := hr
  have h0 := hr0 ρ0 (fun _ _ => rfl)
  refine ⟨A, ρ0, h0, ?_⟩
  obtain ⟨m, hmm⟩ : ∃ m, m = ks.length := ⟨_, rfl⟩
  have rks : ∀ j, j < m → ∃ h : j < ks.length, renX ks n j = ks[j] := fun j hj => by
    have h : j < ks.length := by omega
    exact ⟨h, by simp only [renX, List.getElem?_eq_getElem h]⟩
  have rnew : ∀ j, m ≤ j → renX ks n j = n + (j - m) := fun j hj => by
    have h : ks.length ≤ j := by omega
    simp only [renX, List.getElem?_eq_none h, hmm]
  have at0 : ∀ j x, mu[j]? = some x → alook L (renX ks n j) = some (x.lc (renX ks n)) := fun j x hx => by have := muX_at hmu hx; rwa [Nat.zero_add] at this
  have at1 : ∀ j, j < m → ∃ x, mu[j]? = some x ∧ alook L (renX ks n j) = some (x.lc (renX ks n)) := fun j hj => by
    have h : j < mu.length := by omega
    exact ⟨mu[j], List.getElem?_eq_getElem h, at0 j _ (List.getElem?_eq_getElem h)⟩
  have klt : ∀ j, j < m → renX ks n j < n := fun j hj => by obtain ⟨x, _, h⟩ := at1 j hj; exact hkb _ _ h
  have rinj : ∀ i j, i < m → j < m → renX ks n i = renX ks n j → i = j := fun i j hi hj e => by
    obtain ⟨h1, e1⟩ := rks i hi
    obtain ⟨h2, e2⟩ := rks j hj
    rw [e1, e2] at e
    exact (List.getElem_inj hnd).1 e
  rw [hvs ρ0]
  have hCm := ct (fun j => ρ0 (renX ks n j)) A w (fun i j hi hj e => by
      rw [hm, ← hmm] at hi hj
      obtain ⟨x, _, hx⟩ := at1 i hi
      obtain ⟨y, _, hy⟩ := at1 j hj
      exact rinj i j hi hj (h0.ds _ _ _ _ (ρ0 (renX ks n i)) hx hy (XB.lc_blk _) (by rw [XB.lc_blk]; exact congrArg some e.symm)))
    (fun j x hx => by
      have hl := at0 j x hx
      refine ⟨(XB.lc_holds x).1 (h0.lo _ _ hl), fun hA => (h0.a2 _ hA).2 _ _ hl (XB.lc_blk _)⟩)
    (fun b hb => (h0.a2 b hb).1) (fun f hf => h0.a3 f (hF0 f hf))
  refine hCm.mono ?_
  rintro e w' ⟨r, Ls, F1, ρ', A', hout, P⟩
  rw [hm, ← hmm] at P
  obtain ⟨ρ1, hρ1⟩ : ∃ ρ1 : Nm, ρ1 = fun k => if k < n then ρ0 k else ρ' (m + (k - n)) := ⟨_, rfl⟩
  have nm : ∀ j, ρ' j = ρ1 (renX ks n j) := fun j => by
    by_cases hj : j < m
    · rw [P.old j hj, hρ1]; simp only [if_pos (klt j hj)]
    · have h := rnew j (by omega)
      rw [hρ1, h]; simp only [if_neg (show ¬ n + (j - m) < n by omega)]
      congr 1; omega
  obtain ⟨n2, hn2⟩ : ∃ n2, n2 = n + (Ls.length - m) := ⟨_, rfl⟩
  have ml := P.ml
  have rlt : ∀ j, j < Ls.length → renX ks n j < n2 := fun j hj => by
    by_cases h : j < m
    · have := klt j h; omega
    · rw [rnew j (by omega)]; omega
  have rinj2 : ∀ i j, i < Ls.length → j < Ls.length → renX ks n i = renX ks n j → i = j := fun i j hi hj e => by
    by_cases h1 : i < m
    · by_cases h2 : j < m
      · exact rinj i j h1 h2 e
      · have := klt i h1; have := rnew j (by omega); omega
    · by_cases h2 : j < m
      · have := klt j h2; have := rnew i (by omega); omega
      · have := rnew i (by omega); have := rnew j (by omega); omega
  have look : ∀ k e, alook (layX (renX ks n) 0 Ls L) k = some e → (∃ j x, Ls[j]? = some x ∧ j < Ls.length ∧ k = renX ks n j ∧ e = x.lc (renX ks n)) ∨ ((∀ j, j < m → k ≠ renX ks n j) ∧ alook L k = some e) := by
    intro k e hke
    rcases layX_look hke with ⟨j, x, h1, h2, h3⟩ | ⟨h1, h2⟩
    · exact .inl ⟨j, x, h1, (List.getElem?_eq_some_iff.1 h1).1, by rw [h2, Nat.zero_add], h3⟩
    · exact .inr ⟨fun j hj => by have := h1 j (by omega); rwa [Nat.zero_add] at this, h2⟩
  have core : ∀ ρ : Nm, (∀ j, j < n2 → ρ j = ρ1 j) → Rel0 X T (layX (renX ks n) 0 Ls L) (F1 ++ F) D (fun b => A b ∨ A' b) ρ a w' ∧ ∀ j, j < Ls.length → ρ (renX ks n j) = ρ' j := by
    intro ρ hρ
    have hρ0 : ∀ j, j < n → ρ j = ρ0 j := fun j hj => by rw [hρ j (by omega), hρ1]; simp only [if_pos hj]
    have hnm : ∀ j, j < Ls.length → ρ (renX ks n j) = ρ' j := fun j hj => by rw [hρ _ (rlt j hj), nm]
    have h1 := hr0 ρ hρ0
    have notM : ∀ b, b ∈ (List.range m).map (fun j => ρ0 (renX ks n j)) → ∃ j, j < m ∧ b = ρ (renX ks n j) := fun b hb => by
      obtain ⟨j, hj, rfl⟩ := List.mem_map.1 hb
      rw [List.mem_range] at hj
      exact ⟨j, hj, (hρ0 _ (klt j hj)).symm⟩
    have oldb : ∀ k e, (∀ j, j < m → k ≠ renX ks n j) → alook L k = some e → ∀ b, e.blk ρ k = some b → b < w.heap.size ∧ w'.heap[b]? = w.heap[b]? := by
      intro k e hk hke b hb
      have hlt := LC.lt (h1.lo k e hke) hb
      refine ⟨hlt, P.kp.keep b hlt fun hm => ?_⟩
      obtain ⟨j, hj, rfl⟩ := notM b hm
      obtain ⟨x, _, hx⟩ := at1 j hj
      exact hk j hj (h1.ds k _ e _ _ hke hx hb (XB.lc_blk _))
    have Aold : ∀ b, A b → w'.heap[b]? = w.heap[b]? := by
      intro b hb
      refine P.kp.keep b (h1.a2 b hb).1 fun hm => ?_
      obtain ⟨j, hj, rfl⟩ := notM b hm
      obtain ⟨x, _, hx⟩ := at1 j hj
      exact (h1.a2 _ hb).2 _ _ hx (XB.lc_blk _)
    have den : ∀ x, x ∈ Ls → x.den (fun j => ρ (renX ks n j)) = x.den ρ' := by
      intro x hx
      have hl := List.all_eq_true.1 P.lt x hx
      cases x with
      | r cs t => rfl
      | c cs t =>
        refine map_den_congr (p := SV.lt Ls.length) hl fun s hs => ?_
        have := SV.ren_den (r := fun j => j) (ρ := ρ') (ρ' := fun j => ρ (renX ks n j)) (n := Ls.length) (fun j hj => hnm j hj) hs
        rw [this]
        exact congrArg (SV.den ρ') idN_ren_sv
    refine ⟨⟨⟨h1.tm, fun k e hke => ?_, fun f hf => ?_⟩, h1.sz, h1.df, ?_, fun k e b hke hb => ?_, fun k1 k2 e1 e2 b hk1 hk2 hb1 hb2 => ?_, fun b hb => ?_, fun b hb => ?_, h1.mb⟩, hnm⟩
    · rcases look k e hke with ⟨j, x, hx, hj, rfl, rfl⟩ | ⟨hk, h2⟩
      · rw [XB.lc_holds, den x (List.mem_of_getElem? hx), hnm j hj]
        exact P.bl j x hx
      · exact LC.keep (h1.lo k e h2) fun b hb => (oldb k e hk h2 b hb).2
    · rcases List.mem_append.1 hf with hf | hf
      · exact f.ok (fun b hb => .inr hb) (fun _ _ => rfl) (Grow.refl _) (P.fs f hf)
      · exact f.ok (fun b hb => .inl hb) (fun b hb => Aold b hb) P.kp.grow (h1.a3 f hf)
    · refine ⟨P.kp.os.trans h1.kp.os, P.kp.tape.trans h1.kp.tape, P.kp.output.trans h1.kp.output, Nat.le_trans h1.kp.size P.kp.size, fun b hb hm => ?_⟩
      rw [P.kp.keep b (Nat.lt_of_lt_of_le hb h1.kp.size) fun hm2 => ?_]
      · exact h1.kp.keep b hb hm
      · obtain ⟨j, hj, rfl⟩ := notM b hm2
        obtain ⟨x, _, hx⟩ := at1 j hj
        rcases h1.nw _ _ _ hx (XB.lc_blk _) with h2 | h2
        · exact hm h2
        · omega
    · rcases look k e hke with ⟨j, x, hx, hj, rfl, rfl⟩ | ⟨hk, h2⟩
      · rw [XB.lc_blk, Option.some.injEq] at hb
        subst hb
        by_cases h : j < m
        · obtain ⟨y, _, hy⟩ := at1 j h
          exact h1.nw _ _ _ hy (XB.lc_blk _)
        · rw [hnm j hj]
          exact .inr (Nat.le_trans h1.kp.size (P.new j (by omega) hj))
      · exact h1.nw k e b h2 hb
    · have cross : ∀ k e j x, Ls[j]? = some x → j < Ls.length → (∀ j, j < m → k ≠ renX ks n j) → alook L k = some e → e.blk ρ k = some (ρ (renX ks n j)) → False := by
        intro k e j x hx hj hk hke hb
        have hlt := LC.lt (h1.lo k e hke) hb
        by_cases h : j < m
        · obtain ⟨y, _, hy⟩ := at1 j h
          exact hk j h (h1.ds k _ e _ _ hke hy hb (XB.lc_blk _))
        · rw [hnm j hj] at hlt
          have := P.new j (by omega) hj
          omega
      rcases look k1 e1 hk1 with ⟨j, x, hx, hj, rfl, rfl⟩ | ⟨hk, h2⟩
      · rcases look k2 e2 hk2 with ⟨j', x', hx', hj', rfl, rfl⟩ | ⟨hk', h2'⟩
        · rw [XB.lc_blk, Option.some.injEq] at hb1 hb2
          rw [hnm j hj] at hb1
          rw [hnm j' hj'] at hb2
          rw [P.inj j j' hj hj' (hb1.trans hb2.symm)]
        · rw [XB.lc_blk, Option.some.injEq] at hb1
          subst hb1
          exact (cross k2 e2 j x hx hj hk' h2' hb2).elim
      · rcases look k2 e2 hk2 with ⟨j', x', hx', hj', rfl, rfl⟩ | ⟨hk', h2'⟩
        · rw [XB.lc_blk, Option.some.injEq] at hb2
          subst hb2
          exact (cross k1 e1 j' x' hx' hj' hk h2 hb1).elim
        · exact h1.ds k1 k2 e1 e2 b h2 h2' hb1 hb2
    · rcases hb with hb | hb
      · exact h1.a1 b hb
      · rcases P.a1 b hb with h | h
        · exact h1.a1 b h
        · exact .inr (Nat.le_trans h1.kp.size h)
    · rcases hb with hb | hb
      · refine ⟨Nat.lt_of_lt_of_le (h1.a2 b hb).1 P.kp.size, fun k e hke hbk => ?_⟩
        rcases look k e hke with ⟨j, x, hx, hj, rfl, rfl⟩ | ⟨hk, h2⟩
        · rw [XB.lc_blk, Option.some.injEq] at hbk
          subst hbk
          by_cases h : j < m
          · obtain ⟨y, _, hy⟩ := at1 j h
            exact (h1.a2 _ hb).2 _ _ hy (XB.lc_blk _)
          · have := P.new j (by omega) hj
            have := (h1.a2 _ hb).1
            rw [hnm j hj] at this
            omega
        · exact (h1.a2 b hb).2 k e h2 hbk
      · refine ⟨(P.a2 b hb).1, fun k e hke hbk => ?_⟩
        rcases look k e hke with ⟨j, x, hx, hj, rfl, rfl⟩ | ⟨hk, h2⟩
        · rw [XB.lc_blk, Option.some.injEq, hnm j hj] at hbk
          exact (P.a2 b hb).2 j hj hbk
        · rcases P.a1 b hb with h | h
          · exact (h1.a2 b h).2 k e h2 hbk
          · have := LC.lt (h1.lo k e h2) hbk; omega
  have kb : ∀ k e, alook (layX (renX ks n) 0 Ls L) k = some e → k < n2 := by
    intro k e hke
    rcases look k e hke with ⟨j, x, hx, hj, rfl, rfl⟩ | ⟨_, h2⟩
    · exact rlt j hj
    · have := hkb k e h2; omega
  subst hn2
  rw [← hmm]
  refine ⟨r, Ls, F1, ρ', hout, P.en, ⟨kb, ρ1, _, fun ρ hρ => (core ρ hρ).1⟩, ?_⟩
  rintro u rfl T2 d hp
  refine ⟨kb, ρ1, fun b => A b ∨ A' b, fun ρ hρ => ?_⟩
  obtain ⟨h1, h2⟩ := core ρ hρ
  have hv : u.den ρ' = (u.ren (renX ks n)).den ρ := by
    rw [← TV.ren_at]
    have hu : u.lt Ls.length = true := P.ltr
    have h3 : ∀ s : SV, s.lt Ls.length = true → s.den ρ' = s.den (fun j => ρ (renX ks n j)) := fun s hs => by
      have := SV.ren_den (r := fun j => j) (ρ := ρ') (ρ' := fun j => ρ (renX ks n j)) (n := Ls.length) (fun j hj => h2 j hj) hs
      rw [this]
      exact (congrArg (SV.den ρ') idN_ren_sv).symm
    cases u with
    | o x => exact h3 x hu
    | t xs => simp only [TV.den, denL]; rw [map_den_congr (p := SV.lt Ls.length) hu h3]
    | g xs => simp only [TV.den, denL]; rw [map_den_congr (p := SV.lt Ls.length) hu h3]
  obtain ⟨⟨e1, e2⟩, e3⟩ := putS_tm hp h1.sz h1.tm hv
  exact ⟨⟨e3, h1.lo, h1.a3⟩, e1, by rw [e2]; exact h1.df, h1.kp, h1.nw, h1.ds, h1.a1, h1.a2, h1.mb⟩
theorem ojs_callX {c : Call} {f : Operand} {g : Nat} {fi ca : List PV} {us0 us : List TV} {mu : List XB} {F0 : List Fact} {Out : OutX} (ks : List Nat) (ho : o.op = .call c) (hc : c.callee = .value f) (hf : calS T f = some (g, fi, ca)) (hus : argS T c.args.toList = some us0) (hfn : alook X.tab.fn g = some ())
    (hargs : argU fi us0 ca = us.map (TV.ren (renX ks n))) (hm : mu.length = ks.length) (hmu : muX L (renX ks n) 0 mu) (hnd : ks.Nodup) (ct : Cx X.P g us mu F0 Out) (hF0 : ∀ f ∈ F0, f ∈ F)
    (h : ∀ r Ls F1, Out r Ls F1 → callX X o T L n F D k K ks.length (renX ks n) r Ls F1) : OJs X o T L n F D k K := by
  intro Q hQ Φ hΦ a w hr
  obtain ⟨A, ρ0, h0, hCm⟩ := rel_callX (vs := fun ρ => argV ρ fi us0 ca) hr hm hmu hnd (fun ρ => by rw [← argU_den, hargs, List.map_map]; exact List.map_congr_left fun u _ => (TV.ren_at u).symm) ct hF0
  refine Oper.wpIn_of_run (by simp [noDef, ho]) ?_
  rw [call_run h0.toVw ho hc hf hus hfn]
  refine ⟨fun hd => by simp [Fx.fe, Fence.wide] at hd, ?_⟩
  refine CallsIn.mono (show CallsIn X.fe (X.nn - 1) X.P g (argV ρ0 fi us0 ca).toArray w _ from ⟨trivial, ((callsIn_wide (n := X.nn - 1)).2 hCm).2⟩) ?_
  rintro e w' ⟨r, Ls, F1, ρ', hout, rfl, rel, relp⟩
  have hk := h r Ls F1 hout
  cases r with
  | inl u =>
    simp only [callX] at hk
    split at hk
    · rename_i T' hp
      exact hΦ _ _ _ _ _ hk _ w' (relp u rfl T' o.dst hp)
    · exact hk.elim
  | inr ch => exact hQ _ _ _ _ _ _ hk a w' rel
end
def lay0 : Nat → List XB → LE
  | _, [] => []
  | j, x :: rest => (j, x.lc0) :: lay0 (j + 1) rest
theorem lay0_look : ∀ {mu : List XB} {i k : Nat} {e : LC}, alook (lay0 i mu) k = some e → ∃ j x, k = i + j ∧ mu[j]? = some x ∧ e = x.lc0
  | x :: rest, i, k, e, h => by
    rw [lay0, alook_cons] at h
    split at h
    · rename_i hk
      cases h
      exact ⟨0, x, by omega, rfl, rfl⟩
    · obtain ⟨j, y, h1, h2, h3⟩ := lay0_look h
      exact ⟨j + 1, y, by omega, by simpa using h2, h3⟩
section
variable {X : Fx} {T : TE} {L : LE} {n : Nat} {F : List Fact} {D : DF}
def EndX (ρ : Nm) (m : Nat) (X : Fx) (res : List ResultVar) (Out : OutX) (T : TE) (L : LE) (n : Nat) (F : List Fact) (D : DF) : Prop :=
  ∀ a w, Rel X T L n F D a w → a.defers = [] ∧ ∀ fn : Func, fn.results.toList = res → ∃ v, (results fn a.tmps).run X.P w = .ok v w ∧ ResX ρ m X.w0 X.A0 Out (.returned v) w
def EndPX (ρ : Nm) (m : Nat) (X : Fx) (ch : List PanicEntry) (Out : OutX) (T : TE) (L : LE) (n : Nat) (F : List Fact) (D : DF) : Prop :=
  ∀ a w, Rel X T L n F D a w → a.defers = [] ∧ ResX ρ m X.w0 X.A0 Out (.panicked ch) w
def endKX (ρ : Nm) (m : Nat) (X : Fx) (res : List ResultVar) (Out : OutX) : KK := fun e T L n F D => match e with
  | .normal => EndX ρ m X res Out T L n F D
  | .ret => EndX ρ m X res Out T L n F D
  | .panic ch => EndPX ρ m X ch Out T L n F D
  | _ => False
theorem postX_of {a : Act} {w : World} {A : Nat → Prop} {ρ ρc : Nm} {m : Nat} {ks : List Nat} {Ls : List XB} {F1 : List Fact} {r : TV ⊕ List PanicEntry} (h0 : Rel0 X T L F D A ρc a w) (hM : X.M = (List.range m).map ρ ∧ X.N = (List.range m).map ρ) (hm : ks.take m = List.range m) (hl : Ls.length = ks.length) (hnd : ks.Nodup)
    (hmu : muX L (renX ks 0) 0 Ls) (hlt : (Ls.all fun x => x.lt Ls.length) = true) (hltr : ltX Ls.length r = true) (hF : ∀ f ∈ F1, f ∈ F) : PostX ρ m X.w0 X.A0 r Ls F1 (fun j => ρc (renX ks 0 j)) A (endX (fun j => ρc (renX ks 0 j)) r) w := by
  have hml : m ≤ ks.length := by have := congrArg List.length hm; simp at this; omega
  have at0 : ∀ j x, Ls[j]? = some x → alook L (renX ks 0 j) = some (x.lc (renX ks 0)) := fun j x hx => by have := muX_at hmu hx; rwa [Nat.zero_add] at this
  have at1 : ∀ j, j < Ls.length → ∃ x, Ls[j]? = some x ∧ alook L (renX ks 0 j) = some (x.lc (renX ks 0)) := fun j h => ⟨Ls[j], List.getElem?_eq_getElem h, at0 j _ (List.getElem?_eq_getElem h)⟩
  have rks : ∀ j (h : j < ks.length), renX ks 0 j = ks[j] := fun j h => by simp only [renX, List.getElem?_eq_getElem h]
  have low : ∀ j, j < m → renX ks 0 j = j := fun j hj => by
    rw [rks j (by omega)]
    have h1 : (ks.take m)[j]? = some ks[j] := by rw [List.getElem?_take_of_lt hj, List.getElem?_eq_getElem (by omega)]
    rw [hm, List.getElem?_range hj] at h1
    exact (Option.some.inj h1).symm
  have own : ∀ j, j < m → ρc j = ρ j := fun j hj => h0.mb j (ρ j) (by rw [hM.2]; simp [hj])
  have big : ∀ j (h : j < ks.length), m ≤ j → X.w0.heap.size ≤ ρc (renX ks 0 j) := by
    intro j h hj
    obtain ⟨x, _, hx⟩ := at1 j (by omega)
    rcases h0.nw _ _ _ hx (XB.lc_blk _) with h1 | h1
    · rw [hM.1] at h1
      obtain ⟨i, hi, e⟩ := List.mem_map.1 h1
      rw [List.mem_range] at hi
      obtain ⟨y, _, hy⟩ := at1 i (by omega)
      rw [low i hi] at hy
      have := h0.ds _ _ _ _ _ hx hy (XB.lc_blk _) (by rw [XB.lc_blk, own i hi, e])
      rw [rks j h] at this
      have h2 : ks[i]'(by omega) = i := by rw [← rks i (by omega)]; exact low i hi
      have h3 : ks[j] = ks[i]'(by omega) := by rw [h2]; exact this
      have := (List.getElem_inj hnd).1 h3
      omega
    · exact h1
  refine ⟨by omega, fun j hj => by rw [low j hj]; exact own j hj, by rw [← hM.1]; exact h0.kp, fun j h1 h2 => big j (by omega) h1, fun i j hi hj e => ?_, fun j x hx => ?_, hlt, hltr, rfl, h0.a1, fun b hb => ⟨(h0.a2 b hb).1, fun j hj e => ?_⟩, fun f hf => h0.a3 f (hF f hf)⟩
  · obtain ⟨x, _, hx⟩ := at1 i hi
    obtain ⟨y, _, hy⟩ := at1 j hj
    have := h0.ds _ _ _ _ _ hx hy (XB.lc_blk _) (by rw [XB.lc_blk, e])
    rw [rks i (by omega), rks j (by omega)] at this
    exact (List.getElem_inj hnd).1 this
  · exact (XB.lc_holds x).1 (h0.lo _ _ (at0 j x hx))
  · obtain ⟨x, _, hx⟩ := at1 j hj
    exact (h0.a2 b hb).2 _ _ hx (by rw [XB.lc_blk]; exact congrArg some e)
theorem endX_ok {ρ : Nm} {m : Nat} {res : List ResultVar} {Out : OutX} {us : List TV} {u : TV} (ks : List Nat) (u' : TV) (Ls : List XB) (F1 : List Fact) (hres : resS X.tab T L res = some us) (hu : retS us = some u) (hu' : u = u'.ren (renX ks 0)) (hD : D = fun _ => []) (hM : X.M = (List.range m).map ρ ∧ X.N = (List.range m).map ρ)
    (hm : ks.take m = List.range m) (hl : Ls.length = ks.length) (hnd : ks.Nodup) (hmu : muX L (renX ks 0) 0 Ls) (hlt : (Ls.all fun x => x.lt Ls.length) = true) (hltr : u'.lt Ls.length = true) (hout : Out (.inl u') Ls F1) (hF : ∀ f ∈ F1, f ∈ F) : EndX ρ m X res Out T L n F D := by
  intro a w hr
  obtain ⟨A, ρc, h0⟩ := hr.one
  refine ⟨by rw [h0.df, hD], fun fn hfn => ⟨_, results_run h0.toVw (by rw [hfn]; exact hres), .inl u', Ls, F1, fun j => ρc (renX ks 0 j), A, hout, ?_⟩⟩
  have := postX_of (r := .inl u') h0 hM hm hl hnd hmu hlt hltr hF
  have e : retV ρc us = u'.den (fun j => ρc (renX ks 0 j)) := by rw [retS_den hu, hu']; exact (TV.ren_at u').symm
  rw [e]
  exact this
theorem endPX_ok {ρ : Nm} {m : Nat} {ch : List PanicEntry} {Out : OutX} (ks : List Nat) (Ls : List XB) (F1 : List Fact) (hD : D = fun _ => []) (hM : X.M = (List.range m).map ρ ∧ X.N = (List.range m).map ρ)
    (hm : ks.take m = List.range m) (hl : Ls.length = ks.length) (hnd : ks.Nodup) (hmu : muX L (renX ks 0) 0 Ls) (hlt : (Ls.all fun x => x.lt Ls.length) = true) (hout : Out (.inr ch) Ls F1) (hF : ∀ f ∈ F1, f ∈ F) : EndPX ρ m X ch Out T L n F D := by
  intro a w hr
  obtain ⟨A, ρc, h0⟩ := hr.one
  exact ⟨by rw [h0.df, hD], .inr ch, Ls, F1, _, A, hout, postX_of (r := .inr ch) h0 hM hm hl hnd hmu hlt rfl hF⟩
end
theorem cx_of {P : Program} {tab : Tab} {ok : tab.Ok P} {g : Nat} {fn : Func} {body : Code} {us : List TV} {mu : List XB} {F0 : List Fact} {Out : OutX} {k : Nat} (hf : P.funcs[g]? = some fn) (hk : fn.ntmps = k) (hb : fn.body = some body) (hul : Nat.ble us.length k = true) (hlt : (us.all fun u => u.lt mu.length) = true) (hlm : (mu.all fun x => x.lt mu.length) = true)
    (h : ∀ ρ w0 A0, sx ⟨P, tab, ok, none, 8, k, w0, A0, (List.range mu.length).map ρ, (List.range mu.length).map ρ⟩ body (argT 0 us) (lay0 0 mu) mu.length F0 (fun _ => []) (endKX ρ mu.length ⟨P, tab, ok, none, 8, k, w0, A0, (List.range mu.length).map ρ, (List.range mu.length).map ρ⟩ fn.results.toList Out)) : Cx P g us mu F0 Out := by
  intro ρ A w hinj hmu hA hF
  refine (callsIn_wide (n := 8)).1 (callsIn_of_wp hf hb trivial ?_ rfl)
  rw [hk]
  have hk2 : us.length ≤ k := by rwa [Nat.ble_eq] at hul
  have hbeg : Rel ⟨P, tab, ok, none, 8, k, w, A, (List.range mu.length).map ρ, (List.range mu.length).map ρ⟩ (argT 0 us) (lay0 0 mu) mu.length F0 (fun _ => []) { tmps := (us.map (TV.den ρ)).toArray ++ Array.replicate (k - (us.map (TV.den ρ)).toArray.size) undef, defers := [] } w := by
    have klt : ∀ j e, alook (lay0 0 mu) j = some e → j < mu.length ∧ ∃ x, mu[j]? = some x ∧ e = x.lc0 := fun j e h => by
      obtain ⟨i, x, h1, h2, h3⟩ := lay0_look h
      rw [Nat.zero_add] at h1
      subst h1
      exact ⟨(List.getElem?_eq_some_iff.1 h2).1, x, h2, h3⟩
    refine ⟨fun j e h => (klt j e h).1, ρ, A, fun ρ1 hρ1 => ?_⟩
    have sv : ∀ s : SV, s.lt mu.length = true → s.den ρ1 = s.den ρ := fun s hs => by
      rw [SV.ren_den (r := fun j => j) (ρ := ρ) (n := mu.length) hρ1 hs]
      exact congrArg (SV.den ρ) idN_ren_sv
    have tv : ∀ u : TV, u.lt mu.length = true → u.den ρ1 = u.den ρ := fun u hu => by
      cases u with
      | o x => exact sv x hu
      | t xs => simp only [TV.den, denL]; rw [map_den_congr (p := SV.lt mu.length) hu sv]
      | g xs => simp only [TV.den, denL]; rw [map_den_congr (p := SV.lt mu.length) hu sv]
    have xb : ∀ x : XB, x.lt mu.length = true → x.den ρ1 = x.den ρ := fun x hx => by
      cases x with
      | r cs t => rfl
      | c cs t => exact map_den_congr (p := SV.lt mu.length) hx sv
    have hxl : ∀ (j : Nat) x, mu[j]? = some x → x.lt mu.length = true := fun j x hx => List.all_eq_true.1 hlm x (List.mem_of_getElem? hx)
    refine ⟨⟨fun t x hx => ?_, fun j e hj => ?_, hF⟩, by simp; omega, rfl, Kp.refl _ _, fun j e b hj hb => ?_, fun j j' e e' b hj hj' hb hb' => ?_, fun b hb => .inl hb, fun b hb => ⟨hA b hb, fun j e hj hbk => ?_⟩, fun i b hi => ?_⟩
    · obtain ⟨j, rfl, hj⟩ := argT_look hx
      have h1 : (us.map (TV.den ρ))[j]? = some (x.den ρ1) := by
        rw [tv x (List.all_eq_true.1 hlt x (List.mem_of_getElem? hj))]
        simp [hj]
      have hjl := (List.getElem?_eq_some_iff.1 h1).1
      rw [Nat.zero_add, Array.getD_eq_getD_getElem?, Array.getElem?_append_left (by simpa using hjl)]
      simp [h1]
    · obtain ⟨hjl, x, hx, rfl⟩ := klt j e hj
      rw [XB.lc0_holds, xb x (hxl j x hx), hρ1 j hjl]
      exact (hmu j x hx).1
    · obtain ⟨hjl, x, hx, rfl⟩ := klt j e hj
      rw [XB.lc0_blk, Option.some.injEq, hρ1 j hjl] at hb
      exact .inl (List.mem_map.2 ⟨j, List.mem_range.2 hjl, hb⟩)
    · obtain ⟨hjl, x, hx, rfl⟩ := klt j e hj
      obtain ⟨hjl', x', hx', rfl⟩ := klt j' e' hj'
      rw [XB.lc0_blk, Option.some.injEq, hρ1 j hjl] at hb
      rw [XB.lc0_blk, Option.some.injEq, hρ1 j' hjl'] at hb'
      exact hinj j j' hjl hjl' (hb.trans hb'.symm)
    · obtain ⟨hjl, x, hx, rfl⟩ := klt j e hj
      rw [XB.lc0_blk, Option.some.injEq, hρ1 j hjl] at hbk
      exact (hmu j x hx).2 (hbk ▸ hb)
    · simp only [List.getElem?_map, Option.map_eq_some_iff] at hi
      obtain ⟨j, hj, rfl⟩ := hi
      obtain ⟨g1, g2⟩ := List.getElem?_eq_some_iff.1 hj
      simp at g1 g2
      subst g2
      exact hρ1 i g1
  refine sx_sound (h ρ w A) _ ?_ _ _ hbeg
  intro e T L n F D hK a w' hr
  cases e with
  | normal =>
    obtain ⟨h1, h2⟩ := hK a w' hr
    obtain ⟨v, h3, h4⟩ := h2 fn rfl
    exact ⟨h1, v, h3, h4⟩
  | ret =>
    obtain ⟨h1, h2⟩ := hK a w' hr
    obtain ⟨v, h3, h4⟩ := h2 fn rfl
    exact ⟨h1, v, h3, h4⟩
  | panic ch => exact hK a w' hr
  | exit id => exact hK.elim
  | goto l => exact hK.elim
  | outgrown => exact hK.elim
end Go.Proofs.YtmhnlkakbadkgaaGreat
namespace Go.Proofs.YtmhnlkakbadkgaaGreat
open Go.RowKit
theorem wp_scope_fwd {P : Program} {a : Act} {w : World} {Q : Exit → Act → World → Prop} {c rest : Code} (l : Nat) (hf : findLabel c l = some rest)
    (h : c.wp P (Exit.jump l (fun a w => rest.wp P (Exit.noGoto Q) a w) Q) a w) : (Code.scope c).wp P Q a w :=
  wp_scope_jumps l (fun a w => rest.wp P (Exit.noGoto Q) a w) (fun _ _ => 0) hf h fun a w hJ =>
    Code.wp_mono (fun e a' w' q => by cases e <;> first | exact q | exact q.elim) hJ
end Go.Proofs.YtmhnlkakbadkgaaGreat
