/- A symbolic run: loops; reads of facts; sums. No program is in sight. -/
import Derived.Test.YtnkpmeplapkobaaEngF
namespace Go.Proofs.Ytnkpmeplapkobaa
open Go.RowKit Go.Shelf

/-! ### Weakening -/
def PV.lt (n : Nat) : PV → Bool
  | .v _ => true
  | .p k _ => Nat.blt k n
def SV.lt (n : Nat) : SV → Bool
  | .v _ => true
  | .p k _ => Nat.blt k n
  | .s k _ _ _ => Nat.blt k n
  | .f _ fi ca => fi.all (PV.lt n) && ca.all (PV.lt n)
def TV.lt (n : Nat) : TV → Bool
  | .o x => x.lt n
  | .t xs => xs.all (SV.lt n)
  | .g xs => xs.all (SV.lt n)
def LC.lt' (n : Nat) : LC → Bool
  | .c cs _ => cs.all (SV.lt n)
  | _ => true
def PV.ren (r : Nm) : PV → PV
  | .v x => .v x
  | .p k o => .p (r k) o
def SV.ren (r : Nm) : SV → SV
  | .v x => .v x
  | .p k o => .p (r k) o
  | .s k o l c => .s (r k) o l c
  | .f fn fi ca => .f fn (fi.map (PV.ren r)) (ca.map (PV.ren r))
def TV.ren (r : Nm) : TV → TV
  | .o x => .o (x.ren r)
  | .t xs => .t (xs.map (SV.ren r))
  | .g xs => .g (xs.map (SV.ren r))
def LC.ren (r : Nm) : LC → LC
  | .c cs t => .c (cs.map (SV.ren r)) t
  | e => e
theorem PV.ren_den {r ρ ρ' : Nm} {n : Nat} (h : ∀ j, j < n → ρ' j = ρ (r j)) {x : PV} (hx : x.lt n = true) : x.den ρ' = (x.ren r).den ρ := by
  cases x with
  | v x => rfl
  | p k o => simp only [PV.lt, Nat.blt_eq] at hx; simp [PV.den, PV.ren, h k hx]
theorem map_den_congr {α : Type} {f g : α → Value} {xs : List α} {p : α → Bool} (hx : xs.all p = true) (h : ∀ x, p x = true → f x = g x) : xs.map f = xs.map g :=
  List.map_congr_left fun x hm => h x (List.all_eq_true.1 hx x hm)
theorem SV.ren_den {r ρ ρ' : Nm} {n : Nat} (h : ∀ j, j < n → ρ' j = ρ (r j)) {x : SV} (hx : x.lt n = true) : x.den ρ' = (x.ren r).den ρ := by
  cases x with
  | v x => rfl
  | p k o => simp only [SV.lt, Nat.blt_eq] at hx; simp [SV.den, SV.ren, h k hx]
  | s k o l c => simp only [SV.lt, Nat.blt_eq] at hx; simp [SV.den, SV.ren, h k hx]
  | f fn fi ca =>
    simp only [SV.lt, Bool.and_eq_true] at hx
    simp only [SV.den, SV.ren, List.map_map]
    rw [map_den_congr hx.1 (g := PV.den ρ ∘ PV.ren r) fun x h1 => PV.ren_den h h1, map_den_congr hx.2 (g := PV.den ρ ∘ PV.ren r) fun x h1 => PV.ren_den h h1]
theorem denL_ren {r ρ ρ' : Nm} {n : Nat} (h : ∀ j, j < n → ρ' j = ρ (r j)) {xs : List SV} (hx : xs.all (SV.lt n) = true) : denL ρ' xs = denL ρ (xs.map (SV.ren r)) := by
  simp only [denL, List.map_map]
  exact map_den_congr hx fun x h1 => SV.ren_den h h1
theorem TV.ren_den {r ρ ρ' : Nm} {n : Nat} (h : ∀ j, j < n → ρ' j = ρ (r j)) {x : TV} (hx : x.lt n = true) : x.den ρ' = (x.ren r).den ρ := by
  cases x with
  | o x => exact SV.ren_den h hx
  | t xs => simp only [TV.den, TV.ren, denL_ren h hx]
  | g xs => simp only [TV.den, TV.ren, denL_ren h hx]
theorem LC.ren_holds {r ρ ρ' : Nm} {n k : Nat} {w : World} (h : ∀ j, j < n → ρ' j = ρ (r j)) {e : LC} (hx : e.lt' n = true) (hk : k < n) (he : (e.ren r).holds ρ (r k) w) : e.holds ρ' k w := by
  cases e with
  | c cs t =>
    simp only [LC.holds, LC.ren] at he ⊢
    rw [h k hk, denL_ren h hx]; exact he
  | own => exact he
  | obj o => simp only [LC.holds, LC.ren] at he ⊢; rw [h k hk]; exact he
  | dead => trivial
theorem LC.ren_blk {r ρ ρ' : Nm} {n k : Nat} (h : ∀ j, j < n → ρ' j = ρ (r j)) {e : LC} (hk : k < n) : e.blk ρ' k = (e.ren r).blk ρ (r k) := by
  cases e <;> simp [LC.blk, LC.ren, h k hk]
/-- Each slot of T' is a slot of T. -/
def subT (r : Nm) (n : Nat) (T : TE) : TE → Prop
  | [] => True
  | (t, u) :: rest => (u.lt n = true ∧ alook T t = some (u.ren r)) ∧ subT r n T rest
def subL (r : Nm) (n : Nat) (L : LE) : LE → Prop
  | [] => True
  | (k, e) :: rest => (k < n ∧ e.lt' n = true ∧ alook L (r k) = some (e.ren r)) ∧ subL r n L rest
theorem subT_look {r : Nm} {n : Nat} {T : TE} : ∀ {T' : TE} {t : Nat} {u : TV}, subT r n T T' → alook T' t = some u → u.lt n = true ∧ alook T t = some (u.ren r)
  | (t', u') :: rest, t, u, h, hl => by
    rw [alook_cons] at hl
    split at hl
    · rename_i e; cases hl; subst e; exact h.1
    · exact subT_look h.2 hl
theorem subL_look {r : Nm} {n : Nat} {L : LE} : ∀ {L' : LE} {k : Nat} {e : LC}, subL r n L L' → alook L' k = some e → k < n ∧ e.lt' n = true ∧ alook L (r k) = some (e.ren r)
  | (k', e') :: rest, k, e, h, hl => by
    rw [alook_cons] at hl
    split at hl
    · rename_i ek; cases hl; subst ek; exact h.1
    · exact subL_look h.2 hl

section
variable {X : Fx} {ops l : List Oper} {o : Oper} {T : TE} {L : LE} {n : Nat} {F : List Fact} {D : DF} {K : KK} {k : KS} {c : Code}

/-- A state that says less: its names are the old ones by way of r. -/
theorem Rel.weak {a : Act} {w : World} {T' : TE} {L' : LE} {n' : Nat} {F' : List Fact} {D' : DF} (r : Nm) (h : Rel X T L n F D a w) (hT : subT r n' T T') (hL : subL r n' L L') (hi : ∀ j k, j < n' → k < n' → r j = r k → j = k)
    (hF : ∀ A : Nat → Prop, (∀ f ∈ F, f.h A w) → ∀ f ∈ F', f.h A w) (hD : ∀ ρ ρ' : Nm, (∀ j, j < n' → ρ' j = ρ (r j)) → D' ρ' = D ρ) (hM : ∀ i, i < X.N.length → i < n' ∧ r i = i) : Rel X T' L' n' F' D' a w := by
  obtain ⟨hkb, ρ0, A, h0⟩ := h
  refine ⟨fun k e hk => (subL_look hL hk).1, fun j => ρ0 (r j), A, fun ρ hρ => ?_⟩
  have h1 := h0 ρ0 (fun _ _ => rfl)
  have bl : ∀ k e b, alook L' k = some e → e.blk ρ k = some b → alook L (r k) = some (e.ren r) ∧ (e.ren r).blk ρ0 (r k) = some b ∧ k < n' := by
    intro k e b hk hb
    obtain ⟨h2, h3, h4⟩ := subL_look hL hk
    exact ⟨h4, by rw [← LC.ren_blk hρ h2]; exact hb, h2⟩
  refine ⟨⟨?_, ?_, hF A h1.a3⟩, h1.sz, by rw [h1.df, hD ρ0 ρ hρ], h1.kp, ?_, ?_, h1.a1, ?_, ?_⟩
  · intro t u hu
    obtain ⟨h2, h3⟩ := subT_look hT hu
    rw [TV.ren_den hρ h2]
    exact h1.tm t _ h3
  · intro k e hk
    obtain ⟨h2, h3, h4⟩ := subL_look hL hk
    exact LC.ren_holds hρ h3 h2 (h1.lo _ _ h4)
  · intro k e b hk hb
    obtain ⟨h2, h3, _⟩ := bl k e b hk hb
    exact h1.nw _ _ b h2 h3
  · intro k k' e e' b hk hk' hb hb'
    obtain ⟨h2, h3, h4⟩ := bl k e b hk hb
    obtain ⟨h2', h3', h4'⟩ := bl k' e' b hk' hb'
    exact hi k k' h4 h4' (h1.ds _ _ _ _ b h2 h2' h3 h3')
  · intro b hb
    refine ⟨(h1.a2 b hb).1, fun k e hk hbk => ?_⟩
    obtain ⟨h2, h3, _⟩ := bl k e b hk hbk
    exact (h1.a2 b hb).2 _ _ h2 h3
  · intro i b hib
    have hi' := (List.getElem?_eq_some_iff.1 hib).1
    rw [hρ i (hM i hi').1]
    show ρ0 (r i) = b
    rw [(hM i hi').2]
    exact h1.mb i b hib
structure Sg where
  T : TE
  L : LE
  n : Nat
  F : List Fact
  D : DF
def Wk (X : Fx) (T : TE) (L : LE) (n : Nat) (F : List Fact) (D : DF) (σ : Sg) : Prop := ∀ a w, Rel X T L n F D a w → Rel X σ.T σ.L σ.n σ.F σ.D a w
theorem wk_ren {T' : TE} {L' : LE} {n' : Nat} {F' : List Fact} {D' : DF} (r : Nm) (hT : subT r n' T T') (hL : subL r n' L L') (hi : ∀ j k, j < n' → k < n' → r j = r k → j = k)
    (hF : ∀ A w, (∀ f ∈ F, f.h A w) → ∀ f ∈ F', f.h A w) (hD : ∀ ρ ρ' : Nm, (∀ j, j < n' → ρ' j = ρ (r j)) → D' ρ' = D ρ) (hM : ∀ i, i < X.N.length → i < n' ∧ r i = i) : Wk X T L n F D ⟨T', L', n', F', D'⟩ :=
  fun _ w hr => hr.weak r hT hL hi (fun A => hF A w) hD hM
def idN : Nm := fun j => j
theorem wk_same {T' : TE} {L' : LE} {n' : Nat} {F' : List Fact} (hT : subT idN n' T T') (hL : subL idN n' L L') (hF : ∀ f ∈ F', f ∈ F) (hM : X.N.length ≤ n') : Wk X T L n F (fun _ => []) ⟨T', L', n', F', fun _ => []⟩ :=
  wk_ren idN hT hL (fun _ _ _ _ h => h) (fun A w h f hf => h f (hF f hf)) (fun _ _ _ => rfl) (fun i hi => ⟨by omega, rfl⟩)
theorem ojs_weak {σ : Sg} (hw : Wk X T L n F D σ) (h : OJs X o σ.T σ.L σ.n σ.F σ.D k K) : OJs X o T L n F D k K := fun Q hQ Φ hΦ a w hr => h Q hQ Φ hΦ a w (hw a w hr)
theorem cjs_weak {σ : Sg} (hw : Wk X T L n F D σ) (h : sx X c σ.T σ.L σ.n σ.F σ.D K) : CJs X c T L n F D K := fun Q hQ a w hr => sx_sound h Q hQ a w (hw a w hr)

/-! ### A loop -/
def loopK (X : Fx) {γ : Type} (p : γ → Prop) (σ : γ → Sg) (μ : γ → Nat) (g : γ) (K : KK) : KK := fun e T L n F D => match e with
  | .normal => ∃ g', p g' ∧ μ g' < μ g ∧ Wk X T L n F D (σ g')
  | e => K e T L n F D
theorem cjs_loop {γ : Type} (p : γ → Prop) (σ : γ → Sg) (μ : γ → Nat) (g0 : γ) (h0 : p g0) (hw : Wk X T L n F D (σ g0))
    (hr : ∀ g, p g → sx X c (σ g).T (σ g).L (σ g).n (σ g).F (σ g).D (loopK X p σ μ g K)) : CJs X (.loop c) T L n F D K := by
  intro Q hQ a w hrel
  refine wpIn_loop_ghost (fun m a w => ∃ g, p g ∧ μ g = m ∧ Rel X (σ g).T (σ g).L (σ g).n (σ g).F (σ g).D a w) (μ g0) ⟨g0, h0, rfl, hw a w hrel⟩ ?_
  rintro m a w ⟨g, hp, rfl, hg⟩
  refine sx_sound (hr g hp) _ ?_ a w hg
  intro e T L n F D hK a w hr
  cases e with
  | normal =>
    obtain ⟨g', h1, h2, h3⟩ := hK
    exact ⟨μ g', h2, g', h1, rfl, h3 a w hr⟩
  | exit id => exact hQ _ _ _ _ _ _ hK a w hr
  | goto l => exact hQ _ _ _ _ _ _ hK a w hr
  | ret => exact hQ _ _ _ _ _ _ hK a w hr
  | panic ch => exact hQ _ _ _ _ _ _ hK a w hr
  | outgrown => exact hQ _ _ _ _ _ _ hK a w hr

/-! ### Facts of data -/
/-- The slice value v reads as xs; the element x lies in the k cells enc x. -/
def slF {α : Type} (enc : α → List Value) (k : Nat) (v : Value) (xs : List α) : Fact where
  h A w := ∃ (a : Option Addr) (cap : Nat), v = .slice a xs.length cap ∧ (xs.length ≤ cap ∧ (a = none → cap = 0)) ∧ (xs = [] ∨ ∃ b off, a = some ⟨b, off, none⟩ ∧ A b ∧ ∀ i x, xs[i]? = some x → ∀ j u, (enc x)[j]? = some u → w.cell? ⟨b, off + i * k + j, none⟩ = some u)
  ok := by
    rintro A A' w w' hA hw _ ⟨a, cap, h1, h2, h3⟩
    refine ⟨a, cap, h1, h2, ?_⟩
    rcases h3 with h3 | ⟨b, off, h4, h5, h6⟩
    · exact .inl h3
    · refine .inr ⟨b, off, h4, hA b h5, fun i x hx j u hu => ?_⟩
      rw [World.cell?_of_block (w := w) (hw b h5)]
      exact h6 i x hx j u hu
theorem slF_sl {α : Type} {enc : α → List Value} {k : Nat} {v : Value} {xs : List α} {A : Nat → Prop} {w : World} (h : (slF enc k v xs).h A w) (hA : ∀ b, A b → b < w.heap.size) : Sl enc k w v xs := by
  obtain ⟨a, cap, h1, h2, h3⟩ := h
  refine ⟨a, cap, h1, h2, ?_⟩
  rcases h3 with h3 | ⟨b, off, h4, h5, h6⟩
  · exact .inl h3
  · exact .inr ⟨b, off, h4, hA b h5, h6⟩
theorem slF_of_sl {α : Type} {enc : α → List Value} {k : Nat} {v : Value} {xs : List α} {w : World} (h : Sl enc k w v xs) : (slF enc k v xs).h (fun b => b < w.heap.size) w := by
  obtain ⟨a, cap, h1, h2, h3⟩ := h
  exact ⟨a, cap, h1, h2, h3.imp id fun ⟨b, off, h4, h5, h6⟩ => ⟨b, off, h4, h5, h6⟩⟩
theorem slF_addr {α : Type} {enc : α → List Value} {k : Nat} {a : Option Addr} {m cap : Nat} {xs : List α} {A : Nat → Prop} {w : World} (h : (slF enc k (.slice a m cap) xs).h A w) (hx : xs ≠ []) : ∃ b off, a = some ⟨b, off, none⟩ := by
  obtain ⟨a', cap', h1, _, h3⟩ := h
  cases h1
  rcases h3 with h3 | ⟨b, off, h4, _⟩
  · exact absurd h3 hx
  · exact ⟨b, off, h4⟩
theorem slF_len {α : Type} {enc : α → List Value} {k : Nat} {a : Option Addr} {m cap : Nat} {xs : List α} {A : Nat → Prop} {w : World} (h : (slF enc k (.slice a m cap) xs).h A w) : m = xs.length ∧ m ≤ cap := by
  obtain ⟨a', cap', h1, h2, _⟩ := h
  cases h1
  exact ⟨rfl, h2.1⟩
theorem slF_at {α : Type} {enc : α → List Value} {k b off m cap i j : Nat} {xs : List α} {x : α} {u : Value} (hx : xs[i]? = some x) (hu : (enc x)[j]? = some u) (A : Nat → Prop) (w : World) (h : (slF enc k (.slice (some ⟨b, off, none⟩) m cap) xs).h A w) : w.cell? ⟨b, off + i * k + j, none⟩ = some u := by
  obtain ⟨a', cap', h1, _, h3⟩ := h
  cases h1
  rcases h3 with h3 | ⟨b, off, h4, _, h6⟩
  · subst h3; simp at hx
  · cases h4; exact h6 i x hx j u hu

/-- What a fact says that there is. -/
theorem ojs_ex {β : Type} {p : β → Prop} (G : β → List Fact) (hF : ∀ A w, (∀ f ∈ F, f.h A w) → ∃ x, p x ∧ ∀ g ∈ G x, g.h A w) (h : ∀ x, p x → OJs X o T L n (G x ++ F) D k K) : OJs X o T L n F D k K := by
  intro Q hQ Φ hΦ a w hr
  obtain ⟨hkb, ρ0, A, h0⟩ := hr
  have h1 := h0 ρ0 (fun _ _ => rfl)
  obtain ⟨x, hp, hx⟩ := hF A w h1.a3
  refine h x hp Q hQ Φ hΦ a w ⟨hkb, ρ0, A, fun ρ hρ => ?_⟩
  have h2 := h0 ρ hρ
  exact ⟨⟨h2.tm, h2.lo, fun f hf => (List.mem_append.1 hf).elim (hx f) (h2.a3 f)⟩, h2.sz, h2.df, h2.kp, h2.nw, h2.ds, h2.a1, h2.a2, h2.mb⟩
theorem cjs_ex {β : Type} {p : β → Prop} (G : β → List Fact) (hF : ∀ A w, (∀ f ∈ F, f.h A w) → ∃ x, p x ∧ ∀ g ∈ G x, g.h A w) (h : ∀ x, p x → CJs X c T L n (G x ++ F) D K) : CJs X c T L n F D K := by
  intro Q hQ a w hr
  obtain ⟨hkb, ρ0, A, h0⟩ := hr
  have h1 := h0 ρ0 (fun _ _ => rfl)
  obtain ⟨x, hp, hx⟩ := hF A w h1.a3
  refine h x hp Q hQ a w ⟨hkb, ρ0, A, fun ρ hρ => ?_⟩
  have h2 := h0 ρ hρ
  exact ⟨⟨h2.tm, h2.lo, fun f hf => (List.mem_append.1 hf).elim (hx f) (h2.a3 f)⟩, h2.sz, h2.df, h2.kp, h2.nw, h2.ds, h2.a1, h2.a2, h2.mb⟩
/-- One cell that stays. -/
def celF (b o : Nat) (u : Value) : Fact := ⟨fun A w => A b ∧ w.cell? ⟨b, o, none⟩ = some u, fun hA hw _ h => ⟨hA _ h.1, (World.cell?_of_block (hw _ h.1)).trans h.2⟩⟩
theorem celF_at {b o : Nat} {u : Value} (A : Nat → Prop) (w : World) (h : (celF b o u).h A w) : w.cell? ⟨b, o, none⟩ = some u := h.2

/-! ### Operations that want a word -/
def optK (X : Fx) (o : Oper) (T : TE) (L : LE) (n : Nat) (F : List Fact) (D : DF) (k : KS) (u : TV) : Prop :=
  match putS X.k o.dst u T with
  | some T' => k T' L n F D
  | none => False
theorem optK_yd {u : TV} (hy : Yd X o T L F u) (h : optK X o T L n F D k u) : OJs X o T L n F D k K := by
  unfold optK at h
  split at h
  · rename_i T' hp
    exact ojs_yd hy hp h
  · exact h.elim
/-- A load of one cell, by a fact. -/
theorem yd_load1 {t : TypeId} {x : Operand} {b o' : Nat} {v : Value} (f : Fact) (hf : f ∈ F) (hc : ∀ A w, f.h A w → w.cell? ⟨b, o', none⟩ = some v) (ho : o.op = .load t x) (hk : alook X.tab.kd t = some none) (hx : evS T x = some (.o (.v (.pointer (some ⟨b, o', none⟩))))) : Yd X o T L F (.o (.v v)) := by
  refine ⟨by simp [noDef, ho], fun A ρ a w h0 => ?_⟩
  obtain ⟨d, i, hd, hi, hs, ha⟩ := tyK_spec (X.ok.kd _ _ hk)
  have hv := hc A w (h0.a3 f hf)
  simp [execOp, ho, h0.ev hx, TV.den, SV.den, Instr.loadAt, Instr.sureAddr, loadVar, ha, hv]
theorem ojs_load1 {t : TypeId} {x : Operand} {b o' : Nat} {v : Value} (f : Fact) (hf : f ∈ F) (hc : ∀ A w, f.h A w → w.cell? ⟨b, o', none⟩ = some v) (ho : o.op = .load t x) (hk : alook X.tab.kd t = some none) (hx : evS T x = some (.o (.v (.pointer (some ⟨b, o', none⟩)))))
    (h : optK X o T L n F D k (.o (.v v))) : OJs X o T L n F D k K := optK_yd (yd_load1 f hf hc ho hk hx) h
/-- A load of a struct, by a fact. -/
theorem yd_loadN {t : TypeId} {x : Operand} {b o' : Nat} {vs : List Value} (f : Fact) (hf : f ∈ F) (hc : ∀ A w, f.h A w → ∀ j u, vs[j]? = some u → w.cell? ⟨b, o' + j, none⟩ = some u) (ho : o.op = .load t x) (hk : alook X.tab.kd t = some (some vs.length)) (hx : evS T x = some (.o (.v (.pointer (some ⟨b, o', none⟩))))) : Yd X o T L F (.g (vs.map SV.v)) := by
  refine ⟨by simp [noDef, ho], fun A ρ a w h0 => ?_⟩
  obtain ⟨d, i, hd, hi, hs, ha⟩ := tyK_spec (X.ok.kd _ _ hk)
  have hv := hc A w (h0.a3 f hf)
  have := run_loadCells_list (P := X.P) w ⟨b, o', none⟩ vs (fun j v hj => by rw [addr_add]; exact hv j v hj)
  simp only [Option.getD_some] at hs
  simp only [execOp, ho, h0.ev hx, TV.den, SV.den, Instr.loadAt, Instr.sureAddr, loadVar, Sem.run_bind, Sem.run_pure, Result.andThen_ok, ha, Option.isSome_some, if_true, sizeOf, typeInfo, run_program, hi, hs, this]
  rw [map_v_denL]
theorem ojs_loadN {t : TypeId} {x : Operand} {b o' : Nat} {vs : List Value} (f : Fact) (hf : f ∈ F) (hc : ∀ A w, f.h A w → ∀ j u, vs[j]? = some u → w.cell? ⟨b, o' + j, none⟩ = some u) (ho : o.op = .load t x) (hk : alook X.tab.kd t = some (some vs.length)) (hx : evS T x = some (.o (.v (.pointer (some ⟨b, o', none⟩)))))
    (h : optK X o T L n F D k (.g (vs.map SV.v))) : OJs X o T L n F D k K := optK_yd (yd_loadN f hf hc ho hk hx) h
theorem tyE_spec {P : Program} {t : Nat} {p : Nat × Nat} (h : tyE P t = some p) : P.underlying t = some (.slice p.1) ∧ ∃ i, P.info? p.1 = some i ∧ i.size = p.2 := by
  unfold tyE at h
  split at h
  · rename_i e he
    split at h
    · rename_i i hi; cases h; exact ⟨he, i, hi, rfl⟩
    · cases h
  · cases h
theorem tyA_spec {P : Program} {t : Nat} {p : Nat × Nat × Nat} (h : tyA P t = some p) : P.underlying t = some (.array p.1 p.2.1) ∧ ∃ i, P.info? p.2.1 = some i ∧ i.size = p.2.2 := by
  unfold tyA at h
  split at h
  · rename_i m e he
    split at h
    · rename_i i hi; cases h; exact ⟨he, i, hi, rfl⟩
    · cases h
  · cases h
/-- The address of an element of a slice. -/
theorem yd_index {t : TypeId} {x ix : Operand} {b off m cap i sz e : Nat} {ki : IntKind} {z : Int} (hz : z = (i : Int)) (hi : i < m) (ho : o.op = .indexAddr t x ix) (he : alook X.tab.el t = some (e, sz)) (hx : evS T x = some (.o (.v (.slice (some ⟨b, off, none⟩) m cap)))) (hix : evS T ix = some (.o (.v (.int ki z)))) : Yd X o T L F (.o (.v (.pointer (some ⟨b, off + i * sz, none⟩)))) := by
  subst hz
  refine ⟨by simp [noDef, ho], fun A ρ a w h0 => ?_⟩
  obtain ⟨h1, i', h2, h3⟩ := tyE_spec (X.ok.el _ _ he)
  simp only at h1 h2 h3
  simp [execOp, ho, h0.ev hx, h0.ev hix, TV.den, SV.den, Instr.indexAt, asIntOf, run_underlying h1, sizeOf, typeInfo, h2, h3, hi, addr_add]
theorem ojs_index {t : TypeId} {x ix : Operand} {b off m cap i sz e : Nat} {ki : IntKind} {z : Int} (hz : z = (i : Int)) (hi : i < m) (ho : o.op = .indexAddr t x ix) (he : alook X.tab.el t = some (e, sz)) (hx : evS T x = some (.o (.v (.slice (some ⟨b, off, none⟩) m cap)))) (hix : evS T ix = some (.o (.v (.int ki z))))
    (h : optK X o T L n F D k (.o (.v (.pointer (some ⟨b, off + i * sz, none⟩))))) : OJs X o T L n F D k K := optK_yd (yd_index hz hi ho he hx hix) h
/-- The address of an element of a slice over a block of the call's own. -/
theorem yd_indexL {t : TypeId} {x ix : Operand} {j off m cap i sz e : Nat} {ki : IntKind} {z : Int} (hz : z = (i : Int)) (hi : i < m) (ho : o.op = .indexAddr t x ix) (he : alook X.tab.el t = some (e, sz)) (hx : evS T x = some (.o (.s j off m cap))) (hix : evS T ix = some (.o (.v (.int ki z)))) : Yd X o T L F (.o (.p j (off + i * sz))) := by
  subst hz
  refine ⟨by simp [noDef, ho], fun A ρ a w h0 => ?_⟩
  obtain ⟨h1, i', h2, h3⟩ := tyE_spec (X.ok.el _ _ he)
  simp only at h1 h2 h3
  simp [execOp, ho, h0.ev hx, h0.ev hix, TV.den, SV.den, Instr.indexAt, asIntOf, run_underlying h1, sizeOf, typeInfo, h2, h3, hi, addr_add]
theorem ojs_indexL {t : TypeId} {x ix : Operand} {j off m cap i sz e : Nat} {ki : IntKind} {z : Int} (hz : z = (i : Int)) (hi : i < m) (ho : o.op = .indexAddr t x ix) (he : alook X.tab.el t = some (e, sz)) (hx : evS T x = some (.o (.s j off m cap))) (hix : evS T ix = some (.o (.v (.int ki z))))
    (h : optK X o T L n F D k (.o (.p j (off + i * sz)))) : OJs X o T L n F D k K := optK_yd (yd_indexL hz hi ho he hx hix) h
/-- The address of an element of an array of the call's own. -/
theorem yd_indexA {t : TypeId} {x ix : Operand} {j off m i sz e : Nat} {ki : IntKind} {z : Int} (hz : z = (i : Int)) (hi : i < m) (ho : o.op = .indexAddr t x ix) (he : alook X.tab.ar t = some (m, e, sz)) (hx : evS T x = some (.o (.p j off))) (hix : evS T ix = some (.o (.v (.int ki z)))) : Yd X o T L F (.o (.p j (off + i * sz))) := by
  subst hz
  refine ⟨by simp [noDef, ho], fun A ρ a w h0 => ?_⟩
  obtain ⟨h1, i', h2, h3⟩ := tyA_spec (X.ok.ar _ _ he)
  simp only at h1 h2 h3
  simp [execOp, ho, h0.ev hx, h0.ev hix, TV.den, SV.den, Instr.indexAt, asIntOf, run_underlying h1, sizeOf, typeInfo, h2, h3, hi, addr_add, Instr.sureAddr]
theorem ojs_indexA {t : TypeId} {x ix : Operand} {j off m i sz e : Nat} {ki : IntKind} {z : Int} (hz : z = (i : Int)) (hi : i < m) (ho : o.op = .indexAddr t x ix) (he : alook X.tab.ar t = some (m, e, sz)) (hx : evS T x = some (.o (.p j off))) (hix : evS T ix = some (.o (.v (.int ki z))))
    (h : optK X o T L n F D k (.o (.p j (off + i * sz)))) : OJs X o T L n F D k K := optK_yd (yd_indexA hz hi ho he hx hix) h
/-- A sum, a difference, a product. -/
def ariS (op : BinOp) (a b : Int) : Option Int := match op with | .add => some (a + b) | .sub => some (a - b) | .mul => some (a * b) | _ => none
theorem yd_arith {bop : BinOp} {t t2 : TypeId} {x y : Operand} {ki : IntKind} {p q r z : Int} (hz : ki.wrap r = z) (ho : o.op = .binOp bop t x y t2) (hx : evS T x = some (.o (.v (.int ki p)))) (hy : evS T y = some (.o (.v (.int ki q)))) (hr : ariS bop p q = some r) : Yd X o T L F (.o (.v (.int ki z))) := by
  subst hz
  refine ⟨by simp [noDef, ho], fun A ρ a w h0 => ?_⟩
  have e1 := h0.ev hx
  have e2 := h0.ev hy
  simp only [TV.den, SV.den] at e1 e2
  have hgd : (eqGuard bop t x y (.int ki p) (.int ki q)).run X.P w = .ok () w := by
    unfold eqGuard
    cases bop <;> simp
  unfold ariS at hr
  split at hr <;> cases hr <;> simp [execOp, ho, e1, e2, hgd, binOp, Op.intArith, TV.den, SV.den]
theorem ojs_arith {bop : BinOp} {t t2 : TypeId} {x y : Operand} {ki : IntKind} {p q r z : Int} (hz : ki.wrap r = z) (ho : o.op = .binOp bop t x y t2) (hx : evS T x = some (.o (.v (.int ki p)))) (hy : evS T y = some (.o (.v (.int ki q)))) (hr : ariS bop p q = some r)
    (h : optK X o T L n F D k (.o (.v (.int ki z)))) : OJs X o T L n F D k K := optK_yd (yd_arith hz ho hx hy hr) h
theorem wrap_in {r : Int} (h1 : -9223372036854775808 ≤ r) (h2 : r ≤ 9223372036854775807) : IntKind.i64.wrap r = r := by
  simp only [IntKind.wrap, IntKind.bits, IntKind.signed, Bool.true_and, decide_eq_true_eq, ge_iff_le]
  split <;> omega
/-- An operation that is shown to yield a value. -/
theorem ojs_run {u : TV} (hd : noDef o = true) (hr : ∀ A ρ a w, Vw T L F A ρ a w → (execOp a.eval o).run X.P w = .ok (.value (u.den ρ)) w) (h : optK X o T L n F D k u) : OJs X o T L n F D k K :=
  optK_yd ⟨hd, hr⟩ h
/-- A contract of the elder kind. -/
theorem cm_old {P : Program} {g : FuncId} {args : List Value} {F0 : List Fact} {v : Value} (h : ∀ A w, (∀ b, A b → b < w.heap.size) → (∀ f ∈ F0, f.h A w) → Calls P g args.toArray w fun e w' => e = .returned v ∧ Below w.heap.size w w') : Cm P g args [] F0 (rets v) := by
  intro A w _ _ hA hF
  refine (h A w hA hF).mono ?_
  rintro e w' ⟨rfl, hb⟩
  exact ⟨[], [], ⟨rfl, rfl⟩, Kp.of_below hb, rfl, fun i x c hx => by simp at hx, fun _ => False, fun _ h => h.elim, fun _ h => h.elim, fun f hf => by simp at hf⟩
/-- And back. -/
theorem calls_of_cm {P : Program} {g : FuncId} {args : List Value} {F0 : List Fact} {v : Value} (h : Cm P g args [] F0 (rets v)) (w : World) (hF : ∀ f ∈ F0, f.h (fun b => b < w.heap.size) w) : Calls P g args.toArray w fun e w' => e = .returned v ∧ Below w.heap.size w w' := by
  refine (h (fun b => b < w.heap.size) w (by simp) (fun x hx => by simp at hx) (fun _ h => h) hF).mono ?_
  rintro e w' ⟨cs, F1, ⟨rfl, _⟩, hk, _⟩
  exact ⟨rfl, hk.below⟩
end

end Go.Proofs.Ytnkpmeplapkobaa
