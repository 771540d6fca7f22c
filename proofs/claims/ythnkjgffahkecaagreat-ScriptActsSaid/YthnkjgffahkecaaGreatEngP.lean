/- A symbolic run: small laws on lists, for the contracts of slices' functions. No program is in sight. -/
import Derived.Test.YthnkjgffahkecaaGreatEngX
import Derived.Laws.Build
namespace Go.Proofs.YthnkjgffahkecaaGreat
open Go.RowKit Go.Shelf

def idxI {α : Type} (p : α → Bool) (xs : List α) : Int := match xs.findIdx? p with | some i => (i : Int) | none => -1
theorem idxI_atE {α : Type} {p : α → Bool} {xs : List α} {k : Nat} {x : α} (hno : ∀ (j : Nat) (x : α), j < k → xs[j]? = some x → p x = false) (hx : xs[k]? = some x) (hp : p x = true) : idxI p xs = k := by
  have : xs.findIdx? p = some k := by
    rw [List.findIdx?_eq_some_iff_getElem]
    obtain ⟨hkl, hxe⟩ := List.getElem?_eq_some_iff.1 hx
    refine ⟨hkl, by rw [hxe, hp], fun j hj => ?_⟩
    rw [hno j _ hj (List.getElem?_eq_getElem (by omega))]
    simp
  unfold idxI
  rw [this]
theorem idxI_noneE {α : Type} {p : α → Bool} {xs : List α} (hno : ∀ (j : Nat) (x : α), xs[j]? = some x → p x = false) : idxI p xs = -1 := by
  have : xs.findIdx? p = none := by
    rw [List.findIdx?_eq_none_iff]
    intro x hx
    obtain ⟨j, hj⟩ := List.mem_iff_getElem?.1 hx
    exact hno j x hj
  unfold idxI
  rw [this]
theorem idxI_any {α : Type} {p : α → Bool} {xs : List α} : decide (0 ≤ idxI p xs) = xs.any p := by
  unfold idxI
  cases h : xs.findIdx? p with
  | none =>
    rw [List.findIdx?_eq_none_iff] at h
    have : xs.any p = false := List.any_eq_false.2 fun x hx => by simp [h x hx]
    rw [this]; rfl
  | some i =>
    obtain ⟨hi, hp, _⟩ := List.findIdx?_eq_some_iff_getElem.1 h
    have : xs.any p = true := List.any_eq_true.2 ⟨_, List.getElem_mem hi, hp⟩
    rw [this]
    simp
theorem slF_neE {α : Type} {enc : α → List Value} {k : Nat} {a : Option Addr} {m cap i : Nat} {xs : List α} {x : α} (hx : xs[i]? = some x) (A : Nat → Prop) (w : World) (h : (slF enc k (.slice a m cap) xs).h A w) : ∃ b off, a = some ⟨b, off, none⟩ :=
  slF_addr h (by intro e; rw [e] at hx; simp at hx)
theorem flat_get {α : Type} {enc : α → List Value} {k : Nat} (hk : ∀ x, (enc x).length = k) : ∀ {l : List α} {i j : Nat} {x : α} {u : Value}, l[i]? = some x → (enc x)[j]? = some u → (l.flatMap enc)[i * k + j]? = some u
  | [], i, j, x, u, h, _ => by simp at h
  | y :: l, 0, j, x, u, h, hu => by
    simp only [List.getElem?_cons_zero, Option.some.injEq] at h
    subst h
    have hj := (List.getElem?_eq_some_iff.1 hu).1
    rw [List.flatMap_cons, Nat.zero_mul, Nat.zero_add, List.getElem?_append_left hj]
    exact hu
  | y :: l, i + 1, j, x, u, h, hu => by
    rw [List.flatMap_cons, List.getElem?_append_right (by rw [hk, Nat.succ_mul]; omega), hk, show (i + 1) * k + j - k = i * k + j by rw [Nat.succ_mul]; omega]
    exact flat_get hk (by simpa using h) hu
/-- A block of elements reads as its list. -/
theorem slF_blkN {α : Type} {enc : α → List Value} {k : Nat} {b : Nat} {t : TypeId} {cells : List Value} {xs : List α} {m : Nat} (hm : m = xs.length) (henc : ∀ x, (enc x).length = k) (hc : cells = xs.flatMap enc) {A : Nat → Prop} {w : World} (h : (blkF b cells t).h A w) : (slF enc k (.slice (some ⟨b, 0, none⟩) m m) xs).h A w := by
  subst hm
  subst hc
  refine ⟨some ⟨b, 0, none⟩, xs.length, rfl, ⟨Nat.le_refl _, fun e => by cases e⟩, .inr ⟨b, 0, rfl, h.1, fun i x hx j u hu => ?_⟩⟩
  have := cell_of_list (o := 0 + i * k + j) h.2
  rw [this, Nat.zero_add]
  exact flat_get henc hx hu
theorem Cm.facts {P : Program} {g : FuncId} {args : List Value} {mu : List MB} {F0 F0' : List Fact} {Out : OutT} (h : Cm P g args mu F0' Out) (hF : ∀ A w, (∀ f ∈ F0, f.h A w) → ∀ f ∈ F0', f.h A w) : Cm P g args mu F0 Out :=
  fun A w h1 h2 h3 h4 => h A w h1 h2 h3 (hF A w h4)
theorem facts_cons {F F' : List Fact} {f : Fact} {A : Nat → Prop} {w : World} (h1 : (∀ g ∈ F, g.h A w) → f.h A w) (h2 : ∀ g ∈ F', g ∈ F) (h : ∀ g ∈ F, g.h A w) : ∀ g ∈ f :: F', g.h A w := by
  intro g hg
  rcases List.mem_cons.1 hg with rfl | hg
  · exact h1 h
  · exact h g (h2 g hg)
/-- A truth that is handed back, by its word. -/
def retB (p : Prop) : OutT := fun e _ F1 => ∃ r : Bool, (r = true ↔ p) ∧ e = .returned (.bool r) ∧ F1 = []
theorem Cm.retB {P : Program} {g : FuncId} {args : List Value} {mu : List MB} {F0 : List Fact} {b : Bool} {p : Prop} (h : Cm P g args mu F0 (rets (.bool b))) (hb : b = true ↔ p) : Cm P g args mu F0 (retB p) := by
  intro A w h1 h2 h3 h4
  refine (h A w h1 h2 h3 h4).mono ?_
  rintro e w' ⟨cs, F1, ⟨rfl, rfl⟩, rest⟩
  exact ⟨cs, [], ⟨b, hb, rfl, rfl⟩, rest⟩
/-- What is handed back, opened. -/
theorem Cm.opened {P : Program} {g : FuncId} {args : List Value} {mu : List MB} {F0 : List Fact} {Out Out' : OutT} (h : Cm P g args mu F0 Out) (hO : ∀ e cs F1 A w, Out e cs F1 → (∀ f ∈ F1, f.h A w) → ∃ F2, Out' e cs F2 ∧ ∀ f ∈ F2, f.h A w) : Cm P g args mu F0 Out' := by
  intro A w h1 h2 h3 h4
  refine (h A w h1 h2 h3 h4).mono ?_
  rintro e w' ⟨cs, F1, hout, hk, hl, hc, A1, ha, hb, hF⟩
  obtain ⟨F2, h5, h6⟩ := hO e cs F1 A1 w' hout hF
  exact ⟨cs, F2, h5, hk, hl, hc, A1, ha, hb, h6⟩
theorem blk_cells {b : Nat} {cs : List Value} {t : TypeId} (A : Nat → Prop) (w : World) (h : (blkF b cs t).h A w) : ∀ (j : Nat) (u : Value), cs[j]? = some u → w.cell? ⟨b, 0 + j, none⟩ = some u := fun j u hu => by rw [Nat.zero_add]; exact (cell_of_list (o := j) h.2).trans hu
/-- The cells of an element, one by one. -/
theorem slF_atN {α : Type} {enc : α → List Value} {k b off m cap i : Nat} {xs : List α} {x : α} (hx : xs[i]? = some x) (A : Nat → Prop) (w : World) (h : (slF enc k (.slice (some ⟨b, off, none⟩) m cap) xs).h A w) : ∀ (j : Nat) (u : Value), (enc x)[j]? = some u → w.cell? ⟨b, off + i * k + j, none⟩ = some u := fun _ _ hu => slF_at hx hu A w h
section
variable {X : Fx} {T : TE} {L : LE} {n : Nat} {F : List Fact} {D : DF} {K : KK} {k : KS} {o : Oper}
theorem yd_iface {t : TypeId} {x : Operand} {v : Value} (hc : X.P.concrete t = true) (ho : o.op = .makeInterface t x) (hx : evS T x = some (.o (.v v))) : Yd X o T L F (.o (.v (.iface t v))) := by
  refine ⟨by simp [noDef, ho], fun A ρ a w h0 => ?_⟩
  have e1 := h0.ev hx
  simp only [TV.den, SV.den] at e1
  simp [execOp, ho, e1, run_makeInterface w t v hc, TV.den, SV.den]
end
/-- What one gives up with, unless it is so. -/
def mustE (t : TypeId) (b : Bool) (e : Int) : OutT := fun r _ F1 => ((b = true ∧ r = .returned (.tuple #[])) ∨ (b = false ∧ r = .panicked [{ v := .iface t (.int .i64 e), recovered := false }])) ∧ F1 = []

end Go.Proofs.YthnkjgffahkecaaGreat
