/- Sites, by the symbolic run: what is asked of a shape; sites as numbers. -/
import Derived.Test.YtehfodoocfpkoaaDoorEngT
import Derived.Test.YtehfodoocfpkoaaDoorEngW
import Derived.Test.YtehfodoocfpkoaaDoorSiteA
namespace Go.Proofs.YtehfodoocfpkoaaDoor
open Go.RowKit Go.Shelf

theorem Cm.facts {P : Program} {g : FuncId} {args : List Value} {mu : List MB} {F0 F0' : List Fact} {Out : OutT} (h : Cm P g args mu F0' Out) (hF : ∀ A w, (∀ f ∈ F0, f.h A w) → ∀ f ∈ F0', f.h A w) : Cm P g args mu F0 Out :=
  fun A w h1 h2 h3 h4 => h A w h1 h2 h3 (hF A w h4)
theorem facts_cons {F F' : List Fact} {f : Fact} {A : Nat → Prop} {w : World} (h1 : (∀ g ∈ F, g.h A w) → f.h A w) (h2 : ∀ g ∈ F', g ∈ F) (h : ∀ g ∈ F, g.h A w) : ∀ g ∈ f :: F', g.h A w := by
  intro g hg
  rcases List.mem_cons.1 hg with rfl | hg
  · exact h1 h
  · exact h g (h2 g hg)
theorem slF_ne {α : Type} {enc : α → List Value} {k : Nat} {a : Option Addr} {m cap i : Nat} {xs : List α} {x : α} (hx : xs[i]? = some x) (A : Nat → Prop) (w : World) (h : (slF enc k (.slice a m cap) xs).h A w) : ∃ b off, a = some ⟨b, off, none⟩ :=
  slF_addr h (by intro e; rw [e] at hx; simp at hx)
/-- A block of one cell an element reads as its list. -/
theorem slF_blk {α : Type} {f : α → Value} {b : Nat} {t : TypeId} {xs : List α} {m : Nat} (hm : m = xs.length) {A : Nat → Prop} {w : World} (h : (blkF b (xs.map f) t).h A w) : (slF (encV f) 1 (.slice (some ⟨b, 0, none⟩) m m) xs).h A w := by
  subst hm
  refine ⟨some ⟨b, 0, none⟩, xs.length, rfl, ⟨Nat.le_refl _, fun e => by cases e⟩, .inr ⟨b, 0, rfl, h.1, fun i x hx j u hu => ?_⟩⟩
  have := cell_of_list (o := i) h.2
  match j, hu with
  | 0, hu =>
    cases hu
    rw [Nat.zero_add, Nat.mul_one, Nat.add_zero, this]
    simp [hx]
theorem num_c (n : Int) : Cm Tryd.prog 13 [.int .i64 n] [] [] (rets (.int .i64 n)) := by
  refine cm_of (tab := tb) (ok := tbOk) [.o (.v (.int .i64 n))] Tryd.func13 Tryd.ntmps13 rfl rfl (fun _ _ => rfl) ?_
  intro w0 A0
  exact endR_ok [] rfl rfl ⟨rfl, rfl⟩ rfl (fun _ => ⟨rfl, rfl⟩) (by simp)
theorem shape_c : Cm Tryd.prog 32 [] [] [] (rets (.agg #[.int .i64 3, .int .i64 2, .int .i64 2])) := by
  refine cm_of (tab := tb) (ok := tbOk) [] Tryd.func32 Tryd.ntmps32 rfl rfl (fun _ _ => rfl) ?_
  intro w0 A0
  exact endR_ok [] rfl rfl ⟨rfl, rfl⟩ rfl (fun _ => ⟨rfl, rfl⟩) (by simp)
def inB (n a b : Int) : Bool := decide (a ≤ n) && decide (n ≤ b)
theorem within_c (n a b : Int) : Cm Tryd.prog 28 [.int .i64 n, .int .i64 a, .int .i64 b] [] [] (rets (.bool (inB n a b))) := by
  refine cm_of (tab := tb) (ok := tbOk) [.o (.v (.int .i64 n)), .o (.v (.int .i64 a)), .o (.v (.int .i64 b))] Tryd.func28 Tryd.ntmps28 rfl rfl (fun _ _ => rfl) ?_
  intro w0 A0
  refine brB_dec (fun h => ?_) (fun h => ?_)
  · exact endR_ok [] rfl rfl ⟨rfl, rfl⟩ rfl (fun _ => ⟨ret_bool (by unfold inB; simp [h]), rfl⟩) (by simp)
  · exact endR_ok [] rfl rfl ⟨rfl, rfl⟩ rfl (fun _ => ⟨ret_bool (by unfold inB; simp [h]), rfl⟩) (by simp)
theorem withinL_c (n a b : Int) : Cm Tryd.prog 37 [.int .i64 n, .int .i64 a, .int .i64 b] [] [] (rets (.bool (inB n a b))) := by
  refine cm_of (tab := tb) (ok := tbOk) [.o (.v (.int .i64 n)), .o (.v (.int .i64 a)), .o (.v (.int .i64 b))] Tryd.func37 Tryd.ntmps37 rfl rfl (fun _ _ => rfl) ?_
  intro w0 A0
  refine brB_dec (fun h => ?_) (fun h => ?_)
  · exact endR_ok [] rfl rfl ⟨rfl, rfl⟩ rfl (fun _ => ⟨ret_bool (by unfold inB; simp [h]), rfl⟩) (by simp)
  · exact endR_ok [] rfl rfl ⟨rfl, rfl⟩ rfl (fun _ => ⟨ret_bool (by unfold inB; simp [h]), rfl⟩) (by simp)
theorem uright_c (n l s : Int) : Cm Tryd.prog 47 [.agg #[.int .i64 n, .int .i64 l, .int .i64 s]] [] [] (rets (.bool (shapeB n l s))) := by
  refine cm_of (tab := tb) (ok := tbOk) [.g [.v (.int .i64 n), .v (.int .i64 l), .v (.int .i64 s)]] Tryd.func47 Tryd.ntmps47 rfl rfl (fun _ _ => rfl) ?_
  intro w0 A0
  have hs : shapeB n l s = (inB n 1 64 && inB l 1 8 && inB s 1 4) := rfl
  refine ojs_call [] [] rfl rfl rfl rfl rfl rfl rfl (by simp) (fun _ => within_c n 1 64) (by simp) (.inl rfl) ?_
  rintro e cs F1 _ ⟨rfl, rfl⟩
  refine brB_split (fun h1 => ?_) (fun h1 => ?_)
  · refine ojs_call [] [] rfl rfl rfl rfl rfl rfl rfl (by simp) (fun _ => within_c l 1 8) (by simp) (.inl rfl) ?_
    rintro e cs F1 _ ⟨rfl, rfl⟩
    refine brB_split (fun h2 => ?_) (fun h2 => ?_)
    · refine ojs_call [] [] rfl rfl rfl rfl rfl rfl rfl (by simp) (fun _ => within_c s 1 4) (by simp) (.inl rfl) ?_
      rintro e cs F1 _ ⟨rfl, rfl⟩
      exact endR_ok [] rfl rfl ⟨rfl, rfl⟩ rfl (fun _ => ⟨ret_bool (by rw [hs, h1, h2]; rfl), rfl⟩) (by simp)
    · exact endR_ok [] rfl rfl ⟨rfl, rfl⟩ rfl (fun _ => ⟨ret_bool (by rw [hs, h1, h2]; rfl), rfl⟩) (by simp)
  · exact endR_ok [] rfl rfl ⟨rfl, rfl⟩ rfl (fun _ => ⟨ret_bool (by rw [hs, h1]; rfl), rfl⟩) (by simp)
/-- A function value that answers so. -/
def Clo (F0 : List Fact) (x : Value × Bool) : Prop := ∃ g lb, x.1 = .func (.func g) #[] (List.toArray lb) ∧ alook tb.fn g = some () ∧ Cm Tryd.prog g lb [] F0 (rets (.bool x.2))
theorem asked1_c {F0 : List Fact} {x : Value × Bool} (h : Clo F0 x) : Cm Tryd.prog 49 [x.1] [] F0 (rets (.bool (!x.2))) := by
  obtain ⟨v, b⟩ := x
  obtain ⟨g, lb, rfl, hg, hc⟩ := h
  refine cm_of (tab := tb) (ok := tbOk) [.o (.v (.func (.func g) #[] lb.toArray))] Tryd.func49 Tryd.ntmps49 rfl rfl (fun _ _ => rfl) ?_
  intro w0 A0
  have hc2 : ∀ ρ : Nm, Cm Tryd.prog g (argV ρ [] [] (lb.map PV.v)) [] F0 (rets (.bool b)) := fun ρ => by
    have e : argV ρ [] [] (lb.map PV.v) = lb := by simp [argV, List.map_map, Function.comp_def, PV.den]
    rw [e]; exact hc
  refine ojs_call [] [] rfl rfl rfl rfl hg rfl rfl (by simp) (fun ρ => hc2 ρ) (fun f hf => hf) (.inl rfl) ?_
  rintro e cs F1 _ ⟨rfl, rfl⟩
  exact endR_ok [] rfl rfl ⟨rfl, rfl⟩ rfl (fun _ => ⟨rfl, rfl⟩) (by simp)
def fineI (xs : List (Value × Bool)) : Int := match xs.findIdx? (fun x => !x.2) with | some i => (i : Int) | none => -1
theorem fineI_all {xs : List (Value × Bool)} : decide (0 ≤ fineI xs) = !xs.all (·.2) := by
  unfold fineI
  cases h : xs.findIdx? (fun x => !x.2) with
  | none =>
    rw [List.findIdx?_eq_none_iff] at h
    have : xs.all (·.2) = true := List.all_eq_true.2 fun x hx => by simpa using h x hx
    rw [this]; rfl
  | some i =>
    obtain ⟨hi, hp, _⟩ := List.findIdx?_eq_some_iff_getElem.1 h
    have : xs.all (·.2) = false := by
      rw [Bool.eq_false_iff]
      intro ha
      have := List.all_eq_true.1 ha _ (List.getElem_mem hi)
      rw [this] at hp; simp at hp
    rw [this]
    simp
theorem indexFine_c {F0 : List Fact} {a : Option Addr} {cap : Nat} {xs : List (Value × Bool)} (hlen : xs.length ≤ 1000) (h : ∀ x ∈ xs, Clo F0 x) :
    Cm Tryd.prog 68 [.slice a xs.length cap, .func (.func 49) #[] #[]] [] (slF (encV Prod.fst) 1 (.slice a xs.length cap) xs :: F0) (rets (.int .i64 (fineI xs))) := by
  refine cm_of (tab := tb) (ok := tbOk) [.o (.v (.slice a xs.length cap)), .o (.v (.func (.func 49) #[] #[]))] Tryd.func68 Tryd.ntmps68 rfl rfl (fun _ _ => rfl) ?_
  intro w0 A0
  refine cjs_loopP (γ := Nat) (fun k => k ≤ xs.length ∧ ∀ j x, j < k → xs[j]? = some x → x.2 = true) (fun k => [(8, .o (.v (.int .i64 k)))]) (fun _ => []) (fun _ => []) (fun k => xs.length - k) 0 ⟨Nat.zero_le _, fun j x hj => by omega⟩ (wk_patch (by repeat' (first | exact trivial | exact Or.inl rfl | refine Or.inr ⟨?_, ?_⟩ | rfl | refine ⟨?_, ?_⟩ | exact lt_all_v)) (by repeat' (first | exact trivial | exact Or.inl rfl | refine Or.inr ⟨?_, ?_⟩ | rfl | refine ⟨?_, ?_⟩ | exact lt_all_v)) (fun f hf => hf) (by simp) D_nil) ?_
  rintro k ⟨hk, hno⟩
  refine brB_dec (fun h1 => ?_) (fun h1 => ?_)
  · obtain ⟨x, hx⟩ := at_some (xs := xs) (k := k) (by omega)
    refine ojs_fact (slF (encV Prod.fst) 1 (.slice a xs.length cap) xs) (by simp) (slF_ne hx) ?_
    rintro ⟨b, off, rfl⟩
    refine ojs_index rfl (by omega) rfl rfl rfl rfl ?_
    refine ojs_load1 (slF (encV Prod.fst) 1 (.slice (some ⟨b, off, none⟩) xs.length cap) xs) (by simp) (slF_at hx (j := 0) rfl) rfl rfl rfl ?_
    refine ojs_call [] [] rfl rfl rfl rfl rfl rfl rfl (by simp) (fun _ => asked1_c (h x (List.mem_of_getElem? hx))) (fun f hf => List.mem_cons_of_mem _ hf) (.inl rfl) ?_
    rintro e cs F1 _ ⟨rfl, rfl⟩
    cases hb : x.2
    · refine endR_ok [] rfl rfl ⟨rfl, rfl⟩ rfl (fun _ => ⟨?_, rfl⟩) (by simp)
      have : xs.findIdx? (fun x => !x.2) = some k := by
        rw [List.findIdx?_eq_some_iff_getElem]
        obtain ⟨hkl, hxe⟩ := List.getElem?_eq_some_iff.1 hx
        refine ⟨hkl, by rw [hxe, hb]; rfl, fun j hj => ?_⟩
        rw [hno j _ hj (List.getElem?_eq_getElem (by omega))]
        simp
      unfold fineI
      rw [this]
      rfl
    · refine ojs_arith (z := ((k + 1 : Nat) : Int)) (by first | decide | (rw [wrap_in] <;> omega) | (dsimp only; rw [wrap_in] <;> omega)) rfl rfl rfl rfl ?_
      refine ⟨k + 1, ⟨by omega, fun j y hj hy => ?_⟩, (by first | omega | (dsimp only; omega)), wk_patch (by repeat' (first | exact trivial | exact Or.inl rfl | refine Or.inr ⟨?_, ?_⟩ | rfl | refine ⟨?_, ?_⟩ | exact lt_all_v)) (by repeat' (first | exact trivial | exact Or.inl rfl | refine Or.inr ⟨?_, ?_⟩ | rfl | refine ⟨?_, ?_⟩ | exact lt_all_v)) (fun f hf => hf) (by simp) D_nil⟩
      rcases Nat.lt_succ_iff_lt_or_eq.1 hj with h | rfl
      · exact hno j y h hy
      · rw [hx] at hy; cases hy; exact hb
  · obtain rfl : k = xs.length := by omega
    refine endR_ok [] rfl rfl ⟨rfl, rfl⟩ rfl (fun _ => ⟨?_, rfl⟩) (by simp)
    have : xs.findIdx? (fun x => !x.2) = none := by
      rw [List.findIdx?_eq_none_iff]
      intro x hx
      obtain ⟨j, hj⟩ := List.mem_iff_getElem?.1 hx
      rw [hno j x (List.getElem?_eq_some_iff.1 hj).1 hj]
      rfl
    unfold fineI
    rw [this]
    rfl
theorem containsFine_c {F0 : List Fact} {a : Option Addr} {cap : Nat} {xs : List (Value × Bool)} (hlen : xs.length ≤ 1000) (h : ∀ x ∈ xs, Clo F0 x) :
    Cm Tryd.prog 48 [.slice a xs.length cap, .func (.func 49) #[] #[]] [] (slF (encV Prod.fst) 1 (.slice a xs.length cap) xs :: F0) (rets (.bool (!xs.all (·.2)))) := by
  refine cm_of (tab := tb) (ok := tbOk) [.o (.v (.slice a xs.length cap)), .o (.v (.func (.func 49) #[] #[]))] Tryd.func48 Tryd.ntmps48 rfl rfl (fun _ _ => rfl) ?_
  intro w0 A0
  refine ojs_call [] [] rfl rfl rfl rfl rfl rfl rfl (by simp) (fun _ => indexFine_c hlen h) (fun f hf => hf) (.inl rfl) ?_
  rintro e cs F1 _ ⟨rfl, rfl⟩
  exact endR_ok [] rfl rfl ⟨rfl, rfl⟩ rfl (fun _ => ⟨ret_bool fineI_all, rfl⟩) (by simp)
/-- What asked answers. -/
def askE (sh ok : Bool) : Int := bif sh then (bif ok then 0 else 4) else 2
theorem asked_c {F0 : List Fact} {n l s : Int} {a : Option Addr} {cap : Nat} {xs : List (Value × Bool)} (hlen : xs.length ≤ 1000) (h : shapeB n l s = true → ∀ x ∈ xs, Clo F0 x) :
    Cm Tryd.prog 26 [.agg #[.int .i64 n, .int .i64 l, .int .i64 s], .slice a xs.length cap] [] (slF (encV Prod.fst) 1 (.slice a xs.length cap) xs :: F0) (rets (.int .i64 (askE (shapeB n l s) (xs.all (·.2))))) := by
  refine cm_of (tab := tb) (ok := tbOk) [.g [.v (.int .i64 n), .v (.int .i64 l), .v (.int .i64 s)], .o (.v (.slice a xs.length cap))] Tryd.func26 Tryd.ntmps26 rfl rfl (fun _ _ => rfl) ?_
  intro w0 A0
  refine cjs_scopeF 0 rfl rfl ?_
  refine ojs_call [] [] rfl rfl rfl rfl rfl rfl rfl (by simp) (fun _ => uright_c n l s) (by simp) (.inl rfl) ?_
  rintro e cs F1 _ ⟨rfl, rfl⟩
  cases hs : shapeB n l s
  · refine ⟨rfl, ?_⟩
    exact endR_ok [] rfl rfl ⟨rfl, rfl⟩ rfl (fun _ => ⟨rfl, rfl⟩) (by simp)
  refine ojs_call [] [] rfl rfl rfl rfl rfl rfl rfl (by simp) (fun _ => containsFine_c hlen (h hs)) (fun f hf => hf) (.inl rfl) ?_
  rintro e cs F1 _ ⟨rfl, rfl⟩
  cases hx : xs.all (·.2)
  · refine ⟨rfl, ?_⟩
    exact endR_ok [] rfl rfl ⟨rfl, rfl⟩ rfl (fun _ => ⟨rfl, rfl⟩) (by simp)
  · exact endR_ok [] rfl rfl ⟨rfl, rfl⟩ rfl (fun _ => ⟨rfl, rfl⟩) (by simp)
theorem asked0_c (n l s : Int) : Cm Tryd.prog 26 [.agg #[.int .i64 n, .int .i64 l, .int .i64 s], .slice none 0 0] [] [] (rets (.int .i64 (askE (shapeB n l s) true))) :=
  (asked_c (F0 := []) (xs := []) (by simp) (fun _ x hx => by simp at hx)).facts fun A w _ f hf => by
    cases List.mem_singleton.1 hf
    exact ⟨none, 0, rfl, ⟨Nat.le_refl _, fun _ => rfl⟩, .inl rfl⟩
theorem check_c (n l s : Int) : Cm Tryd.prog 14 [.agg #[.int .i64 n, .int .i64 l, .int .i64 s]] [] [] (rets (.int .i64 (askE (shapeB n l s) true))) := by
  refine cm_of (tab := tb) (ok := tbOk) [.g [.v (.int .i64 n), .v (.int .i64 l), .v (.int .i64 s)]] Tryd.func14 Tryd.ntmps14 rfl rfl (fun _ _ => rfl) ?_
  intro w0 A0
  refine ojs_call [] [] rfl rfl rfl rfl rfl rfl rfl (by simp) (fun _ => asked0_c n l s) (by simp) (.inl rfl) ?_
  rintro e cs F1 _ ⟨rfl, rfl⟩
  exact endR_ok [] rfl rfl ⟨rfl, rfl⟩ rfl (fun _ => ⟨rfl, rfl⟩) (by simp)

end Go.Proofs.YtehfodoocfpkoaaDoor
