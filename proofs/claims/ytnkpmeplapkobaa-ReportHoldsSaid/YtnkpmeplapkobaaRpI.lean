/- Reports, by the symbolic run: reports and tallies that are the same; Check, New. -/
import Derived.Test.YtnkpmeplapkobaaRpH
import Derived.Test.YtnkpmeplapkobaaEng2
namespace Go.Proofs.Ytnkpmeplapkobaa
open Go.RowKit Go.Shelf

theorem yd_binOp {X : Fx} {o : Oper} {T : TE} {L : LE} {F : List Fact} {bop : BinOp} {t t2 : TypeId} {x y : Operand} {ux uy : TV} {u v r : Value} (ho : o.op = .binOp bop t x y t2) (hx : evS T x = some ux) (hy : evS T y = some uy) (hu : ∀ ρ, ux.den ρ = u) (hv : ∀ ρ, uy.den ρ = v)
    (hg : ∀ w, (eqGuard bop t x y u v).run X.P w = .ok () w) (hb : ∀ w, (binOp bop t u v).run X.P w = .ok r w) : Yd X o T L F (.o (.v r)) := by
  refine ⟨by simp [noDef, ho], fun A ρ a w h0 => ?_⟩
  have e1 := h0.ev hx
  have e2 := h0.ev hy
  rw [hu] at e1
  rw [hv] at e2
  simp only [execOp, ho, e1, e2, Sem.run_bind, hg, Result.andThen_ok, hb, Sem.run_pure, TV.den, SV.den]
theorem guard_report (bop : BinOp) (x y : Operand) (a b : Array Value) (w : World) : (eqGuard bop 42 x y (.agg a) (.agg b)).run Try.prog w = .ok () w := by
  have h : Try.prog.eqGuardType Try.prog.depth 42 = false := by kernel_rfl
  unfold eqGuard
  by_cases hb : bop = .eql ∨ bop = .neq
  · rcases hb with rfl | rfl <;> simp [h]
  · cases bop <;> simp_all
def repV (x : Bool × Int) : Value := .agg #[.bool x.1, .int .i64 x.2]
theorem run_neq_report (x y : Bool × Int) : ∀ W, (binOp .neq 42 (repV x) (repV y)).run Try.prog W = .ok (.bool (decide (x ≠ y))) W := by
  intro W
  obtain ⟨x1, x2⟩ := x
  obtain ⟨y1, y2⟩ := y
  unfold repV
  by_cases h1 : x1 = y1
  · by_cases h2 : x2 = y2
    · subst h1; subst h2
      go_simp
    · subst h1
      go_simp
  · go_simp


theorem slF_ne {α : Type} {enc : α → List Value} {k : Nat} {a : Option Addr} {m cap i : Nat} {xs : List α} {x : α} (hx : xs[i]? = some x) (A : Nat → Prop) (w : World) (h : (slF enc k (.slice a m cap) xs).h A w) : ∃ b off, a = some ⟨b, off, none⟩ :=
  slF_addr h (by intro e; rw [e] at hx; simp at hx)
theorem sameReport_c (a : Option Addr) (cap : Nat) (b : Option Addr) (cap2 : Nat) (xs : List (Bool × Int)) (hl : xs.length ≤ 1099511627776) :
    Cm Try.prog 21 [.slice a xs.length cap, .slice b xs.length cap2] [] [slF encR 2 (.slice a xs.length cap) xs, slF encR 2 (.slice b xs.length cap2) xs] (rets (.bool true)) := by
  refine cm_of (tab := tb) (ok := tbOk) [.o (.v (.slice a xs.length cap)), .o (.v (.slice b xs.length cap2))] Try.func21 Try.ntmps21 rfl rfl (fun _ _ => rfl) ?_
  intro w0 A0
  refine brB_split (fun h => by simp at h) (fun _ => ?_)
  refine cjs_loopP (γ := Nat) (fun k => k ≤ xs.length) (fun k => [(5, .o (.v (.int .i64 k)))]) (fun _ => []) (fun _ => []) (fun k => xs.length - k) 0 (Nat.zero_le _) (wk_patch (by repeat' (first | exact trivial | exact Or.inl rfl | refine Or.inr ⟨?_, ?_⟩ | rfl | refine ⟨?_, ?_⟩ | exact lt_all_v)) (by repeat' (first | exact trivial | exact Or.inl rfl | refine Or.inr ⟨?_, ?_⟩ | rfl | refine ⟨?_, ?_⟩ | exact lt_all_v)) (by simp) (by simp) D_nil) ?_
  intro k hk
  refine brB_dec (fun h => ?_) (fun h => ?_)
  · obtain ⟨x, hx⟩ := at_some (xs := xs) (k := k) (by omega)
    refine cjs_fact (slF encR 2 (.slice a xs.length cap) xs) (by simp) (slF_ne hx) ?_
    rintro ⟨b1, o1, rfl⟩
    refine cjs_fact (slF encR 2 (.slice b xs.length cap2) xs) (by simp) (slF_ne hx) ?_
    rintro ⟨b2, o2, rfl⟩
    refine cjs_drawn [] (.op 0 <| .op 1 <| .op 2 <| .op 3 <| .op 4 <| .op 5 <| .op 6 <| .op 7 <| .op 8 .z) [] [] [] [slF encR 2 (.slice (some ⟨b1, o1, none⟩) xs.length cap) xs, slF encR 2 (.slice (some ⟨b2, o2, none⟩) xs.length cap2) xs] (by kernel_rfl) (by kernel_rfl) rfl (by simp) (by simp) ?_
    intro N
    refine ⟨_, yd_index rfl (by omega) rfl rfl rfl rfl, ?_⟩
    refine ⟨_, yd_loadN (vs := [.bool x.1, .int .i64 x.2]) (slF encR 2 (.slice (some ⟨b1, o1, none⟩) xs.length cap) xs) (by simp) (fun A w h j u hu => slF_at hx hu A w h) rfl rfl rfl, ?_⟩
    refine ⟨_, yd_index rfl (by omega) rfl rfl rfl rfl, ?_⟩
    refine ⟨_, yd_loadN (vs := [.bool x.1, .int .i64 x.2]) (slF encR 2 (.slice (some ⟨b2, o2, none⟩) xs.length cap2) xs) (by simp) (fun A w h j u hu => slF_at hx hu A w h) rfl rfl rfl, ?_⟩
    refine ⟨_, yd_binOp (u := repV x) (v := repV x) (r := .bool false) rfl rfl rfl (fun _ => rfl) (fun _ => rfl) (guard_report _ _ _ _ _) (fun w => by rw [run_neq_report]; simp), ?_⟩
    refine ojs_arith (z := ((k + 1 : Nat) : Int)) (by first | decide | (rw [wrap_in] <;> omega) | (dsimp only; rw [wrap_in] <;> omega)) rfl rfl rfl rfl ?_
    exact ⟨k + 1, (by first | omega | (dsimp only; omega)), (by first | omega | (dsimp only; omega)), (wk_patch (by repeat' (first | exact trivial | exact Or.inl rfl | refine Or.inr ⟨?_, ?_⟩ | rfl | refine ⟨?_, ?_⟩ | exact lt_all_v)) (by repeat' (first | exact trivial | exact Or.inl rfl | refine Or.inr ⟨?_, ?_⟩ | rfl | refine ⟨?_, ?_⟩ | exact lt_all_v)) (by simp) (by simp) D_nil)⟩
  · exact endR_ok [] rfl rfl ⟨rfl, rfl⟩ rfl (fun _ => ⟨rfl, rfl⟩) (by simp)

end Go.Proofs.Ytnkpmeplapkobaa
