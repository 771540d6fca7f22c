/- A lost token is taken back by its last sender alone: the row ReportHolds, for every number of nodes, ways and order. -/
import Derived.Test.YtnkpmeplapkobaaRpO
import Derived.Test.YtnkpmeplapkobaaRpS
namespace Go.Proofs.Ytnkpmeplapkobaa
open Go.ChangeShapes Go.WideShapes Go.ChangeAt Go.RowKit Go.Joins Go.Shelf Go.Deep

theorem Try.cellsWy : Try.prog.cellsOf 40 = 2 := by kernel_rfl
theorem Try.cellsIs : Try.prog.cellsOf 29 = 1 := by kernel_rfl
theorem encI_len1 (x : Int) : (encI x).length = 1 := rfl
theorem open_ints {H : Type} {enc : TypeId × Value → H} {W : World} {n : Nat} {v : Value} {y : DataW H × List MemPlace} (h : DataW.trod enc Try.prog W 0 (fun _ => true) true n 29 [v] = some y) : ∃ xs, Sl encI 1 W v xs :=
  open_sl encI 1 Try.underlying29 Try.cellsN (by decide) encI_len1 (fun n cs y hy => by
    obtain ⟨x, e, _, _⟩ := DataW.trod_int Try.underlying3 hy
    exact ⟨x, e⟩) h
theorem open_wayC {H : Type} {enc : TypeId × Value → H} {W : World} {n : Nat} {cs : List Value} {y : DataW H × List MemPlace} (h : DataW.trod enc Try.prog W 0 (fun _ => true) true n 40 cs = some y) : ∃ z : Value × Bool, cs = encWy z ∧ ∃ xs, Sl encI 1 W z.1 xs := by
  obtain ⟨y0, y1, m, _, hl, h0, h1⟩ := trod_struct2 Try.underlying40 h
  rw [Try.cellsWy] at hl
  match cs, hl with
  | [c0, c1], _ =>
    simp only [Try.cellsIs, Try.cellsB] at h0 h1
    have h2 : DataW.trod enc Try.prog W 0 (fun _ => true) true m 29 [c0] = some y0 := h0
    obtain ⟨xs, hS⟩ := open_ints h2
    obtain ⟨x, e1, _⟩ := DataW.trod_bool Try.underlying4 h1
    have e1 : c1 = _ := List.head_eq_of_cons_eq e1
    subst e1
    exact ⟨(c0, x), rfl, xs, hS⟩
theorem open_ways {H : Type} {enc : TypeId × Value → H} {W : World} {v : Value} {n : Nat} {y : DataW H × List MemPlace} (h : DataW.trod enc Try.prog W 0 (fun _ => true) true n 36 [v] = some y) : ∃ (a : Option Addr) (cap : Nat) (ways : List Wy), v = .slice a ways.length cap ∧ (waysF (.slice a ways.length cap) ways).h (fun b => b < W.heap.size) W := by
  obtain ⟨vs, h1, h2⟩ := open_slE encWy 2 (fun z => ∃ xs, Sl encI 1 W z.1 xs) Try.underlying36 Try.cellsWy (by decide) (fun _ => rfl) (fun n cs y hy => open_wayC hy) h
  obtain ⟨f, hf⟩ := choose_lt (n := vs.length) (p := fun i (y : Wy) => ∀ u, vs[i]? = some u → Sl encI 1 W u.1 y.1 ∧ u.2 = y.2) (fun i hi => by
    obtain ⟨u, hu⟩ := at_some (xs := vs) (k := i) hi
    obtain ⟨xs, hxs⟩ := h2 u (List.mem_of_getElem? hu)
    exact ⟨(xs, u.2), fun u' hu' => by rw [hu] at hu'; cases hu'; exact ⟨hxs, rfl⟩⟩)
  obtain ⟨a, cap, rfl⟩ := h1.shape
  have hlen : ((List.range vs.length).map f).length = vs.length := by simp
  refine ⟨a, cap, (List.range vs.length).map f, by rw [hlen], vs, by rw [hlen]; exact slF_of_sl h1, hlen.symm, fun i x y hx hy => ?_⟩
  obtain ⟨hi, rfl⟩ := range_at hy
  obtain ⟨h3, h4⟩ := hf i hi x hx
  exact ⟨slF_of_sl h3, h4⟩

set_option maxRecDepth 100000 in
theorem reportHolds_lifted (os : Os) (started : os.Started) (H : Type) (enc : TypeId × Value → H) :
    ReturnsInHanded {} Try.checked os 4 .any (Rows.reportHoldsSpec.pre6 enc Try.prog Try.f4 Rows.reportHoldsRow.domain false) (Rows.reportHoldsSpec.post enc Try.prog Try.f4 false true false false) := by
  refine returnsInHanded_of_change (C := Try.checked) Try.own started (by kernel_rfl) Try.func4
    (ChangeSpec.witness6 (enc := enc) (C := Try.checked) false ⟨#[], #[.int .i64 0, .slice none 0 0, .slice none 0 0], []⟩ 8 (by kernel_rfl) (by kernel_rfl) (by kernel_rfl) (by kernel_rfl)) ?_
  intro W base args ds gs before hval0 hW _ _
  have hval : ∀ (j : Nat) t v, Try.f4.params[j]? = some t → args[j]? = some v → Value.okWide Try.prog W .any base t v := hval0
  have hW' := hW
  obtain ⟨p, q, hA0, hV, rfl, _, _⟩ := hW
  have hA : DataW.TrodAll enc Try.prog W 0 (fun _ => true) true Try.f4.params.toList args.toList ds p := hA0
  rw [Try.params4] at hA hval
  obtain ⟨v0, v1, v2, d0, d1, d2, p0, p1, p2, rfl, rfl, rfl, h0, h1, h2⟩ := trodAll_three hA
  obtain ⟨rfl, rfl⟩ := trodVars_none hV
  obtain ⟨nodes, e0⟩ := okWide_int Try.underlying3 (hval 0 3 v0 rfl rfl)
  obtain ⟨aw, cw, ways, e1, hw⟩ : ∃ (a : Option Addr) (cap : Nat) (ways : List Wy), v1 = .slice a ways.length cap ∧ (waysF (.slice a ways.length cap) ways).h (fun b => b < W.heap.size) W := by
    obtain ⟨a, l, c, rfl⟩ := okWide_slice Try.underlying36 (hval 1 36 v1 rfl rfl)
    obtain ⟨fuel, hf⟩ := h1
    exact open_ways hf
  obtain ⟨ao, co, order, e2, ho⟩ : ∃ (ao : Option Addr) (co : Nat) (order : List Int), v2 = .slice ao order.length co ∧ Sl encI 1 W (.slice ao order.length co) order := by
    obtain ⟨a, l, c, rfl⟩ := okWide_slice Try.underlying29 (hval 2 29 v2 rfl rfl)
    obtain ⟨fuel, hf⟩ := h2
    obtain ⟨xs, hS⟩ := open_ints hf
    obtain ⟨a', c', hE⟩ := hS.shape
    rw [hE] at hS ⊢
    exact ⟨a', c', xs, rfl, hS⟩
  clear hA0 hval0
  simp only [List.append_nil] at hW'
  have hl0 : ∀ x ∈ p0, x.block < W.heap.size := fun x hx => hW'.lt x (by simp [hx])
  have hl1 : ∀ x ∈ p1, x.block < W.heap.size := fun x hx => hW'.lt x (by simp [hx])
  have hl2 : ∀ x ∈ p2, x.block < W.heap.size := fun x hx => hW'.lt x (by simp [hx])
  have key := calls_of_cm (lawRHolds_c nodes aw cw ways ao co order) W (fun f hf => by
    simp only [List.mem_cons, List.not_mem_nil, or_false] at hf
    rcases hf with rfl | rfl
    · exact hw
    · exact slF_of_sl ho)
  rw [← e0, ← e1, ← e2] at key
  refine key.mono fun e W' ⟨he, hB⟩ => ?_
  subst he
  refine ⟨_, rfl, _, _, _, [], p0 ++ (p1 ++ p2), [], hW', ?_, ?_, rfl, hB.frame _, fun h => by cases h⟩
  · exact trodAll_mk1 (shut_bool Try.underlying4 true)
  · exact trodAll_mk3 (Below.trod Try.laidOut (by kernel_rfl) (of_decide_eq_true (by kernel_rfl)) h0 hB hl0) (Below.trod Try.laidOut (by kernel_rfl) (of_decide_eq_true (by kernel_rfl)) h1 hB hl1) (Below.trod Try.laidOut (by kernel_rfl) (of_decide_eq_true (by kernel_rfl)) h2 hB hl2)

theorem reportHolds_holds : Rows.ReportHoldsSaid :=
  OpenClaim.holds_of_wide 4 Try.f4 rfl rfl rfl rfl rfl rfl rfl ⟨rfl, rfl, rfl, rfl, rfl⟩ rfl rfl rfl rfl rfl (by kernel_rfl) Try.func4 (by kernel_rfl)
    (of_decide_eq_true (by kernel_rfl)) (by unfold Func.isWrapper; rw [if_neg (of_decide_eq_false (by kernel_rfl))]; exact ⟨rfl, rfl⟩)
    (fun os started H enc _ => reportHolds_lifted os started H enc)

end Go.Proofs.Ytnkpmeplapkobaa
