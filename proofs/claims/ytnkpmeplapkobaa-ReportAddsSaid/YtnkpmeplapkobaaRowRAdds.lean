/- Which reports may be, and a tally with one more: the row ReportAdds, for every shape, tally and report. -/
import Derived.Test.YtnkpmeplapkobaaRpL
import Derived.Test.YtnkpmeplapkobaaRpS
namespace Go.Proofs.Ytnkpmeplapkobaa
open Go.ChangeShapes Go.WideShapes Go.ChangeAt Go.RowKit Go.Joins Go.Shelf

theorem Try.cellsFr : Try.prog.cellsOf 56 = 2 := by kernel_rfl
theorem open_from {H : Type} {enc : TypeId × Value → H} {W : World} {base : Nat} {v : Value} {d : DataW H} {p : List MemPlace} (hv : Value.okWide Try.prog W .any base 56 v)
    (h : DataW.Trod enc Try.prog W 0 (fun _ => true) true 56 v d p) : ∃ (node : Int) (a : Option Addr) (cap : Nat) (xs : List (Bool × Int)), v = .agg #[.int .i64 node, .slice a xs.length cap] ∧ Sl encR 2 W (.slice a xs.length cap) xs := by
  obtain ⟨cs, rfl, hsz⟩ := okWide_struct Try.underlying56 hv
  rw [Try.cellsFr] at hsz
  obtain ⟨c0, c1, rfl⟩ : ∃ c0 c1, cs = #[c0, c1] := by
    obtain ⟨l⟩ := cs
    match l, hsz with
    | [c0, c1], _ => exact ⟨c0, c1, rfl⟩
  obtain ⟨fuel, hf⟩ := h
  obtain ⟨y0, y1, m, _, _, h0, h1⟩ := trod_struct2 Try.underlying56 hf
  simp only [Try.cellsN, Try.cellsRs] at h0 h1
  obtain ⟨z, e0, _, _⟩ := DataW.trod_int Try.underlying3 h0
  have e0 : c0 = _ := List.head_eq_of_cons_eq e0
  subst e0
  have h2 : DataW.trod enc Try.prog W 0 (fun _ => true) true m 37 [c1] = some y1 := h1
  obtain ⟨xs, hS⟩ := open_sl encR 2 Try.underlying37 Try.cellsR (by decide) encR_len (fun n cs y hy => open_reportC hy) h2
  obtain ⟨a, cap, rfl⟩ := hS.shape
  exact ⟨_, a, cap, xs, rfl, hS⟩

set_option maxRecDepth 100000 in
theorem reportAdds_lifted (os : Os) (started : os.Started) (H : Type) (enc : TypeId × Value → H) :
    ReturnsInHanded {} Try.checked os 5 .any (Rows.reportAddsSpec.pre6 enc Try.prog Try.f5 Rows.reportAddsRow.domain false) (Rows.reportAddsSpec.post enc Try.prog Try.f5 false true false false) := by
  refine returnsInHanded_of_change (C := Try.checked) Try.own started (by kernel_rfl) Try.func5
    (ChangeSpec.witness6 (enc := enc) (C := Try.checked) false ⟨#[], #[.agg #[.int .i64 0, .int .i64 0, .int .i64 0], .agg #[.slice none 0 0], .agg #[.int .i64 0, .slice none 0 0]], []⟩ 8 (by kernel_rfl) (by kernel_rfl) (by kernel_rfl) (by kernel_rfl)) ?_
  intro W base args ds gs before hval0 hW _ _
  have hval : ∀ (j : Nat) t v, Try.f5.params[j]? = some t → args[j]? = some v → Value.okWide Try.prog W .any base t v := hval0
  have hW' := hW
  obtain ⟨p, q, hA0, hV, rfl, _, _⟩ := hW
  have hA : DataW.TrodAll enc Try.prog W 0 (fun _ => true) true Try.f5.params.toList args.toList ds p := hA0
  rw [Try.params5] at hA hval
  obtain ⟨v0, v1, v2, d0, d1, d2, p0, p1, p2, rfl, rfl, rfl, h0, h1, h2⟩ := trodAll_three hA
  obtain ⟨rfl, rfl⟩ := trodVars_none hV
  obtain ⟨n, l, s, e0⟩ := open_shape (hval 0 23 v0 rfl rfl) h0
  obtain ⟨a, cap, t, e1, ht⟩ := open_tally (hval 1 26 v1 rfl rfl) h1
  obtain ⟨node, ar, cr, xs, e2, hx⟩ := open_from (hval 2 56 v2 rfl rfl) h2
  clear hA0 hval0
  simp only [List.append_nil] at hW'
  have hl0 : ∀ x ∈ p0, x.block < W.heap.size := fun x hx => hW'.lt x (by simp [hx])
  have hl1 : ∀ x ∈ p1, x.block < W.heap.size := fun x hx => hW'.lt x (by simp [hx])
  have hl2 : ∀ x ∈ p2, x.block < W.heap.size := fun x hx => hW'.lt x (by simp [hx])
  have key := calls_of_cm (lawAdds_c n l s a cap t node ar cr xs) W (fun f hf => by
    simp only [List.mem_cons, List.not_mem_nil, or_false] at hf
    rcases hf with rfl | rfl
    · exact rows_rowsF ht
    · exact slF_of_sl hx)
  rw [← e0, ← e1, ← e2] at key
  refine key.mono fun e W' ⟨he, hB⟩ => ?_
  subst he
  refine ⟨_, rfl, _, _, _, [], p0 ++ (p1 ++ p2), [], hW', ?_, ?_, rfl, hB.frame _, fun h => by cases h⟩
  · exact trodAll_mk1 (shut_bool Try.underlying4 true)
  · exact trodAll_mk3 (Below.trod Try.laidOut (by kernel_rfl) (of_decide_eq_true (by kernel_rfl)) h0 hB hl0) (Below.trod Try.laidOut (by kernel_rfl) (of_decide_eq_true (by kernel_rfl)) h1 hB hl1) (Below.trod Try.laidOut (by kernel_rfl) (of_decide_eq_true (by kernel_rfl)) h2 hB hl2)

theorem reportAdds_holds : Rows.ReportAddsSaid :=
  OpenClaim.holds_of_wide 5 Try.f5 rfl rfl rfl rfl rfl rfl rfl ⟨rfl, rfl, rfl, rfl, rfl⟩ rfl rfl rfl rfl rfl (by kernel_rfl) Try.func5 (by kernel_rfl)
    (of_decide_eq_true (by kernel_rfl)) (by unfold Func.isWrapper; rw [if_neg (of_decide_eq_false (by kernel_rfl))]; exact ⟨rfl, rfl⟩)
    (fun os started H enc _ => reportAdds_lifted os started H enc)

end Go.Proofs.Ytnkpmeplapkobaa
