/- LockBacks: the row, for every place, lock and hop: what is taken back, and what is reported. -/
import Derived.Test.YtmhnlkakbadkgaaGreatPkbt
namespace Go.Proofs.YtmhnlkakbadkgaaGreat
open Go.ChangeShapes Go.WideShapes Go.ChangeAt Go.RowKit Go.Joins Go.Shelf
set_option maxRecDepth 100000
set_option maxRecDepth 100000 in
theorem lockBacks_lifted (os : Os) (started : os.Started) (H : Type) (enc : TypeId × Value → H) :
    ReturnsInHanded {} Tryz.checked os 3 .any (Rows.lockBacksSpec.pre6 enc Tryz.prog Tryz.f3 Rows.lockBacksRow.domain false) (Rows.lockBacksSpec.post enc Tryz.prog Tryz.f3 false true false false) := by
  refine returnsInHanded_of_change (C := Tryz.checked) Tryz.own started (by kernel_rfl) Tryz.func3
    (ChangeSpec.witness6 (enc := enc) (C := Tryz.checked) false ⟨#[], #[.agg #[.int .i64 0, .int .i64 0, .int .i64 0, .int .i64 0, .int .i64 0, .int .i64 0, .int .i64 0, .int .i64 0, .int .i64 0, .bool false, .bool false, .bool false, .int .i64 0, .slice none 0 0, .slice none 0 0, .slice none 0 0, .int .i64 0, .int .i64 0, .int .u64 0, .int .i64 0, .int .i64 0, .int .i64 0, .slice none 0 0, .slice none 0 0, .slice none 0 0], .int .i64 0], []⟩ 8 (by kernel_rfl) (by kernel_rfl) (by kernel_rfl) (by kernel_rfl)) ?_
  intro W base args ds gs before hval0 hW _ _
  have hval : ∀ (j : Nat) t v, Tryz.f3.params[j]? = some t → args[j]? = some v → Value.okWide Tryz.prog W .any base t v := hval0
  have hW' := hW
  obtain ⟨p, q, hA0, hV, rfl, _, _⟩ := hW
  have hA : DataW.TrodAll enc Tryz.prog W 0 (fun _ => true) true Tryz.f3.params.toList args.toList ds p := hA0
  rw [Tryz.params3] at hA hval
  obtain ⟨v0, v1, d0, d1, p0, p1, rfl, rfl, rfl, h0, h1⟩ := trodAll_two hA
  obtain ⟨rfl, rfl⟩ := trodVars_none hV
  obtain ⟨pl, x, q0, e0, hfacts⟩ := open_at (hval 0 42 v0 rfl rfl) h0
  obtain ⟨hop, e1⟩ := okWide_int Tryz.underlying2 (hval 1 2 v1 rfl rfl)
  clear hA0 hval0
  simp only [List.append_nil] at hW'
  have hl0 : ∀ x ∈ p0, x.block < W.heap.size := fun x hx => hW'.lt x (by simp [hx])
  have hl1 : ∀ x ∈ p1, x.block < W.heap.size := fun x hx => hW'.lt x (by simp [hx])
  have key := calls_of_cm (lawBacks_c pl x q0 hop) W hfacts
  rw [← e0, ← e1] at key
  refine key.mono fun e W' ⟨he, hB⟩ => ?_
  subst he
  refine ⟨_, rfl, _, _, _, [], p0 ++ p1, [], hW', ?_, ?_, rfl, hB.frame _, fun h => by cases h⟩
  · exact trodAll_mk1 (shut_bool Tryz.underlying4 true)
  · exact trodAll_mk2 (Below.trod Tryz.laidOut (by kernel_rfl) (of_decide_eq_true (by kernel_rfl)) h0 hB hl0) (Below.trod Tryz.laidOut (by kernel_rfl) (of_decide_eq_true (by kernel_rfl)) h1 hB hl1)
theorem jMaps : mapsRowed Tryz.prog = true := by kernel_rfl
theorem jStops : Tryz.prog.stops = [] := by kernel_rfl
theorem jStopK : Tryz.prog.stopKnobs = [] := by kernel_rfl
theorem jPlace : Tryz.prog.inPlace 3 = Rows.lockBacksRow.inPlace := by kernel_rfl
theorem jUnf : Tryz.prog.unfollowed 3 = Rows.lockBacksRow.unfollowed := by kernel_rfl
theorem jRec : Tryz.prog.recurses 3 = Rows.lockBacksRow.recurses := by kernel_rfl
theorem jNamed : Tryz.prog.varsNamed 3 = Rows.lockBacksRow.named := by kernel_rfl
theorem jKeys : Tryz.prog.plainKeys = Rows.lockBacksRow.plainKeys := by kernel_rfl
theorem jHeard : Tryz.prog.stopsHeard = true := by kernel_rfl
theorem jEnter : Tryz.prog.mayEnter = true := by kernel_rfl
theorem jLifts : Tryz.prog.liftsFinal = Rows.lockBacksRow.lifted := by kernel_rfl
theorem jMake : Tryz.prog.make = some Rows.lockBacksRow.make := by kernel_rfl
theorem jFn : Tryz.prog.funcNamed Rows.lockBacksRow.func = some 3 := by kernel_rfl
theorem jAll : joinedFacts Tryz.prog 3 Tryz.f3 Rows.lockBacksSpec Rows.lockBacksRow = true := by
  unfold joinedFacts
  rw [Tryz.laidOut, jMaps, jStops, jStopK, jPlace, jUnf, jRec, jNamed, jKeys, jHeard, jEnter, jLifts, jMake]
  kernel_rfl
theorem lockBacks_holds : Rows.LockBacksSaid :=
  OpenClaim.holds_of_wide 3 Tryz.f3 rfl rfl rfl rfl rfl rfl rfl ⟨rfl, rfl, rfl, rfl, rfl⟩ rfl rfl rfl rfl rfl jFn Tryz.func3 jAll
    (of_decide_eq_true (by kernel_rfl)) (by unfold Func.isWrapper; rw [if_neg (of_decide_eq_false (by kernel_rfl))]; exact ⟨rfl, rfl⟩)
    (fun os started H enc _ => lockBacks_lifted os started H enc)
end Go.Proofs.YtmhnlkakbadkgaaGreat
