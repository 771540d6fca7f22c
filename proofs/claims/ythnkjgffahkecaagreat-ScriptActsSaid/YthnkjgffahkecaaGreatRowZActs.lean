/- The acts that bytes are, one by one, which one may leave, and their bytes again: the row ScriptActs, for every config, bytes and number. -/
import Derived.Test.YthnkjgffahkecaaGreatScAc
import Derived.Test.YthnkjgffahkecaaGreatScOp
namespace Go.Proofs.YthnkjgffahkecaaGreat
open Go.ChangeShapes Go.WideShapes Go.ChangeAt Go.RowKit Go.Joins Go.Shelf

set_option maxRecDepth 100000

theorem byte_bd {n : Int} (h : (Lit.int .u8 n).wf = true) : 0 ≤ n ∧ n ≤ 255 := by
  simpa [Lit.wf, IntKind.min, IntKind.max, IntKind.bits, IntKind.signed] using h
theorem open_bytes {H : Type} {enc : TypeId × Value → H} {W : World} {base : Nat} {v : Value} {d : DataW H} {p : List MemPlace} (hv : Value.okWide Tryz.prog W .any base 41 v) (h : DataW.Trod enc Tryz.prog W 0 (fun _ => true) true 41 v d p) :
    ∃ (a : Option Addr) (cap : Nat) (bs : List Int), v = .slice a bs.length cap ∧ Sl byE 1 W (.slice a bs.length cap) bs ∧ ∀ b ∈ bs, 0 ≤ b ∧ b ≤ 255 := by
  obtain ⟨a, l, c, rfl⟩ := okWide_slice Tryz.underlying41 hv
  obtain ⟨fuel, hf⟩ := h
  have h0 : DataW.trod enc Tryz.prog W 0 (fun _ => true) true fuel 41 [.slice a l c] = some (d, p) := hf
  obtain ⟨xs, hS, hR⟩ := open_slE byE 1 (fun b : Int => 0 ≤ b ∧ b ≤ 255) Tryz.underlying41 Tryz.cellsY8 (by decide) byE_len (fun n cs y hy => by
    obtain ⟨z, e, _, b⟩ := DataW.trod_int Tryz.underlying5 hy
    exact ⟨z, e, byte_bd b⟩) h0
  obtain ⟨a', cap', e⟩ := hS.shape
  cases e
  exact ⟨_, _, xs, rfl, hS, hR⟩

set_option maxRecDepth 100000 in
theorem scriptActs_lifted (os : Os) (started : os.Started) (H : Type) (enc : TypeId × Value → H) :
    ReturnsInHanded {} Tryz.checked os 4 .any (Rows.scriptActsSpec.pre6 enc Tryz.prog Tryz.f4 Rows.scriptActsRow.domain false) (Rows.scriptActsSpec.post enc Tryz.prog Tryz.f4 false true false false) := by
  refine returnsInHanded_of_change (C := Tryz.checked) Tryz.own started (by kernel_rfl) Tryz.func4
    (ChangeSpec.witness6 (enc := enc) (C := Tryz.checked) false ⟨#[], #[.agg #[.int .i64 0, .int .i64 0, .int .i64 0, .slice none 0 0, .int .i64 0, .int .i64 0, .int .i64 0, .int .i64 0, .int .i64 0], .slice none 0 0, .int .i64 0], []⟩ 8 (by kernel_rfl) (by kernel_rfl) (by kernel_rfl) (by kernel_rfl)) ?_
  intro W base args ds gs before hval0 hW _ _
  have hval : ∀ (j : Nat) t v, Tryz.f4.params[j]? = some t → args[j]? = some v → Value.okWide Tryz.prog W .any base t v := hval0
  have hW' := hW
  obtain ⟨p, q, hA0, hV, rfl, _, _⟩ := hW
  have hA : DataW.TrodAll enc Tryz.prog W 0 (fun _ => true) true Tryz.f4.params.toList args.toList ds p := hA0
  rw [Tryz.params4] at hA hval
  obtain ⟨v0, v1, v2, d0, d1, d2, p0, p1, p2, rfl, rfl, rfl, h0, h1, h2⟩ := trodAll_three hA
  obtain ⟨rfl, rfl⟩ := trodVars_none hV
  obtain ⟨c, ad, cap, e0, hc, hr⟩ := open_cfg (hval 0 26 v0 rfl rfl) h0
  obtain ⟨ab, capb, bs, e1, hbs, hbd⟩ := open_bytes (hval 1 41 v1 rfl rfl) h1
  obtain ⟨many, e2⟩ := okWide_int Tryz.underlying3 (hval 2 3 v2 rfl rfl)
  clear hA0 hval0
  simp only [List.append_nil] at hW'
  have hl0 : ∀ x ∈ p0, x.block < W.heap.size := fun x hx => hW'.lt x (by simp [hx])
  have hl1 : ∀ x ∈ p1, x.block < W.heap.size := fun x hx => hW'.lt x (by simp [hx])
  have hl2 : ∀ x ∈ p2, x.block < W.heap.size := fun x hx => hW'.lt x (by simp [hx])
  have key := calls_of_cm (lawActs_c c ad cap ab capb bs many hr hbd) W (fun f hf => by
    simp only [List.mem_cons, List.not_mem_nil, or_false] at hf
    rcases hf with rfl | rfl
    · exact slF_of_sl hc
    · exact slF_of_sl hbs)
  rw [← e0, ← e1, ← e2] at key
  refine key.mono fun e W' ⟨he, hB⟩ => ?_
  subst he
  refine ⟨_, rfl, _, _, _, [], p0 ++ (p1 ++ p2), [], hW', ?_, ?_, rfl, hB.frame _, fun h => by cases h⟩
  · exact trodAll_mk1 (shut_bool Tryz.underlying4 true)
  · exact trodAll_mk3 (Below.trod Tryz.laidOut (by kernel_rfl) (of_decide_eq_true (by kernel_rfl)) h0 hB hl0) (Below.trod Tryz.laidOut (by kernel_rfl) (of_decide_eq_true (by kernel_rfl)) h1 hB hl1) (Below.trod Tryz.laidOut (by kernel_rfl) (of_decide_eq_true (by kernel_rfl)) h2 hB hl2)

theorem scriptActs_holds : Rows.ScriptActsSaid :=
  OpenClaim.holds_of_wide 4 Tryz.f4 rfl rfl rfl rfl rfl rfl rfl ⟨rfl, rfl, rfl, rfl, rfl⟩ rfl rfl rfl rfl rfl (by kernel_rfl) Tryz.func4 (by kernel_rfl)
    (of_decide_eq_true (by kernel_rfl)) (by unfold Func.isWrapper; rw [if_neg (of_decide_eq_false (by kernel_rfl))]; exact ⟨rfl, rfl⟩)
    (fun os started H enc _ => scriptActs_lifted os started H enc)

end Go.Proofs.YthnkjgffahkecaaGreat
