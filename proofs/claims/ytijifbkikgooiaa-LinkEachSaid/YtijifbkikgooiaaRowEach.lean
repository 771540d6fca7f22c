/- One goes over the stamps that are taken, may leave them, and go over them again: the row LinkEach, for every input. -/
import Derived.Test.YtijifbkikgooiaaEachC
import Derived.Test.YtijifbkikgooiaaLinkS
namespace Go.Proofs.Ytijifbkikgooiaa
open Go.ChangeShapes Go.WideShapes Go.ChangeAt Go.RowKit Go.Joins Go.Shelf Go.Deep

theorem each_all (w : World) (fr many : Int) (v sv : Value) (l : Lk) (xs : List (Int × Int)) (hl : LkR w v l) (hS : Sl encP 2 w sv xs) :
    Calls Try.prog 7 #[v, sv, .agg #[.int .i64 fr, .int .i64 many]] w fun e w' => e = .returned (.bool true) ∧ Below w.heap.size w w' := by
  by_cases h : (l.out.length ≤ 100 ∧ l.inn.length ≤ 100) ∧ xs.length ≤ 40
  · exact each_small w fr many v sv l xs h.1.1 h.1.2 hl h.2 hS
  · obtain ⟨s1, s2, rfl, h1, h2⟩ := hl
    obtain ⟨a1, c1, rfl⟩ := h1.shape
    obtain ⟨a2, c2, rfl⟩ := h2.shape
    obtain ⟨a3, c3, rfl⟩ := hS.shape
    refine each_big w _ fr many _ _ _ _ _ _ _ _ _ ?_
    by_cases h' : l.out.length ≤ 100 ∧ l.inn.length ≤ 100
    · exact .inr (by omega)
    · exact .inl (by simp; omega)

theorem Try.cellsA : Try.prog.cellsOf 58 = 2 := by kernel_rfl
theorem Try.cellsN : Try.prog.cellsOf 3 = 1 := by kernel_rfl
theorem open_ints2 {H : Type} {enc : TypeId × Value → H} {W : World} {base : Nat} {v : Value} {d : DataW H} {p : List MemPlace} (hv : Value.okWide Try.prog W .any base 58 v)
    (h : DataW.Trod enc Try.prog W 0 (fun _ => true) true 58 v d p) : ∃ a b : Int, v = .agg #[.int .i64 a, .int .i64 b] := by
  simp only [Value.okWide, Try.underlying58] at hv
  obtain ⟨cs, rfl, hsz, _⟩ := hv
  rw [Try.cellsA] at hsz
  obtain ⟨l⟩ := cs
  match l, hsz with
  | [c0, c1], _ =>
    obtain ⟨fuel, hf⟩ := h
    obtain ⟨xs, m, _, _, _, hlen, hi⟩ := DataW.trod_array Try.underlying58 hf
    simp only [Try.cellsN] at hi
    match xs, hlen with
    | [y0, y1], _ =>
      obtain ⟨z0, e0, _, _⟩ := DataW.trod_int Try.underlying3 (hi 0 (by decide))
      obtain ⟨z1, e1, _, _⟩ := DataW.trod_int Try.underlying3 (hi 1 (by decide))
      simp [Value.cells] at e0 e1
      subst e0 e1
      exact ⟨_, _, rfl⟩

set_option maxRecDepth 100000 in
theorem linkEach_lifted (os : Os) (started : os.Started) (H : Type) (enc : TypeId × Value → H) :
    ReturnsInHanded {} Try.checked os 7 .any (Rows.linkEachSpec.pre6 enc Try.prog Try.f7 Rows.linkEachRow.domain false) (Rows.linkEachSpec.post enc Try.prog Try.f7 false true false false) := by
  refine returnsInHanded_of_change (C := Try.checked) Try.own started (by kernel_rfl) Try.func7
    (ChangeSpec.witness6 (enc := enc) (C := Try.checked) false ⟨#[], #[.agg #[.int .i64 0, .slice none 0 0, .slice none 0 0], .slice none 0 0, .agg #[.int .i64 0, .int .i64 0]], []⟩ 8 (by kernel_rfl) (by kernel_rfl) (by kernel_rfl) (by kernel_rfl)) ?_
  intro W base args ds gs before hval0 hW _ _
  have hval : ∀ (j : Nat) t v, Try.f7.params[j]? = some t → args[j]? = some v → Value.okWide Try.prog W .any base t v := hval0
  have hW' := hW
  obtain ⟨p, q, hA0, hV, rfl, _, _⟩ := hW
  have hA : DataW.TrodAll enc Try.prog W 0 (fun _ => true) true Try.f7.params.toList args.toList ds p := hA0
  rw [Try.params7] at hA hval
  obtain ⟨v0, v1, v2, d0, d1, d2, p0, p1, p2, rfl, rfl, rfl, h0, h1, h2⟩ := trodAll_three hA
  obtain ⟨rfl, rfl⟩ := trodVars_none hV
  obtain ⟨l, hl⟩ := open_link (hval 0 25 v0 rfl rfl) h0
  have h1x := h1
  obtain ⟨aa, la, ca, e1⟩ := okWide_slice Try.underlying23 (hval 1 23 v1 rfl rfl)
  rw [e1] at h1x
  obtain ⟨n1, g1⟩ := h1x
  obtain ⟨xs, s1⟩ := open_sl encP 2 Try.underlying23 Try.cellsS (by decide) encP_len (fun n cs y hy => open_stamp hy) g1
  obtain ⟨x, y, e2⟩ := open_ints2 (hval 2 58 v2 rfl rfl) h2
  clear hA0 hval0
  simp only [List.append_nil] at hW'
  have hl0 : ∀ x ∈ p0, x.block < W.heap.size := fun x hx => hW'.lt x (by simp [hx])
  have hl1 : ∀ x ∈ p1, x.block < W.heap.size := fun x hx => hW'.lt x (by simp [hx])
  have hl2 : ∀ x ∈ p2, x.block < W.heap.size := fun x hx => hW'.lt x (by simp [hx])
  have key := each_all W x y v0 _ l xs hl s1
  rw [← e1, ← e2] at key
  refine key.mono fun e W' ⟨he, hB⟩ => ?_
  subst he
  refine ⟨_, rfl, _, _, _, [], p0 ++ (p1 ++ p2), [], hW', ?_, ?_, rfl, hB.frame _, fun h => by cases h⟩
  · exact trodAll_mk1 (shut_bool Try.underlying4 true)
  · exact trodAll_mk3 (Below.trod Try.laidOut (by kernel_rfl) (of_decide_eq_true (by kernel_rfl)) h0 hB hl0) (Below.trod Try.laidOut (by kernel_rfl) (of_decide_eq_true (by kernel_rfl)) h1 hB hl1) (Below.trod Try.laidOut (by kernel_rfl) (of_decide_eq_true (by kernel_rfl)) h2 hB hl2)

theorem linkEach_holds : Rows.LinkEachSaid :=
  OpenClaim.holds_of_wide 7 Try.f7 rfl rfl rfl rfl rfl rfl rfl ⟨rfl, rfl, rfl, rfl, rfl⟩ rfl rfl rfl rfl rfl (by kernel_rfl) Try.func7 (by kernel_rfl)
    (of_decide_eq_true (by kernel_rfl)) (by unfold Func.isWrapper; rw [if_neg (of_decide_eq_false (by kernel_rfl))]; exact ⟨rfl, rfl⟩)
    (fun os started H enc _ => linkEach_lifted os started H enc)

end Go.Proofs.Ytijifbkikgooiaa
