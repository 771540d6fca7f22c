/- Link: the row LinkMakes. -/
import Derived.Test.YtijifbkikgooiaaLinkV
import Derived.Test.YtijifbkikgooiaaLinkS
import Derived.OpenShut
namespace Go.Proofs.Ytijifbkikgooiaa
open Go.ChangeShapes Go.WideShapes Go.ChangeAt Go.RowKit Go.Joins Go.Shelf

theorem makes_all (w : World) (v : Value) (l : Lk) (nn a1 a2 b1 b2 : Int) (hl : LkR w v l) :
    Calls Try.prog 3 #[.int .i64 nn, v, .agg #[.int .i64 a1, .int .i64 a2, .int .i64 b1, .int .i64 b2]] w fun e w' => e = .returned (.bool true) ∧ Below w.heap.size w w' := by
  by_cases h : l.out.length ≤ 100 ∧ l.inn.length ≤ 100
  · by_cases hn : nodesB nn = true
    · have h' := hn
      unfold nodesB at h'
      simp at h'
      obtain ⟨k, rfl⟩ := Int.eq_ofNat_of_zero_le (show 0 ≤ nn by omega)
      by_cases hr : rightB l = true
      · exact makes_tt w v l a1 a2 b1 b2 k (by omega) (by omega) h.1 h.2 hr hl
      · exact makes_ft w v l a1 a2 b1 b2 k (by omega) (by omega) h.1 h.2 (by simpa using hr) hl
    · by_cases hr : rightB l = true
      · exact makes_tf w v l a1 a2 b1 b2 nn (by simpa using hn) h.1 h.2 hr hl
      · exact makes_ff w v l a1 a2 b1 b2 nn (by simpa using hn) h.1 h.2 (by simpa using hr) hl
  · obtain ⟨s1, s2, rfl, h1, h2⟩ := hl
    obtain ⟨c1, d1, rfl⟩ := h1.shape
    obtain ⟨c2, d2, rfl⟩ := h2.shape
    exact makes_big w nn _ a1 a2 b1 b2 _ _ _ _ _ _ (by simp; omega)

theorem list4 {l : List Value} (h : l.length = 4) : ∃ a b c d, l = [a, b, c, d] := by
  match l, h with
  | [a, b, c, d], _ => exact ⟨a, b, c, d, rfl⟩

theorem open_pair {H : Type} {enc : TypeId × Value → H} {W : World} {base : Nat} {v : Value} {d : DataW H} {p : List MemPlace} (hv : Value.okWide Try.prog W .any base 28 v)
    (h : DataW.Trod enc Try.prog W 0 (fun _ => true) true 28 v d p) : ∃ a1 a2 b1 b2 : Int, v = .agg #[.int .i64 a1, .int .i64 a2, .int .i64 b1, .int .i64 b2] := by
  obtain ⟨cs, rfl, hsz, _⟩ : ∃ cs, v = .agg cs ∧ cs.size = Try.prog.cellsOf 28 ∧ Row.okWide Try.prog W .any base 28 cs := by
    simpa [Value.okWide, Try.underlying28] using hv
  rw [show Try.prog.cellsOf 28 = 4 by kernel_rfl] at hsz
  obtain ⟨l⟩ := cs
  obtain ⟨c0, c1, c2, c3, rfl⟩ := list4 hsz
  obtain ⟨fuel, hf⟩ := h
  obtain ⟨xs, m, _, _, _, hl, hel⟩ := DataW.trod_array Try.underlying28 hf
  have e0 := hel 0 (by decide)
  have e1 := hel 1 (by decide)
  rw [Try.cellsS, List.getElem?_eq_getElem (by omega)] at e0 e1
  obtain ⟨⟨x1, x2⟩, z1⟩ := open_stamp e0
  obtain ⟨⟨y1, y2⟩, z2⟩ := open_stamp e1
  simp [encP, Value.cells] at z1 z2
  obtain ⟨rfl, rfl⟩ := z1
  obtain ⟨rfl, rfl⟩ := z2
  exact ⟨_, _, _, _, rfl⟩

set_option maxRecDepth 100000 in
theorem linkMakes_lifted (os : Os) (started : os.Started) (H : Type) (enc : TypeId × Value → H) :
    ReturnsInHanded {} Try.checked os 3 .any (Rows.linkMakesSpec.pre6 enc Try.prog Try.f3 Rows.linkMakesRow.domain false) (Rows.linkMakesSpec.post enc Try.prog Try.f3 false true false false) := by
  refine returnsInHanded_of_change (C := Try.checked) Try.own started (by kernel_rfl) Try.func3
    (ChangeSpec.witness6 (enc := enc) (C := Try.checked) false ⟨#[], #[.int .i64 0, .agg #[.int .i64 0, .slice none 0 0, .slice none 0 0], .agg #[.int .i64 0, .int .i64 0, .int .i64 0, .int .i64 0]], []⟩ 8 (by kernel_rfl) (by kernel_rfl) (by kernel_rfl) (by kernel_rfl)) ?_
  intro W base args ds gs before hval0 hW _ _
  have hval : ∀ (j : Nat) t v, Try.f3.params[j]? = some t → args[j]? = some v → Value.okWide Try.prog W .any base t v := hval0
  have hW' := hW
  obtain ⟨p, q, hA0, hV, rfl, _, _⟩ := hW
  have hA : DataW.TrodAll enc Try.prog W 0 (fun _ => true) true Try.f3.params.toList args.toList ds p := hA0
  rw [Try.params3] at hA hval
  obtain ⟨v0, v1, v2, d0, d1, d2, p0, p1, p2, rfl, rfl, rfl, h0, h1, h2⟩ := trodAll_three hA
  obtain ⟨rfl, rfl⟩ := trodVars_none hV
  obtain ⟨m, rfl, rfl, rfl, wm⟩ := open_int Try.underlying3 (hval 0 3 v0 rfl rfl) h0
  obtain ⟨l, hl⟩ := open_link (hval 1 25 v1 rfl rfl) h1
  obtain ⟨a1, a2, b1, b2, hv2⟩ := open_pair (hval 2 28 v2 rfl rfl) h2
  clear hA0 hval0
  simp only [List.append_nil, List.nil_append] at hW'
  have hlt : ∀ x ∈ p1, x.block < W.heap.size := fun x hx => hW'.lt x (by simp [hx])
  have hlt2 : ∀ x ∈ p2, x.block < W.heap.size := fun x hx => hW'.lt x (by simp [hx])
  have key := makes_all W v1 l m a1 a2 b1 b2 hl
  rw [← hv2] at key
  refine key.mono fun e W' ⟨he, hB⟩ => ?_
  subst he
  refine ⟨_, rfl, _, _, _, [], [] ++ (p1 ++ p2), [], hW', ?_, ?_, rfl, hB.frame _, fun h => by cases h⟩
  · exact trodAll_mk1 (shut_bool Try.underlying4 true)
  · exact trodAll_mk3 (shut_int Try.underlying3 wm) (Below.trod Try.laidOut (by kernel_rfl) (of_decide_eq_true (by kernel_rfl)) h1 hB hlt) (Below.trod Try.laidOut (by kernel_rfl) (of_decide_eq_true (by kernel_rfl)) h2 hB hlt2)

theorem linkMakes_holds : Rows.LinkMakesSaid :=
  OpenClaim.holds_of_wide 3 Try.f3 rfl rfl rfl rfl rfl rfl rfl ⟨rfl, rfl, rfl, rfl, rfl⟩ rfl rfl rfl rfl rfl (by kernel_rfl) Try.func3 (by kernel_rfl)
    (of_decide_eq_true (by kernel_rfl)) (by unfold Func.isWrapper; rw [if_neg (of_decide_eq_false (by kernel_rfl))]; exact ⟨rfl, rfl⟩)
    (fun os started H enc _ => linkMakes_lifted os started H enc)

end Go.Proofs.Ytijifbkikgooiaa
