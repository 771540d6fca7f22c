/- The stamps of one link, restarts between, in whatever order and how often they come: each is taken at most once, in the order of sending: the row LinkHolds, for every input. -/
import Derived.Test.YtijifbkikgooiaaLinkY
import Derived.Test.YtijifbkikgooiaaLinkS
namespace Go.Proofs.Ytijifbkikgooiaa
open Go.ChangeShapes Go.WideShapes Go.ChangeAt Go.RowKit Go.Joins Go.Shelf

set_option maxHeartbeats 1000000 in
theorem holds_big (w : World) (a b : Option Addr) (n m c d : Nat) (h : 40 < n ∨ n ≤ 40 ∧ 80 < m) :
    Calls Try.prog 6 #[.slice a n c, .slice b m d] w fun e w' => e = .returned (.bool true) ∧ Below w.heap.size w w' := by
  rcases h with h | ⟨h, h'⟩
  · have h1 : decide (40 < n) = true := by simpa using h
    go_enter Try.func6, Try.ntmps6
    go_wp2_with fail
    refine (works_any w).mono ?_
    rintro e W2 ⟨rfl, hB2⟩
    go_wp2
    go_ret
    exact ⟨rfl, hB2⟩
  · have h1 : decide (40 < n) = false := by simpa using h
    have h2 : decide (80 < m) = true := by simpa using h'
    go_enter Try.func6, Try.ntmps6
    go_wp2_with fail
    refine (works_any w).mono ?_
    rintro e W2 ⟨rfl, hB2⟩
    go_wp2
    go_ret
    exact ⟨rfl, hB2⟩

theorem holds_all (w : World) (v0 v1 : Value) (rs : List Bool) (cs : List Int) (h1 : Sl (encV Value.bool) 1 w v0 rs) (h2 : Sl encI 1 w v1 cs) :
    Calls Try.prog 6 #[v0, v1] w fun e w' => e = .returned (.bool true) ∧ Below w.heap.size w w' := by
  obtain ⟨a, c, rfl⟩ := h1.shape
  obtain ⟨b, d, rfl⟩ := h2.shape
  by_cases h : rs.length ≤ 40 ∧ cs.length ≤ 80
  · exact holds_small w a b c d rs cs h.1 h.2 h1 h2
  · exact holds_big w a b _ _ _ _ (by omega)

theorem Try.cellsB : Try.prog.cellsOf 4 = 1 := by kernel_rfl
theorem Try.cellsN : Try.prog.cellsOf 3 = 1 := by kernel_rfl

set_option maxRecDepth 100000 in
theorem linkHolds_lifted (os : Os) (started : os.Started) (H : Type) (enc : TypeId × Value → H) :
    ReturnsInHanded {} Try.checked os 6 .any (Rows.linkHoldsSpec.pre6 enc Try.prog Try.f6 Rows.linkHoldsRow.domain false) (Rows.linkHoldsSpec.post enc Try.prog Try.f6 false true false false) := by
  refine returnsInHanded_of_change (C := Try.checked) Try.own started (by kernel_rfl) Try.func6
    (ChangeSpec.witness6 (enc := enc) (C := Try.checked) false ⟨#[], #[.slice none 0 0, .slice none 0 0], []⟩ 8 (by kernel_rfl) (by kernel_rfl) (by kernel_rfl) (by kernel_rfl)) ?_
  intro W base args ds gs before hval0 hW _ _
  have hval : ∀ (j : Nat) t v, Try.f6.params[j]? = some t → args[j]? = some v → Value.okWide Try.prog W .any base t v := hval0
  have hW' := hW
  obtain ⟨p, q, hA0, hV, rfl, _, _⟩ := hW
  have hA : DataW.TrodAll enc Try.prog W 0 (fun _ => true) true Try.f6.params.toList args.toList ds p := hA0
  rw [Try.params6] at hA hval
  obtain ⟨v0, v1, d0, d1, p0, p1, rfl, rfl, rfl, h0, h1⟩ := trodAll_two hA
  obtain ⟨rfl, rfl⟩ := trodVars_none hV
  obtain ⟨aa, la, ca, rfl⟩ := okWide_slice Try.underlying55 (hval 0 55 v0 rfl rfl)
  obtain ⟨ab, lb, cb, rfl⟩ := okWide_slice Try.underlying56 (hval 1 56 v1 rfl rfl)
  obtain ⟨n0, g0⟩ := h0
  obtain ⟨n1, g1⟩ := h1
  obtain ⟨rs, s0⟩ := open_sl (encV Value.bool) 1 Try.underlying55 Try.cellsB (by decide) (fun _ => rfl) (fun n cs y hy => by
    obtain ⟨z, e, _⟩ := DataW.trod_bool Try.underlying4 hy
    exact ⟨z, e⟩) g0
  obtain ⟨cs, s1⟩ := open_sl encI 1 Try.underlying56 Try.cellsN (by decide) encI_len (fun n cs y hy => by
    obtain ⟨z, e, _, _⟩ := DataW.trod_int Try.underlying3 hy
    exact ⟨z, e⟩) g1
  have h0 : DataW.Trod enc Try.prog W 0 (fun _ => true) true 55 (.slice aa la ca) d0 p0 := ⟨n0, g0⟩
  have h1 : DataW.Trod enc Try.prog W 0 (fun _ => true) true 56 (.slice ab lb cb) d1 p1 := ⟨n1, g1⟩
  clear hA0 hval0
  simp only [List.append_nil] at hW'
  have hlt : ∀ x ∈ p0 ++ p1, x.block < W.heap.size := fun x hx => by simpa using hW'.lt x (by simpa using hx)
  refine (holds_all W _ _ rs cs s0 s1).mono fun e W' ⟨he, hB⟩ => ?_
  subst he
  refine ⟨_, rfl, _, _, _, [], p0 ++ p1, [], hW', ?_, ?_, rfl, hB.frame _, fun h => by cases h⟩
  · exact trodAll_mk1 (shut_bool Try.underlying4 true)
  · exact trodAll_mk2 (Below.trod Try.laidOut (by kernel_rfl) (of_decide_eq_true (by kernel_rfl)) h0 hB (fun x hx => hlt x (by simp [hx]))) (Below.trod Try.laidOut (by kernel_rfl) (of_decide_eq_true (by kernel_rfl)) h1 hB (fun x hx => hlt x (by simp [hx])))

theorem linkHolds_holds : Rows.LinkHoldsSaid :=
  OpenClaim.holds_of_wide 6 Try.f6 rfl rfl rfl rfl rfl rfl rfl ⟨rfl, rfl, rfl, rfl, rfl⟩ rfl rfl rfl rfl rfl (by kernel_rfl) Try.func6 (by kernel_rfl)
    (of_decide_eq_true (by kernel_rfl)) (by unfold Func.isWrapper; rw [if_neg (of_decide_eq_false (by kernel_rfl))]; exact ⟨rfl, rfl⟩)
    (fun os started H enc _ => linkHolds_lifted os started H enc)

end Go.Proofs.Ytijifbkikgooiaa
