/- Reports: shapes and tallies as arguments, opened. -/
import Derived.Test.YtnkpmeplapkobaaRepB
import Derived.Test.YtnkpmeplapkobaaLib5
namespace Go.Proofs.Ytnkpmeplapkobaa
open Go.ChangeShapes Go.WideShapes Go.ChangeAt Go.RowKit Go.Joins Go.Deep

theorem Try.own : ownKnob Try.prog.godebug = none := by kernel_rfl
theorem Try.laidOut : laidOutB Try.prog = true := by kernel_rfl
theorem Try.cellsI : Try.prog.cellsOf 2 = 1 := by kernel_rfl
theorem Try.cellsN : Try.prog.cellsOf 3 = 1 := by kernel_rfl
theorem Try.cellsB : Try.prog.cellsOf 4 = 1 := by kernel_rfl
theorem Try.cellsR : Try.prog.cellsOf 42 = 2 := by kernel_rfl
theorem Try.cellsRs : Try.prog.cellsOf 37 = 1 := by kernel_rfl
theorem Try.cellsT : Try.prog.cellsOf 26 = 1 := by kernel_rfl
theorem Try.cellsRss : Try.prog.cellsOf 24 = 1 := by kernel_rfl
theorem Try.cellsS : Try.prog.cellsOf 23 = 3 := by kernel_rfl

theorem open_shape {H : Type} {enc : TypeId × Value → H} {W : World} {base : Nat} {v : Value} {d : DataW H} {p : List MemPlace} (hv : Value.okWide Try.prog W .any base 23 v)
    (h : DataW.Trod enc Try.prog W 0 (fun _ => true) true 23 v d p) : ∃ n l s : Int, v = .agg #[.int .i64 n, .int .i64 l, .int .i64 s] := by
  obtain ⟨c0, c1, c2, y0, y1, y2, m, rfl, rfl, rfl, hy0, hy1, hy2⟩ := open_agg3 Try.underlying23 (by kernel_rfl) Try.cellsS hv h
  obtain ⟨x0, e0, _, _⟩ := DataW.trod_int Try.underlying3 hy0
  obtain ⟨x1, e1, _, _⟩ := DataW.trod_int Try.underlying3 hy1
  obtain ⟨x2, e2, _, _⟩ := DataW.trod_int Try.underlying3 hy2
  simp at e0 e1 e2
  subst e0 e1 e2
  exact ⟨_, _, _, rfl⟩
theorem open_reportC {H : Type} {enc : TypeId × Value → H} {W : World} {n : Nat} {cs : List Value} {y : DataW H × List MemPlace} (h : DataW.trod enc Try.prog W 0 (fun _ => true) true n 42 cs = some y) : ∃ z, cs = encR z := by
  obtain ⟨y0, y1, m, _, hl, h0, h1⟩ := trod_struct2 Try.underlying42 h
  rw [Try.cellsR] at hl
  match cs, hl with
  | [c0, c1], _ =>
    simp only [Try.cellsI, Try.cellsB] at h0 h1
    obtain ⟨x, e0, _⟩ := DataW.trod_bool Try.underlying4 h0
    obtain ⟨z, e1, _, _⟩ := DataW.trod_int Try.underlying2 h1
    simp at e0 e1
    subst e0 e1
    exact ⟨(x, z), rfl⟩
/-- A slice, each of whose elements is as R says. -/
theorem open_slE {H α : Type} [Inhabited α] {enc : TypeId × Value → H} {P : Program} {W : World} {t e : TypeId} {fuel : Nat} {v : Value} {x : DataW H × List MemPlace} (en : α → List Value) (k : Nat) (R : α → Prop) (ht : P.underlying t = some (.slice e)) (hk : P.cellsOf e = k) (hpos : 0 < k) (hlen : ∀ a, (en a).length = k)
    (hel : ∀ n cs y, DataW.trod enc P W 0 (fun _ => true) true n e cs = some y → ∃ z, cs = en z ∧ R z)
    (h : DataW.trod enc P W 0 (fun _ => true) true fuel t [v] = some x) : ∃ xs, Sl en k W v xs ∧ ∀ x ∈ xs, R x := by
  subst hk
  rcases open_slice ht h with ⟨hcs, _⟩ | ⟨a, len, cap, m, n, D, Pl, hcs, _, hl, _, hm, _, hx⟩
  · simp only [List.cons.injEq, and_true] at hcs
    subst hcs
    exact ⟨[], Sl.nil _ _ _, by simp⟩
  · simp only [List.cons.injEq, and_true] at hcs
    subst hcs
    simp only [if_true] at hm
    obtain ⟨f, hf⟩ := choose_lt (n := len) (p := fun i z => W.cells? 0 (a.add (i * P.cellsOf e)) (P.cellsOf e) = some (en z) ∧ R z) (fun i hi => by
      obtain ⟨cs', h1, h2⟩ := hx i (by omega)
      obtain ⟨z, rfl, hz⟩ := hel _ _ _ h2
      exact ⟨z, h1, hz⟩)
    refine ⟨(List.range len).map f, ⟨some a, cap, by simp, ⟨by simpa using hl, fun h => by cases h⟩, ?_⟩, fun x hx => ?_⟩
    · by_cases h0 : len = 0
      · exact .inl (by subst h0; rfl)
      · right
        obtain ⟨b, off, spot⟩ := a
        have hb : b < W.heap.size := by
          have := World.cells?_block (hf 0 (by omega)).1 hpos
          simpa [Addr.add] using this
        have hs : spot = none := by
          have h1 := (World.cells?_some (hf 0 (by omega)).1).2.2 0 hpos
          rw [List.getElem?_eq_getElem (by rw [hlen]; exact hpos)] at h1
          have h2 := World.cell?_spot h1
          simpa [Addr.add] using h2
        subst hs
        have hc : ∀ i, i < len → ∀ j u, (en (f i))[j]? = some u → W.cell? ⟨b, off + i * P.cellsOf e + j, none⟩ = some u := fun i hi j u hu => by
          have h1 := (World.cells?_some (hf i hi).1)
          have hj : j < P.cellsOf e := by rw [← hlen (f i)]; exact (List.getElem?_eq_some_iff.1 hu).1
          have h2 := h1.2.2 j hj
          rw [add_none, add_none, hu] at h2
          exact h2
        refine ⟨b, off, rfl, hb, fun i z hz j u hu => ?_⟩
        obtain ⟨hi, rfl⟩ := range_at hz
        exact hc i hi j u hu
    · obtain ⟨i, hi, rfl⟩ := List.mem_map.1 hx
      exact (hf i (List.mem_range.1 hi)).2
theorem open_rows {H : Type} {enc : TypeId × Value → H} {W : World} {n : Nat} {v : Value} {y : DataW H × List MemPlace} (h : DataW.trod enc Try.prog W 0 (fun _ => true) true n 24 [v] = some y) : ∃ t, Rows2 W v t := by
  obtain ⟨vs, h1, h2⟩ := open_slE (encV id) 1 (fun u => ∃ xs, Sl encR 2 W u xs) Try.underlying24 Try.cellsRs (by decide) (fun _ => rfl) (fun n cs y hy => by
    obtain ⟨c, rfl⟩ : ∃ c, cs = [c] := by
      rcases open_slice Try.underlying37 hy with ⟨hcs, _⟩ | ⟨a, len, cap, m, n, D, Pl, hcs, _⟩
      · exact ⟨_, hcs⟩
      · exact ⟨_, hcs⟩
    exact ⟨c, rfl, open_sl encR 2 Try.underlying37 Try.cellsR (by decide) encR_len (fun n cs y hy => open_reportC hy) hy⟩) h
  obtain ⟨f, hf⟩ := choose_lt (n := vs.length) (p := fun i (xs : List (Bool × Int)) => ∀ u, vs[i]? = some u → Sl encR 2 W u xs) (fun i hi => by
    obtain ⟨u, hu⟩ := at_some (xs := vs) (k := i) hi
    obtain ⟨xs, hxs⟩ := h2 u (List.mem_of_getElem? hu)
    exact ⟨xs, fun u' hu' => by rw [hu] at hu'; cases hu'; exact hxs⟩)
  refine ⟨(List.range vs.length).map f, vs, h1, by simp, fun i u xs hu hx => ?_⟩
  obtain ⟨hi, rfl⟩ := range_at hx
  exact hf i hi u hu

theorem open_tally {H : Type} {enc : TypeId × Value → H} {W : World} {base : Nat} {v : Value} {d : DataW H} {p : List MemPlace} (hv : Value.okWide Try.prog W .any base 26 v)
    (h : DataW.Trod enc Try.prog W 0 (fun _ => true) true 26 v d p) : ∃ a cap t, v = .agg #[.slice a t.length cap] ∧ Rows2 W (.slice a t.length cap) t := by
  obtain ⟨cs, rfl, hsz⟩ := okWide_struct Try.underlying26 hv
  rw [Try.cellsT] at hsz
  obtain ⟨c0, rfl⟩ : ∃ c0, cs = #[c0] := by
    obtain ⟨l⟩ := cs
    match l, hsz with
    | [c0], _ => exact ⟨c0, rfl⟩
  obtain ⟨fuel, hf⟩ := h
  obtain ⟨y0, m, _, _, h0⟩ := trod_struct1 Try.underlying26 hf
  simp only [Try.cellsRss] at h0
  have h1 : DataW.trod enc Try.prog W 0 (fun _ => true) true m 24 [c0] = some y0 := h0
  obtain ⟨t, ht⟩ := open_rows h1
  obtain ⟨a, cap, rfl⟩ := ht.shape
  exact ⟨a, cap, t, rfl, ht⟩

end Go.Proofs.Ytnkpmeplapkobaa
