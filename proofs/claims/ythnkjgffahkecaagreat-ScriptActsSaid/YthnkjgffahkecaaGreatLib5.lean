/- General facts: a slice of elements with a fixed cell encoding, as an argument, reads as a list. No program is in sight. -/
import Derived.Test.YthnkjgffahkecaaGreatLib
import Derived.ProofKit
import Derived.Lib.SmallJoins
import Derived.Deep.Slices
namespace Go.Proofs.YthnkjgffahkecaaGreat
open Go.ChangeShapes Go.WideShapes Go.ChangeAt Go.RowKit Go.Joins Go.Deep

theorem add_none (b off n : Nat) : Addr.add ⟨b, off, none⟩ n = ⟨b, off + n, none⟩ := by
  unfold Addr.add
  split
  · rename_i h; subst h; rfl
  · rfl
theorem range_at {α : Type} {n i : Nat} {f : Nat → α} {x : α} (h : ((List.range n).map f)[i]? = some x) : i < n ∧ x = f i := by
  simp only [List.getElem?_map, Option.map_eq_some_iff] at h
  obtain ⟨j, h1, h2⟩ := h
  obtain ⟨hj, h3⟩ := List.getElem?_eq_some_iff.1 h1
  simp at h3 hj
  exact ⟨hj, by rw [← h2, ← h3]⟩

theorem open_sl {H α : Type} [Inhabited α] {enc : TypeId × Value → H} {P : Program} {W : World} {t e : TypeId} {fuel : Nat} {v : Value} {x : DataW H × List MemPlace} (en : α → List Value) (k : Nat) (ht : P.underlying t = some (.slice e)) (hk : P.cellsOf e = k) (hpos : 0 < k) (hlen : ∀ a, (en a).length = k)
    (hel : ∀ n cs y, DataW.trod enc P W 0 (fun _ => true) true n e cs = some y → ∃ z, cs = en z)
    (h : DataW.trod enc P W 0 (fun _ => true) true fuel t [v] = some x) : ∃ xs, Sl en k W v xs := by
  subst hk
  rcases open_slice ht h with ⟨hcs, _⟩ | ⟨a, len, cap, m, n, D, Pl, hcs, _, hl, _, hm, _, hx⟩
  · simp only [List.cons.injEq, and_true] at hcs
    subst hcs
    exact ⟨[], Sl.nil _ _ _⟩
  · simp only [List.cons.injEq, and_true] at hcs
    subst hcs
    simp only [if_true] at hm
    obtain ⟨f, hf⟩ := choose_lt (n := len) (p := fun i z => W.cells? 0 (a.add (i * P.cellsOf e)) (P.cellsOf e) = some (en z)) (fun i hi => by
      obtain ⟨cs', h1, h2⟩ := hx i (by omega)
      obtain ⟨z, rfl⟩ := hel _ _ _ h2
      exact ⟨z, h1⟩)
    refine ⟨(List.range len).map f, some a, cap, by simp, ⟨by simpa using hl, fun h => by cases h⟩, ?_⟩
    by_cases h0 : len = 0
    · exact .inl (by subst h0; rfl)
    · right
      obtain ⟨b, off, spot⟩ := a
      have hb : b < W.heap.size := by
        have := World.cells?_block (hf 0 (by omega)) hpos
        simpa [Addr.add] using this
      have hs : spot = none := by
        have h1 := (World.cells?_some (hf 0 (by omega))).2.2 0 hpos
        rw [List.getElem?_eq_getElem (by rw [hlen]; exact hpos)] at h1
        have h2 := World.cell?_spot h1
        simpa [Addr.add] using h2
      subst hs
      have hc : ∀ i, i < len → ∀ j u, (en (f i))[j]? = some u → W.cell? ⟨b, off + i * P.cellsOf e + j, none⟩ = some u := fun i hi j u hu => by
        have h1 := (World.cells?_some (hf i hi))
        have hj : j < P.cellsOf e := by rw [← hlen (f i)]; exact (List.getElem?_eq_some_iff.1 hu).1
        have h2 := h1.2.2 j hj
        rw [add_none, add_none, hu] at h2
        exact h2
      refine ⟨b, off, rfl, hb, fun i z hz j u hu => ?_⟩
      obtain ⟨hi, rfl⟩ := range_at hz
      exact hc i hi j u hu


theorem okWide_arr {P : Program} {w : World} {r : Reach} {base : Nat} {t : TypeId} {v : Value} {n : Nat} {e : TypeId} (ht : P.underlying t = some (.array n e)) (h : Value.okWide P w r base t v) : ∃ cs, v = .agg cs ∧ cs.size = P.cellsOf t := by
  simp only [Value.okWide, ht] at h
  obtain ⟨cs, h1, h2, _⟩ := h
  exact ⟨cs, h1, h2⟩

end Go.Proofs.YthnkjgffahkecaaGreat
