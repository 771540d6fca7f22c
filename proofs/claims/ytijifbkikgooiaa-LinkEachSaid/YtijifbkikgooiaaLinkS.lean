/- Link: the link as an argument, opened. -/
import Derived.Test.YtijifbkikgooiaaLinkE
import Derived.ProofKit
import Derived.Lib.SmallJoins
import Derived.Deep.Slices
namespace Go.Proofs.Ytijifbkikgooiaa
open Go.ChangeShapes Go.WideShapes Go.ChangeAt Go.RowKit Go.Joins Go.Deep

theorem Try.own : ownKnob Try.prog.godebug = none := by kernel_rfl
theorem Try.laidOut : laidOutB Try.prog = true := by kernel_rfl

theorem add_none (b off n : Nat) : Addr.add ⟨b, off, none⟩ n = ⟨b, off + n, none⟩ := by
  unfold Addr.add
  split
  · rename_i h; subst h; rfl
  · rfl
theorem range_at {α : Type} {n i : Nat} {f : Nat → α} {x : α} (h : ((List.range n).map f)[i]? = some x) : i < n ∧ x = f i := by
  simp only [List.getElem?_map, Option.map_eq_some_iff] at h
  obtain ⟨j, h1, h2⟩ := h
  obtain ⟨hj, h3⟩ := List.getElem?_eq_some_iff.1 h1
  simp at h3 hj
  exact ⟨hj, by rw [← h2, ← h3]⟩

theorem open_sl {H α : Type} [Inhabited α] {enc : TypeId × Value → H} {P : Program} {W : World} {t e : TypeId} {fuel : Nat} {v : Value} {x : DataW H × List MemPlace} (en : α → List Value) (k : Nat) (ht : P.underlying t = some (.slice e)) (hk : P.cellsOf e = k) (hpos : 0 < k) (hlen : ∀ a, (en a).length = k)
    (hel : ∀ n cs y, DataW.trod enc P W 0 (fun _ => true) true n e cs = some y → ∃ z, cs = en z)
    (h : DataW.trod enc P W 0 (fun _ => true) true fuel t [v] = some x) : ∃ xs, Sl en k W v xs := by
  subst hk
  rcases open_slice ht h with ⟨hcs, _⟩ | ⟨a, len, cap, m, n, D, Pl, hcs, _, hl, _, hm, _, hx⟩
  · simp only [List.cons.injEq, and_true] at hcs
    subst hcs
    exact ⟨[], Sl.nil _ _ _⟩
  · simp only [List.cons.injEq, and_true] at hcs
    subst hcs
    simp only [if_true] at hm
    obtain ⟨f, hf⟩ := choose_lt (n := len) (p := fun i z => W.cells? 0 (a.add (i * P.cellsOf e)) (P.cellsOf e) = some (en z)) (fun i hi => by
      obtain ⟨cs', h1, h2⟩ := hx i (by omega)
      obtain ⟨z, rfl⟩ := hel _ _ _ h2
      exact ⟨z, h1⟩)
    refine ⟨(List.range len).map f, some a, cap, by simp, ⟨by simpa using hl, fun h => by cases h⟩, ?_⟩
    by_cases h0 : len = 0
    · exact .inl (by subst h0; rfl)
    · right
      obtain ⟨b, off, spot⟩ := a
      have hb : b < W.heap.size := by
        have := World.cells?_block (hf 0 (by omega)) hpos
        simpa [Addr.add] using this
      have hs : spot = none := by
        have h1 := (World.cells?_some (hf 0 (by omega))).2.2 0 hpos
        rw [List.getElem?_eq_getElem (by rw [hlen]; exact hpos)] at h1
        have h2 := World.cell?_spot h1
        simpa [Addr.add] using h2
      subst hs
      have hc : ∀ i, i < len → ∀ j u, (en (f i))[j]? = some u → W.cell? ⟨b, off + i * P.cellsOf e + j, none⟩ = some u := fun i hi j u hu => by
        have h1 := (World.cells?_some (hf i hi))
        have hj : j < P.cellsOf e := by rw [← hlen (f i)]; exact (List.getElem?_eq_some_iff.1 hu).1
        have h2 := h1.2.2 j hj
        rw [add_none, add_none, hu] at h2
        exact h2
      refine ⟨b, off, rfl, hb, fun i z hz j u hu => ?_⟩
      obtain ⟨hi, rfl⟩ := range_at hz
      exact hc i hi j u hu

theorem Try.cellsL : Try.prog.cellsOf 25 = 3 := by kernel_rfl
theorem Try.cellsI : Try.prog.cellsOf 2 = 1 := by kernel_rfl
theorem Try.cellsS : Try.prog.cellsOf 27 = 2 := by kernel_rfl

theorem open_stamp {H : Type} {enc : TypeId × Value → H} {W : World} {n : Nat} {cs : List Value} {y : DataW H × List MemPlace} (h : DataW.trod enc Try.prog W 0 (fun _ => true) true n 27 cs = some y) : ∃ z, cs = encP z := by
  obtain ⟨y0, y1, m, _, hl, h0, h1⟩ := trod_struct2 Try.underlying27 h
  rw [Try.cellsS] at hl
  match cs, hl with
  | [c0, c1], _ =>
    simp only [Try.cellsI] at h0 h1
    obtain ⟨x, e0, _, _⟩ := DataW.trod_int Try.underlying2 h0
    obtain ⟨z, e1, _, _⟩ := DataW.trod_int Try.underlying2 h1
    simp at e0 e1
    subst e0 e1
    exact ⟨(x, z), rfl⟩

theorem open_link {H : Type} {enc : TypeId × Value → H} {W : World} {base : Nat} {v : Value} {d : DataW H} {p : List MemPlace} (hv : Value.okWide Try.prog W .any base 25 v)
    (h : DataW.Trod enc Try.prog W 0 (fun _ => true) true 25 v d p) : ∃ l : Lk, LkR W v l := by
  obtain ⟨c0, c1, c2, y0, y1, y2, m, rfl, rfl, rfl, hy0, hy1, hy2⟩ := open_agg3 Try.underlying25 (by kernel_rfl) Try.cellsL hv h
  obtain ⟨x, e0, rfl, _⟩ := DataW.trod_int Try.underlying2 hy0
  simp at e0
  subst e0
  obtain ⟨xs, s1⟩ := open_sl encI 1 Try.underlying22 Try.cellsI (by decide) encI_len (fun n cs y hy => by
    obtain ⟨z, e, _, _⟩ := DataW.trod_int Try.underlying2 hy
    exact ⟨z, e⟩) hy1
  obtain ⟨ys, s2⟩ := open_sl encP 2 Try.underlying23 Try.cellsS (by decide) encP_len (fun n cs y hy => open_stamp hy) hy2
  exact ⟨⟨x, xs, ys⟩, _, _, rfl, s1, s2⟩

end Go.Proofs.Ytijifbkikgooiaa
