/- Acts, configs, as arguments: opened. -/
import Derived.Test.YthnkjgffahkecaaGreatScRw
import Derived.Test.YthnkjgffahkecaaGreatLib5
import Derived.Test.YthnkjgffahkecaaGreatRows
namespace Go.Proofs.YthnkjgffahkecaaGreat
open Go.ChangeShapes Go.WideShapes Go.ChangeAt Go.RowKit Go.Joins Go.Deep Go.Shelf

set_option maxRecDepth 100000
theorem Tryz.own : ownKnob Tryz.prog.godebug = none := by kernel_rfl
theorem Tryz.laidOut : laidOutB Tryz.prog = true := by kernel_rfl
theorem Tryz.cellsI : Tryz.prog.cellsOf 2 = 1 := by kernel_rfl
theorem Tryz.cellsN : Tryz.prog.cellsOf 3 = 1 := by kernel_rfl
theorem Tryz.cellsB : Tryz.prog.cellsOf 4 = 1 := by kernel_rfl
theorem Tryz.cellsU : Tryz.prog.cellsOf 80 = 1 := by kernel_rfl
theorem Tryz.cellsY8 : Tryz.prog.cellsOf 5 = 1 := by kernel_rfl
theorem Tryz.cellsAcK : Tryz.prog.cellsOf 32 = 1 := by kernel_rfl
theorem Tryz.cellsAsK : Tryz.prog.cellsOf 33 = 1 := by kernel_rfl
theorem Tryz.cellsMo : Tryz.prog.cellsOf 34 = 1 := by kernel_rfl
theorem Tryz.cellsSh : Tryz.prog.cellsOf 23 = 3 := by kernel_rfl
theorem Tryz.cellsAsk : Tryz.prog.cellsOf 36 = 8 := by kernel_rfl
theorem Tryz.cellsA2 : Tryz.prog.cellsOf 37 = 2 := by kernel_rfl
theorem Tryz.cellsAct : Tryz.prog.cellsOf 39 = 14 := by kernel_rfl
theorem Tryz.cellsCtr : Tryz.prog.cellsOf 82 = 3 := by kernel_rfl
theorem Tryz.cellsFrm : Tryz.prog.cellsOf 84 = 4 := by kernel_rfl
theorem Tryz.cellsFrs : Tryz.prog.cellsOf 24 = 1 := by kernel_rfl
theorem Tryz.cellsCfg : Tryz.prog.cellsOf 26 = 9 := by kernel_rfl
theorem trod_fld {H : Type} {enc : TypeId × Value → H} {P : Program} {w : World} {base : Nat} {spare : Nat → Bool} {held : Bool} {fuel : Nat} {t : TypeId} {cs : List Value} {x : DataW H × List MemPlace} {fs : Array Field} (ht : P.underlying t = some (.struct fs)) {i : Nat} {f : Field} (hf0 : fs.toList[i]? = some f) (h : DataW.trod enc P w base spare held fuel t cs = some x) :
    ∃ n y, DataW.trod enc P w base spare held n f.type ((cs.drop f.offset).take (P.cellsOf f.type)) = some y := by
  have hf : fs[i]? = some f := by simpa using hf0
  obtain ⟨xs, n, _, _, _, hl, hi⟩ := DataW.trod_struct ht h
  have h1 := hi i f hf
  have hlt : i < xs.length := by rw [hl]; exact (Array.getElem?_eq_some_iff.1 hf).1
  rw [List.getElem?_eq_getElem hlt] at h1
  exact ⟨n, _, h1⟩
theorem trod_len {H : Type} {enc : TypeId × Value → H} {P : Program} {w : World} {base : Nat} {spare : Nat → Bool} {held : Bool} {fuel : Nat} {t : TypeId} {cs : List Value} {x : DataW H × List MemPlace} {fs : Array Field} (ht : P.underlying t = some (.struct fs)) (h : DataW.trod enc P w base spare held fuel t cs = some x) : cs.length = P.cellsOf t := by
  obtain ⟨_, _, _, _, h1, _⟩ := DataW.trod_struct ht h
  exact h1
theorem int_bd {n : Int} (h : (Lit.int .i64 n).wf = true) : -9223372036854775808 ≤ n ∧ n ≤ 9223372036854775807 := by
  simpa [Lit.wf, IntKind.min, IntKind.max, IntKind.bits, IntKind.signed] using h
theorem open_ctrC {H : Type} {enc : TypeId × Value → H} {W : World} {n : Nat} {cs : List Value} {y : DataW H × List MemPlace} (h : DataW.trod enc Tryz.prog W 0 (fun _ => true) true n 82 cs = some y) : ∃ z : Ctr, cs = ctrL z := by
  have hl := trod_len Tryz.underlying82 h
  rw [Tryz.cellsCtr] at hl
  match cs, hl with
  | [c0, c1, c2], _ =>
    obtain ⟨n0, y0, h0⟩ := trod_fld Tryz.underlying82 (i := 0) rfl h
    simp only [Tryz.cellsI] at h0
    obtain ⟨x0, e0, _, b0⟩ := DataW.trod_int Tryz.underlying2 h0
    simp at e0
    obtain ⟨n1, y1, h1⟩ := trod_fld Tryz.underlying82 (i := 1) rfl h
    simp only [Tryz.cellsI] at h1
    obtain ⟨x1, e1, _, b1⟩ := DataW.trod_int Tryz.underlying2 h1
    simp at e1
    obtain ⟨n2, y2, h2⟩ := trod_fld Tryz.underlying82 (i := 2) rfl h
    simp only [Tryz.cellsU] at h2
    obtain ⟨x2, e2, _, b2⟩ := DataW.trod_int Tryz.underlying80 h2
    simp at e2
    subst e0
    subst e1
    subst e2
    exact ⟨(x0, x1, x2), rfl⟩
theorem open_frmC {H : Type} {enc : TypeId × Value → H} {W : World} {n : Nat} {cs : List Value} {y : DataW H × List MemPlace} (h : DataW.trod enc Tryz.prog W 0 (fun _ => true) true n 84 cs = some y) : ∃ z : Frm, cs = frmL z := by
  have hl := trod_len Tryz.underlying84 h
  rw [Tryz.cellsFrm] at hl
  match cs, hl with
  | [c0, c1, c2, c3], _ =>
    obtain ⟨n0, y0, h0⟩ := trod_fld Tryz.underlying84 (i := 0) rfl h
    simp only [Tryz.cellsB] at h0
    obtain ⟨x0, e0, _⟩ := DataW.trod_bool Tryz.underlying4 h0
    simp at e0
    obtain ⟨n1, y1, h1⟩ := trod_fld Tryz.underlying84 (i := 1) rfl h
    simp only [Tryz.cellsCtr] at h1
    obtain ⟨x1, e1⟩ := open_ctrC h1
    simp [ctrL] at e1
    subst e0
    obtain ⟨rfl, rfl, rfl⟩ := e1
    exact ⟨(x0, x1), rfl⟩
theorem open_askC {H : Type} {enc : TypeId × Value → H} {W : World} {n : Nat} {cs : List Value} {y : DataW H × List MemPlace} (h : DataW.trod enc Tryz.prog W 0 (fun _ => true) true n 36 cs = some y) : ∃ q : Ask, cs = askL q ∧ (-9223372036854775808 ≤ q.chg ∧ q.chg ≤ 9223372036854775807) := by
  have hl := trod_len Tryz.underlying36 h
  rw [Tryz.cellsAsk] at hl
  match cs, hl with
  | [c0, c1, c2, c3, c4, c5, c6, c7], _ =>
    obtain ⟨n0, y0, h0⟩ := trod_fld Tryz.underlying36 (i := 0) rfl h
    simp only [Tryz.cellsAsK] at h0
    obtain ⟨x0, e0, _, b0⟩ := DataW.trod_int Tryz.underlying33 h0
    simp at e0
    obtain ⟨n1, y1, h1⟩ := trod_fld Tryz.underlying36 (i := 1) rfl h
    simp only [Tryz.cellsN] at h1
    obtain ⟨x1, e1, _, b1⟩ := DataW.trod_int Tryz.underlying3 h1
    simp at e1
    obtain ⟨n2, y2, h2⟩ := trod_fld Tryz.underlying36 (i := 2) rfl h
    simp only [Tryz.cellsMo] at h2
    obtain ⟨x2, e2, _, b2⟩ := DataW.trod_int Tryz.underlying34 h2
    simp at e2
    obtain ⟨n3, y3, h3⟩ := trod_fld Tryz.underlying36 (i := 3) rfl h
    simp only [Tryz.cellsN] at h3
    obtain ⟨x3, e3, _, b3⟩ := DataW.trod_int Tryz.underlying3 h3
    simp at e3
    obtain ⟨n4, y4, h4⟩ := trod_fld Tryz.underlying36 (i := 4) rfl h
    simp only [Tryz.cellsI] at h4
    obtain ⟨x4, e4, _, b4⟩ := DataW.trod_int Tryz.underlying2 h4
    simp at e4
    obtain ⟨n5, y5, h5⟩ := trod_fld Tryz.underlying36 (i := 5) rfl h
    simp only [Tryz.cellsN] at h5
    obtain ⟨x5, e5, _, b5⟩ := DataW.trod_int Tryz.underlying3 h5
    simp at e5
    obtain ⟨n6, y6, h6⟩ := trod_fld Tryz.underlying36 (i := 6) rfl h
    simp only [Tryz.cellsI] at h6
    obtain ⟨x6, e6, _, b6⟩ := DataW.trod_int Tryz.underlying2 h6
    simp at e6
    obtain ⟨n7, y7, h7⟩ := trod_fld Tryz.underlying36 (i := 7) rfl h
    simp only [Tryz.cellsI] at h7
    obtain ⟨x7, e7, _, b7⟩ := DataW.trod_int Tryz.underlying2 h7
    simp at e7
    subst e0
    subst e1
    subst e2
    subst e3
    subst e4
    subst e5
    subst e6
    subst e7
    exact ⟨⟨x0, x1, x2, x3, x4, x5, x6, x7⟩, rfl, int_bd b7⟩
theorem open_int2C {H : Type} {enc : TypeId × Value → H} {W : World} {n : Nat} {cs : List Value} {y : DataW H × List MemPlace} (h : DataW.trod enc Tryz.prog W 0 (fun _ => true) true n 37 cs = some y) : ∃ a b : Int, cs = [.int .i64 a, .int .i64 b] := by
  obtain ⟨xs, m, _, _, hl, hlen, hi⟩ := DataW.trod_array Tryz.underlying37 h
  rw [Tryz.cellsA2] at hl
  simp only [Tryz.cellsN] at hi
  match cs, hl with
  | [c0, c1], _ =>
    match xs, hlen with
    | [y0, y1], _ =>
      obtain ⟨x0, e0, _, _⟩ := DataW.trod_int Tryz.underlying3 (hi 0 (by decide))
      obtain ⟨x1, e1, _, _⟩ := DataW.trod_int Tryz.underlying3 (hi 1 (by decide))
      simp at e0 e1
      subst e0 e1
      exact ⟨_, _, rfl⟩
theorem open_actC {H : Type} {enc : TypeId × Value → H} {W : World} {n : Nat} {cs : List Value} {y : DataW H × List MemPlace} (h : DataW.trod enc Tryz.prog W 0 (fun _ => true) true n 39 cs = some y) : ∃ a : Ac, cs = actL a ∧ AcOk2 a := by
  have hl := trod_len Tryz.underlying39 h
  rw [Tryz.cellsAct] at hl
  match cs, hl with
  | [c0, c1, c2, c3, c4, c5, c6, c7, c8, c9, c10, c11, c12, c13], _ =>
    obtain ⟨n0, y0, h0⟩ := trod_fld Tryz.underlying39 (i := 0) rfl h
    simp only [Tryz.cellsAcK] at h0
    obtain ⟨x0, e0, _, b0⟩ := DataW.trod_int Tryz.underlying32 h0
    simp at e0
    obtain ⟨n1, y1, h1⟩ := trod_fld Tryz.underlying39 (i := 1) rfl h
    simp only [Tryz.cellsN] at h1
    obtain ⟨x1, e1, _, b1⟩ := DataW.trod_int Tryz.underlying3 h1
    simp at e1
    obtain ⟨n2, y2, h2⟩ := trod_fld Tryz.underlying39 (i := 2) rfl h
    simp only [Tryz.cellsN] at h2
    obtain ⟨x2, e2, _, b2⟩ := DataW.trod_int Tryz.underlying3 h2
    simp at e2
    obtain ⟨n3, y3, h3⟩ := trod_fld Tryz.underlying39 (i := 3) rfl h
    simp only [Tryz.cellsN] at h3
    obtain ⟨x3, e3, _, b3⟩ := DataW.trod_int Tryz.underlying3 h3
    simp at e3
    obtain ⟨n4, y4, h4⟩ := trod_fld Tryz.underlying39 (i := 4) rfl h
    simp only [Tryz.cellsAsk] at h4
    obtain ⟨q, e4, b4⟩ := open_askC h4
    simp [askL] at e4
    obtain ⟨n5, y5, h5⟩ := trod_fld Tryz.underlying39 (i := 5) rfl h
    simp only [Tryz.cellsA2] at h5
    obtain ⟨k0, k1, e5⟩ := open_int2C h5
    simp at e5
    subst e0
    subst e1
    subst e2
    subst e3
    obtain ⟨rfl, rfl, rfl, rfl, rfl, rfl, rfl, rfl⟩ := e4
    obtain ⟨rfl, rfl⟩ := e5
    exact ⟨⟨x0, x1, x2, x3, q, k0, k1⟩, rfl, b4, int_bd b0⟩
theorem open_shapeC {H : Type} {enc : TypeId × Value → H} {W : World} {n : Nat} {cs : List Value} {y : DataW H × List MemPlace} (h : DataW.trod enc Tryz.prog W 0 (fun _ => true) true n 23 cs = some y) : ∃ n l s : Int, cs = [.int .i64 n, .int .i64 l, .int .i64 s] := by
  have hl := trod_len Tryz.underlying23 h
  rw [Tryz.cellsSh] at hl
  match cs, hl with
  | [c0, c1, c2], _ =>
    obtain ⟨n0, y0, h0⟩ := trod_fld Tryz.underlying23 (i := 0) rfl h
    simp only [Tryz.cellsN] at h0
    obtain ⟨x0, e0, _, b0⟩ := DataW.trod_int Tryz.underlying3 h0
    simp at e0
    obtain ⟨n1, y1, h1⟩ := trod_fld Tryz.underlying23 (i := 1) rfl h
    simp only [Tryz.cellsN] at h1
    obtain ⟨x1, e1, _, b1⟩ := DataW.trod_int Tryz.underlying3 h1
    simp at e1
    obtain ⟨n2, y2, h2⟩ := trod_fld Tryz.underlying23 (i := 2) rfl h
    simp only [Tryz.cellsN] at h2
    obtain ⟨x2, e2, _, b2⟩ := DataW.trod_int Tryz.underlying3 h2
    simp at e2
    subst e0
    subst e1
    subst e2
    exact ⟨x0, x1, x2, rfl⟩
/-- A slice, each of whose elements is as R says. -/
theorem open_slE {H α : Type} [Inhabited α] {enc : TypeId × Value → H} {P : Program} {W : World} {t e : TypeId} {fuel : Nat} {v : Value} {x : DataW H × List MemPlace} (en : α → List Value) (k : Nat) (R : α → Prop) (ht : P.underlying t = some (.slice e)) (hk : P.cellsOf e = k) (hpos : 0 < k) (hlen : ∀ a, (en a).length = k)
    (hel : ∀ n cs y, DataW.trod enc P W 0 (fun _ => true) true n e cs = some y → ∃ z, cs = en z ∧ R z)
    (h : DataW.trod enc P W 0 (fun _ => true) true fuel t [v] = some x) : ∃ xs, Sl en k W v xs ∧ ∀ x ∈ xs, R x := by
  subst hk
  rcases open_slice ht h with ⟨hcs, _⟩ | ⟨a, len, cap, m, n, D, Pl, hcs, _, hl, _, hm, _, hx⟩
  · simp only [List.cons.injEq, and_true] at hcs
    subst hcs
    exact ⟨[], Sl.nil _ _ _, by simp⟩
  · simp only [List.cons.injEq, and_true] at hcs
    subst hcs
    simp only [if_true] at hm
    obtain ⟨f, hf⟩ := choose_lt (n := len) (p := fun i z => W.cells? 0 (a.add (i * P.cellsOf e)) (P.cellsOf e) = some (en z) ∧ R z) (fun i hi => by
      obtain ⟨cs', h1, h2⟩ := hx i (by omega)
      obtain ⟨z, rfl, hz⟩ := hel _ _ _ h2
      exact ⟨z, h1, hz⟩)
    refine ⟨(List.range len).map f, ⟨some a, cap, by simp, ⟨by simpa using hl, fun h => by cases h⟩, ?_⟩, fun x hx => ?_⟩
    · by_cases h0 : len = 0
      · exact .inl (by subst h0; rfl)
      · right
        obtain ⟨b, off, spot⟩ := a
        have hb : b < W.heap.size := by
          have := World.cells?_block (hf 0 (by omega)).1 hpos
          simpa [Addr.add] using this
        have hs : spot = none := by
          have h1 := (World.cells?_some (hf 0 (by omega)).1).2.2 0 hpos
          rw [List.getElem?_eq_getElem (by rw [hlen]; exact hpos)] at h1
          have h2 := World.cell?_spot h1
          simpa [Addr.add] using h2
        subst hs
        have hc : ∀ i, i < len → ∀ j u, (en (f i))[j]? = some u → W.cell? ⟨b, off + i * P.cellsOf e + j, none⟩ = some u := fun i hi j u hu => by
          have h1 := (World.cells?_some (hf i hi).1)
          have hj : j < P.cellsOf e := by rw [← hlen (f i)]; exact (List.getElem?_eq_some_iff.1 hu).1
          have h2 := h1.2.2 j hj
          rw [add_none, add_none, hu] at h2
          exact h2
        refine ⟨b, off, rfl, hb, fun i z hz j u hu => ?_⟩
        obtain ⟨hi, rfl⟩ := range_at hz
        exact hc i hi j u hu
    · obtain ⟨i, hi, rfl⟩ := List.mem_map.1 hx
      exact (hf i (List.mem_range.1 hi)).2
theorem open_cfg {H : Type} {enc : TypeId × Value → H} {W : World} {base : Nat} {v : Value} {d : DataW H} {p : List MemPlace} (hv : Value.okWide Tryz.prog W .any base 26 v)
    (h : DataW.Trod enc Tryz.prog W 0 (fun _ => true) true 26 v d p) : ∃ (c : Cfg) (ad : Option Addr) (cap : Nat), v = .agg (cfgL c ad cap).toArray ∧ Sl frmL 4 W (.slice ad c.fs.length cap) c.fs ∧ -9223372036854775808 ≤ c.ret := by
  obtain ⟨cs, rfl, hsz⟩ := okWide_struct Tryz.underlying26 hv
  rw [Tryz.cellsCfg] at hsz
  obtain ⟨l⟩ := cs
  match l, hsz with
  | [c0, c1, c2, c3, c4, c5, c6, c7, c8], _ =>
    obtain ⟨fuel, hf⟩ := h
    have h : DataW.trod enc Tryz.prog W 0 (fun _ => true) true fuel 26 [c0, c1, c2, c3, c4, c5, c6, c7, c8] = some (d, p) := hf
    obtain ⟨n0, y0, h0⟩ := trod_fld Tryz.underlying26 (i := 0) rfl h
    simp only [Tryz.cellsSh] at h0
    obtain ⟨x0, x1, x2, e0⟩ := open_shapeC h0
    simp at e0
    obtain ⟨n1, y1, h1⟩ := trod_fld Tryz.underlying26 (i := 1) rfl h
    simp only [Tryz.cellsFrs] at h1
    obtain ⟨xs, hS⟩ := open_sl frmL 4 Tryz.underlying24 Tryz.cellsFrm (by decide) frmL_len (fun n cs y hy => open_frmC hy) (v := c3) h1
    obtain ⟨n2, y2, h2⟩ := trod_fld Tryz.underlying26 (i := 2) rfl h
    simp only [Tryz.cellsN] at h2
    obtain ⟨z2, e2, _, _⟩ := DataW.trod_int Tryz.underlying3 h2
    simp at e2
    obtain ⟨n3, y3, h3⟩ := trod_fld Tryz.underlying26 (i := 3) rfl h
    simp only [Tryz.cellsI] at h3
    obtain ⟨z3, e3, _, b3⟩ := DataW.trod_int Tryz.underlying2 h3
    simp at e3
    obtain ⟨n4, y4, h4⟩ := trod_fld Tryz.underlying26 (i := 4) rfl h
    simp only [Tryz.cellsI] at h4
    obtain ⟨z4, e4, _, _⟩ := DataW.trod_int Tryz.underlying2 h4
    simp at e4
    obtain ⟨n5, y5, h5⟩ := trod_fld Tryz.underlying26 (i := 5) rfl h
    simp only [Tryz.cellsI] at h5
    obtain ⟨z5, e5, _, _⟩ := DataW.trod_int Tryz.underlying2 h5
    simp at e5
    obtain ⟨n6, y6, h6⟩ := trod_fld Tryz.underlying26 (i := 6) rfl h
    simp only [Tryz.cellsI] at h6
    obtain ⟨z6, e6, _, _⟩ := DataW.trod_int Tryz.underlying2 h6
    simp at e6
    obtain ⟨a, cap, rfl⟩ := hS.shape
    obtain ⟨rfl, rfl, rfl⟩ := e0
    subst e2 e3 e4 e5 e6
    exact ⟨⟨x0, x1, x2, xs, z2, z3, z4, z5, z6⟩, a, cap, rfl, hS, (int_bd b3).1⟩
instance : Inhabited Ac := ⟨act0 0⟩
theorem open_acts {H : Type} {enc : TypeId × Value → H} {W : World} {base : Nat} {v : Value} {d : DataW H} {p : List MemPlace} (hv : Value.okWide Tryz.prog W .any base 27 v) (h : DataW.Trod enc Tryz.prog W 0 (fun _ => true) true 27 v d p) :
    ∃ (a : Option Addr) (cap : Nat) (la : List Ac), v = .slice a la.length cap ∧ Sl actL 14 W (.slice a la.length cap) la ∧ ∀ x ∈ la, AcOk2 x := by
  obtain ⟨a, l, c, rfl⟩ := okWide_slice Tryz.underlying27 hv
  obtain ⟨fuel, hf⟩ := h
  have h0 : DataW.trod enc Tryz.prog W 0 (fun _ => true) true fuel 27 [.slice a l c] = some (d, p) := hf
  obtain ⟨xs, hS, hR⟩ := open_slE actL 14 AcOk2 Tryz.underlying27 Tryz.cellsAct (by decide) actL_len (fun n cs y hy => open_actC hy) h0
  obtain ⟨a', cap', e⟩ := hS.shape
  cases e
  exact ⟨_, _, xs, rfl, hS, hR⟩

end Go.Proofs.YthnkjgffahkecaaGreat
