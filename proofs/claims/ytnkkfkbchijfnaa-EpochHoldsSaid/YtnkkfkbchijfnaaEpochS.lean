/- Epochs: shapes, epochs, promises as arguments, opened. -/
import Derived.Test.YtnkkfkbchijfnaaSiteA
import Derived.ProofKit
import Derived.Lib.SmallJoins
import Derived.Deep.Slices
namespace Go.Proofs.Ytnkkfkbchijfnaa
open Go.ChangeShapes Go.WideShapes Go.ChangeAt Go.RowKit Go.Joins Go.Deep

theorem Try.own : ownKnob Try.prog.godebug = none := by kernel_rfl
theorem Try.laidOut : laidOutB Try.prog = true := by kernel_rfl
theorem Try.cellsI : Try.prog.cellsOf 2 = 1 := by kernel_rfl
theorem Try.cellsN : Try.prog.cellsOf 3 = 1 := by kernel_rfl
theorem Try.cellsB : Try.prog.cellsOf 4 = 1 := by kernel_rfl
theorem Try.cellsE : Try.prog.cellsOf 25 = 2 := by kernel_rfl
theorem Try.cellsP : Try.prog.cellsOf 27 = 3 := by kernel_rfl
theorem Try.cellsS : Try.prog.cellsOf 23 = 3 := by kernel_rfl

theorem open_shape {H : Type} {enc : TypeId × Value → H} {W : World} {base : Nat} {v : Value} {d : DataW H} {p : List MemPlace} (hv : Value.okWide Try.prog W .any base 23 v)
    (h : DataW.Trod enc Try.prog W 0 (fun _ => true) true 23 v d p) : ∃ n l s : Int, v = .agg #[.int .i64 n, .int .i64 l, .int .i64 s] := by
  obtain ⟨c0, c1, c2, y0, y1, y2, m, rfl, rfl, rfl, hy0, hy1, hy2⟩ := open_agg3 Try.underlying23 (by kernel_rfl) Try.cellsS hv h
  obtain ⟨x0, e0, _, _⟩ := DataW.trod_int Try.underlying3 hy0
  obtain ⟨x1, e1, _, _⟩ := DataW.trod_int Try.underlying3 hy1
  obtain ⟨x2, e2, _, _⟩ := DataW.trod_int Try.underlying3 hy2
  simp at e0 e1 e2
  subst e0 e1 e2
  exact ⟨_, _, _, rfl⟩
theorem open_epochC {H : Type} {enc : TypeId × Value → H} {W : World} {n : Nat} {cs : List Value} {y : DataW H × List MemPlace} (h : DataW.trod enc Try.prog W 0 (fun _ => true) true n 25 cs = some y) : ∃ z, cs = encP z := by
  obtain ⟨y0, y1, m, _, hl, h0, h1⟩ := trod_struct2 Try.underlying25 h
  rw [Try.cellsE] at hl
  match cs, hl with
  | [c0, c1], _ =>
    simp only [Try.cellsI, Try.cellsN] at h0 h1
    obtain ⟨x, e0, _, _⟩ := DataW.trod_int Try.underlying2 h0
    obtain ⟨z, e1, _, _⟩ := DataW.trod_int Try.underlying3 h1
    simp at e0 e1
    subst e0 e1
    exact ⟨(x, z), rfl⟩
theorem open_epoch {H : Type} {enc : TypeId × Value → H} {W : World} {base : Nat} {v : Value} {d : DataW H} {p : List MemPlace} (hv : Value.okWide Try.prog W .any base 25 v)
    (h : DataW.Trod enc Try.prog W 0 (fun _ => true) true 25 v d p) : ∃ a b : Int, v = .agg #[.int .i64 a, .int .i64 b] := by
  obtain ⟨c0, c1, y0, y1, m, rfl, rfl, rfl, hy0, hy1⟩ := open_agg2 Try.underlying25 (by kernel_rfl) Try.cellsE hv h
  obtain ⟨x0, e0, _, _⟩ := DataW.trod_int Try.underlying2 hy0
  obtain ⟨x1, e1, _, _⟩ := DataW.trod_int Try.underlying3 hy1
  simp at e0 e1
  subst e0 e1
  exact ⟨_, _, rfl⟩
theorem open_promise {H : Type} {enc : TypeId × Value → H} {W : World} {base : Nat} {v : Value} {d : DataW H} {p : List MemPlace} (hv : Value.okWide Try.prog W .any base 27 v)
    (h : DataW.Trod enc Try.prog W 0 (fun _ => true) true 27 v d p) : ∃ (a b : Int) (f : Bool), v = .agg #[.int .i64 a, .int .i64 b, .bool f] := by
  obtain ⟨cs, rfl, hsz⟩ := okWide_struct Try.underlying27 hv
  obtain ⟨c0, c1, c2, rfl⟩ := array3 (hsz.trans Try.cellsP)
  obtain ⟨fuel, hf⟩ := h
  obtain ⟨y0, y1, m, _, _, h0, h1⟩ := trod_struct2 Try.underlying27 hf
  simp only [Try.cellsE, Try.cellsB] at h0 h1
  obtain ⟨z, e0⟩ := open_epochC h0
  obtain ⟨f, e1, _⟩ := DataW.trod_bool Try.underlying4 h1
  simp [Value.cells, encP] at e0 e1
  obtain ⟨rfl, rfl⟩ := e0
  subst e1
  exact ⟨_, _, _, rfl⟩

end Go.Proofs.Ytnkkfkbchijfnaa
