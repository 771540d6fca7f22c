/- Epochs: arrays of epochs, acts as arguments, opened. -/
import Derived.Test.YtnkkfkbchijfnaaEpochS
import Derived.Test.YtnkkfkbchijfnaaLib3
import Derived.Test.YtnkkfkbchijfnaaLib5
namespace Go.Proofs.Ytnkkfkbchijfnaa
open Go.ChangeShapes Go.WideShapes Go.ChangeAt Go.RowKit Go.Joins Go.Deep

theorem Try.cellsA2 : Try.prog.cellsOf 45 = 4 := by kernel_rfl
theorem Try.cellsA3 : Try.prog.cellsOf 36 = 6 := by kernel_rfl

theorem open_epochs2 {H : Type} {enc : TypeId × Value → H} {W : World} {base : Nat} {v : Value} {d : DataW H} {p : List MemPlace} (hv : Value.okWide Try.prog W .any base 45 v)
    (h : DataW.Trod enc Try.prog W 0 (fun _ => true) true 45 v d p) : ∃ a1 a2 b1 b2 : Int, v = .agg #[.int .i64 a1, .int .i64 a2, .int .i64 b1, .int .i64 b2] := by
  obtain ⟨cs, rfl, hsz⟩ := okWide_arr Try.underlying45 hv
  rw [Try.cellsA2] at hsz
  obtain ⟨l⟩ := cs
  match l, hsz with
  | [c0, c1, c2, c3], _ =>
    obtain ⟨fuel, hf⟩ := h
    obtain ⟨xs, m, _, _, _, hlen, hi⟩ := DataW.trod_array Try.underlying45 hf
    simp only [Try.cellsE] at hi
    match xs, hlen with
    | [y0, y1], _ =>
      obtain ⟨z0, e0⟩ := open_epochC (hi 0 (by decide))
      obtain ⟨z1, e1⟩ := open_epochC (hi 1 (by decide))
      simp [Value.cells, encP] at e0 e1
      obtain ⟨rfl, rfl⟩ := e0
      obtain ⟨rfl, rfl⟩ := e1
      exact ⟨_, _, _, _, rfl⟩
theorem open_epochs3 {H : Type} {enc : TypeId × Value → H} {W : World} {base : Nat} {v : Value} {d : DataW H} {p : List MemPlace} (hv : Value.okWide Try.prog W .any base 36 v)
    (h : DataW.Trod enc Try.prog W 0 (fun _ => true) true 36 v d p) : ∃ a1 a2 b1 b2 c1 c2 : Int, v = .agg #[.int .i64 a1, .int .i64 a2, .int .i64 b1, .int .i64 b2, .int .i64 c1, .int .i64 c2] := by
  obtain ⟨cs, rfl, hsz⟩ := okWide_arr Try.underlying36 hv
  rw [Try.cellsA3] at hsz
  obtain ⟨l⟩ := cs
  match l, hsz with
  | [c0, c1, c2, c3, c4, c5], _ =>
    obtain ⟨fuel, hf⟩ := h
    obtain ⟨xs, m, _, _, _, hlen, hi⟩ := DataW.trod_array Try.underlying36 hf
    simp only [Try.cellsE] at hi
    match xs, hlen with
    | [y0, y1, y2], _ =>
      obtain ⟨z0, e0⟩ := open_epochC (hi 0 (by decide))
      obtain ⟨z1, e1⟩ := open_epochC (hi 1 (by decide))
      obtain ⟨z2, e2⟩ := open_epochC (hi 2 (by decide))
      simp [Value.cells, encP] at e0 e1 e2
      obtain ⟨rfl, rfl⟩ := e0
      obtain ⟨rfl, rfl⟩ := e1
      obtain ⟨rfl, rfl⟩ := e2
      exact ⟨_, _, _, _, _, _, rfl⟩

/-- The cells of an act. -/
def encA (x : Bool × Int × Int) : List Value := [.bool x.1, .int .i64 x.2.1, .int .i64 x.2.2]
theorem encA_len (x : Bool × Int × Int) : (encA x).length = 3 := rfl
theorem Try.cellsAct : Try.prog.cellsOf 43 = 3 := by kernel_rfl
theorem open_actC {H : Type} {enc : TypeId × Value → H} {W : World} {n : Nat} {cs : List Value} {y : DataW H × List MemPlace} (h : DataW.trod enc Try.prog W 0 (fun _ => true) true n 43 cs = some y) : ∃ z, cs = encA z := by
  obtain ⟨y0, y1, m, _, hl, h0, h1⟩ := trod_struct2 Try.underlying43 h
  rw [Try.cellsAct] at hl
  match cs, hl with
  | [c0, c1, c2], _ =>
    simp only [Try.cellsE, Try.cellsB] at h0 h1
    obtain ⟨f, e0, _⟩ := DataW.trod_bool Try.underlying4 h0
    obtain ⟨z, e1⟩ := open_epochC h1
    simp [encP] at e0 e1
    subst e0
    obtain ⟨rfl, rfl⟩ := e1
    exact ⟨(f, z), rfl⟩

end Go.Proofs.Ytnkkfkbchijfnaa
