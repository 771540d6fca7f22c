/- Sites: the library's variables as they are laid; shapes, tickets as arguments, opened; the row's frame, the world's shape kept. -/
import Derived.Test.YtehfodoocfpkoaaDoorStJ
import Derived.Test.YtehfodoocfpkoaaDoorLib5
import Derived.Test.YtehfodoocfpkoaaDoorRows
import Derived.Handed
import Derived.PinnedBridge
import Derived.Lay
import Derived.LaidLaws
import Derived.MakeChecks
import Derived.Lib.LaidTab
import Derived.Stop.LaidErr
import Derived.Stop.Joined
import Derived.Shelf.Vars
namespace Go.Proofs.YtehfodoocfpkoaaDoor
open Go.ChangeShapes Go.WideShapes Go.ChangeAt Go.RowKit Go.Joins Go.Deep Go.Shelf

set_option maxRecDepth 100000
theorem Tryd.own : ownKnob Tryd.prog.godebug = none := by kernel_rfl
theorem Tryd.laidOut : laidOutB Tryd.prog = true := by kernel_rfl
theorem Tryd.cellsN : Tryd.prog.cellsOf 3 = 1 := by kernel_rfl
theorem Tryd.cellsI : Tryd.prog.cellsOf 2 = 1 := by kernel_rfl
theorem Tryd.cellsS : Tryd.prog.cellsOf 23 = 3 := by kernel_rfl
theorem Tryd.cellsT : Tryd.prog.cellsOf 38 = 4 := by kernel_rfl
theorem Tryd.cellsA2 : Tryd.prog.cellsOf 24 = 2 := by kernel_rfl
theorem Tryd.cellsA3 : Tryd.prog.cellsOf 56 = 12 := by kernel_rfl
theorem Tryd.cellsStr : Tryd.prog.cellsOf 9 = 1 := by kernel_rfl
theorem Tryd.cellsErr : Tryd.prog.cellsOf 143 = 1 := by kernel_rfl

theorem open_shape {H : Type} {enc : TypeId × Value → H} {W : World} {base : Nat} {v : Value} {d : DataW H} {p : List MemPlace} (hv : Value.okWide Tryd.prog W .any base 23 v)
    (h : DataW.Trod enc Tryd.prog W 0 (fun _ => true) true 23 v d p) : ∃ n l s : Int, v = .agg #[.int .i64 n, .int .i64 l, .int .i64 s] := by
  obtain ⟨c0, c1, c2, y0, y1, y2, m, rfl, rfl, rfl, hy0, hy1, hy2⟩ := open_agg3 Tryd.underlying23 (by kernel_rfl) Tryd.cellsS hv h
  obtain ⟨x0, e0, _, _⟩ := DataW.trod_int Tryd.underlying3 hy0
  obtain ⟨x1, e1, _, _⟩ := DataW.trod_int Tryd.underlying3 hy1
  obtain ⟨x2, e2, _, _⟩ := DataW.trod_int Tryd.underlying3 hy2
  simp at e0 e1 e2
  subst e0 e1 e2
  exact ⟨_, _, _, rfl⟩
theorem open_ticketC {H : Type} {enc : TypeId × Value → H} {W : World} {n : Nat} {cs : List Value} {y : DataW H × List MemPlace} (h : DataW.trod enc Tryd.prog W 0 (fun _ => true) true n 38 cs = some y) : ∃ z, cs = encT z := by
  obtain ⟨y0, y1, y2, y3, m, _, hl, h0, h1, h2, h3⟩ := trod_struct4 Tryd.underlying38 h
  rw [Tryd.cellsT] at hl
  match cs, hl with
  | [c0, c1, c2, c3], _ =>
    simp only [Tryd.cellsI, Tryd.cellsN] at h0 h1 h2 h3
    obtain ⟨x0, e0, _, _⟩ := DataW.trod_int Tryd.underlying3 h0
    obtain ⟨x1, e1, _, _⟩ := DataW.trod_int Tryd.underlying3 h1
    obtain ⟨x2, e2, _, _⟩ := DataW.trod_int Tryd.underlying3 h2
    obtain ⟨x3, e3, _, _⟩ := DataW.trod_int Tryd.underlying2 h3
    simp at e0 e1 e2 e3
    subst e0 e1 e2 e3
    exact ⟨(x0, x1, x2, x3), rfl⟩
theorem open_ticket {H : Type} {enc : TypeId × Value → H} {W : World} {base : Nat} {v : Value} {d : DataW H} {p : List MemPlace} (hv : Value.okWide Tryd.prog W .any base 38 v)
    (h : DataW.Trod enc Tryd.prog W 0 (fun _ => true) true 38 v d p) : ∃ t : Tk, v = tkV t := by
  obtain ⟨cs, rfl, hsz⟩ := okWide_struct Tryd.underlying38 hv
  obtain ⟨fuel, hf⟩ := h
  obtain ⟨z, hz⟩ := open_ticketC hf
  have : cs.toList = encT z := hz
  exact ⟨z, by rw [tkV, ← this]⟩
theorem open_int2 {H : Type} {enc : TypeId × Value → H} {W : World} {base : Nat} {v : Value} {d : DataW H} {p : List MemPlace} (hv : Value.okWide Tryd.prog W .any base 24 v)
    (h : DataW.Trod enc Tryd.prog W 0 (fun _ => true) true 24 v d p) : ∃ a b : Int, v = .agg #[.int .i64 a, .int .i64 b] := by
  obtain ⟨cs, rfl, hsz⟩ := okWide_arr Tryd.underlying24 hv
  rw [Tryd.cellsA2] at hsz
  obtain ⟨l⟩ := cs
  match l, hsz with
  | [c0, c1], _ =>
    obtain ⟨fuel, hf⟩ := h
    obtain ⟨xs, m, _, _, _, hlen, hi⟩ := DataW.trod_array Tryd.underlying24 hf
    simp only [Tryd.cellsN] at hi
    match xs, hlen with
    | [y0, y1], _ =>
      obtain ⟨x0, e0, _, _⟩ := DataW.trod_int Tryd.underlying3 (hi 0 (by decide))
      obtain ⟨x1, e1, _, _⟩ := DataW.trod_int Tryd.underlying3 (hi 1 (by decide))
      simp [Value.cells] at e0 e1
      subst e0 e1
      exact ⟨_, _, rfl⟩
theorem open_tickets3 {H : Type} {enc : TypeId × Value → H} {W : World} {base : Nat} {v : Value} {d : DataW H} {p : List MemPlace} (hv : Value.okWide Tryd.prog W .any base 56 v)
    (h : DataW.Trod enc Tryd.prog W 0 (fun _ => true) true 56 v d p) : ∃ a b c : Tk, v = .agg (encT a ++ encT b ++ encT c).toArray := by
  obtain ⟨cs, rfl, hsz⟩ := okWide_arr Tryd.underlying56 hv
  rw [Tryd.cellsA3] at hsz
  obtain ⟨l⟩ := cs
  match l, hsz with
  | [c0, c1, c2, c3, c4, c5, c6, c7, c8, c9, c10, c11], _ =>
    obtain ⟨fuel, hf⟩ := h
    obtain ⟨xs, m, _, _, _, hlen, hi⟩ := DataW.trod_array Tryd.underlying56 hf
    simp only [Tryd.cellsT] at hi
    match xs, hlen with
    | [y0, y1, y2], _ =>
      obtain ⟨z0, e0⟩ := open_ticketC (hi 0 (by decide))
      obtain ⟨z1, e1⟩ := open_ticketC (hi 1 (by decide))
      obtain ⟨z2, e2⟩ := open_ticketC (hi 2 (by decide))
      simp [Value.cells, encT] at e0 e1 e2
      obtain ⟨rfl, rfl, rfl, rfl⟩ := e0
      obtain ⟨rfl, rfl, rfl, rfl⟩ := e1
      obtain ⟨rfl, rfl, rfl, rfl⟩ := e2
      exact ⟨z0, z1, z2, rfl⟩

theorem gErr1 : Tryd.prog.globalNamed "strconv.ErrSyntax" = some 1 := by kernel_rfl
theorem gErr2 : Tryd.prog.globalNamed "strconv.ErrRange" = some 2 := by kernel_rfl
theorem star_err : "*" ++ "errors.errorString" = "*errors.errorString" := by decide
theorem row_err (u : TypeId) (h : Tryd.prog.typeName? 3 u = some "*errors.errorString") : u = 141 :=
  typeName_ptr_named (nm := "errors.errorString") (by rw [star_err]; kernel_rfl) (by kernel_rfl) (by decide) u (by rw [star_err]; exact h)
/-- What every row of the chapter lists. -/
def laidL : List (String × DataW Unit) := Rows.siteOrdersRow.laid
theorem laidMet.tl {P : Program} {x : String × DataW Unit} {l : List (String × DataW Unit)} {w : World} (h : laidMet P (x :: l) w) : laidMet P l w := h.tail
theorem libF_of {w : World} (hsh : w.ShapedOpen Tryd.prog) (hL : laidMet Tryd.prog laidL w) : libF.h (fun b => b < w.heap.size) w := by
  have h3 : ∃ m, w.cell? ⟨3, 0, none⟩ = some (.int .i64 m) := cell_of_shapedOpen_int hsh (g := 3) (t := 3) (zero := #[.int .i64 0]) (of_decide_eq_true (by kernel_rfl)) (by kernel_rfl) rfl (by kernel_rfl) (by kernel_rfl) Tryd.underlying3
  obtain ⟨a1, _, v1, _⟩ := laid_sentinel (n := "strconv.ErrSyntax") hL.tail.tail.tail.tail.tail gErr1 (by kernel_rfl) Tryd.underlying77 row_err Tryd.underlying141 Tryd.underlying143 rfl rfl Tryd.underlying9 Tryd.cellsErr Tryd.cellsStr
  obtain ⟨a2, _, v2, _⟩ := laid_sentinel (n := "strconv.ErrRange") hL.tail.tail.tail.tail gErr2 (by kernel_rfl) Tryd.underlying77 row_err Tryd.underlying141 Tryd.underlying143 rfl rfl Tryd.underlying9 Tryd.cellsErr Tryd.cellsStr
  refine ⟨fun b hb => ?_, Lib.tabIs_of_head gPow (by kernel_rfl) Tryd.underlying123 Tryd.underlying106 (by kernel_rfl) (by kernel_rfl) hL.tail.tail, h3, ⟨_, World.var?_cell gErr1 v1 0, .inr ⟨_, _, rfl⟩⟩, ⟨_, World.var?_cell gErr2 v2 0, .inr ⟨_, _, rfl⟩⟩⟩
  obtain ⟨m, hm⟩ := h3
  have : 3 < w.heap.size := by
    simp only [World.cell?] at hm
    by_cases h : 3 < w.heap.size
    · exact h
    · rw [Array.getElem?_eq_none (by omega)] at hm
      simp at hm
  show b < w.heap.size
  omega
theorem returns_laid {H : Type} {enc : TypeId × Value → H} {a : Assume} {C : Checked} {os : Os} {f : FuncId} {fn : Func} {s : ChangeSpec} {conds : List PathCond} {apart fresh handsOn again : Bool} {laid : List (String × DataW Unit)}
    (own : ownKnob C.prog.godebug = none) (started : os.Started) (noInit : C.prog.inits.idxOf? f = none) (hfn : C.prog.funcs[f]? = some fn)
    (witness : ∃ (w : World) (tape : Tape) (i : Input), w.os = os ∧ (w.forCall tape i).Shaped C.prog ∧ i.vars = [] ∧ Input.okWide C.prog (w.forCall tape i) .any w.heap.size f i ∧
      ((s.pre enc C.prog fn conds apart (w.forCall tape i).memory i.args ∧ laidMetH C.prog laid (w.forCall tape i).memory) ∧ sizedMet enc C.prog fn (OpenSpec.ofChange s) apart (w.forCall tape i).memory i.args) ∧ a.holds C.prog (lone (Frame.enter C.prog f i.args .normal) [] (w.forCall tape i)))
    (contract : ∀ (W : World) (base : Nat) (args : Array Value) (ds gs : List (DataW H)) (before : List MemPlace),
      (∀ (j : Nat) t v, fn.params[j]? = some t → args[j]? = some v → Value.okWide C.prog W .any base t v) →
      DataW.Whole enc C.prog fn.params.toList s.vars apart W args.toList ds gs before →
      laidMetH C.prog laid W → W.ShapedOpen C.prog →
      Calls C.prog f args W fun e W' => ∃ v, e = .returned v ∧ s.post enc C.prog fn apart fresh handsOn again W args v W') :
    ReturnsInHanded a C os f .any (fun w args => (s.pre enc C.prog fn conds apart w args ∧ laidMetH C.prog laid w) ∧ sizedMet enc C.prog fn (OpenSpec.ofChange s) apart w args) (s.post enc C.prog fn apart fresh handsOn again) := by
  refine returnsInHanded_of_calls own started noInit witness ?_
  intro w tape i _ hsh _ hok hpre _
  obtain ⟨_, _, _, fn', hfn', _, _, _, _, hval⟩ := hok
  obtain rfl : fn' = fn := Option.some.inj (hfn'.symm.trans hfn)
  obtain ⟨⟨⟨ds, gs, before, hw, _⟩, hx⟩, _⟩ := hpre
  refine (contract (w.forCall tape i) w.heap.size i.args ds gs before hval (DataW.Whole.of_heap (w' := w.forCall tape i) (by rfl) hw) (laidMetH.of_heap (by rfl) hx) hsh).mono fun e W' ⟨v, he, hp⟩ => ?_
  subst he
  exact ChangeSpec.post_blind hp
theorem laid_world (os : Os) (args : Array Value) : laidMetH Tryd.prog laidL ((World.laidAll Tryd.prog os laidL).forCall (fun _ _ => 0) ⟨#[], args, []⟩).memory := by
  rw [MakeChecks.laidMetH_plain _ _ _ (by kernel_rfl)]
  exact laidMet_laidAll _ (by kernel_rfl) (by kernel_rfl)

end Go.Proofs.YtehfodoocfpkoaaDoor
