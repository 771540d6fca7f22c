/- General facts, second part: a scope that is left by a jump forward. -/
import Derived.Test.YthnkjgffahkecaaGreatLib
import Derived.ScopeJumps
import Derived.WalkMore
namespace Go.Proofs.YthnkjgffahkecaaGreat
open Go.RowKit

/-- A scope in which the run may jump forward to one label: what stands behind the label is walked where the jump leads. -/
theorem wp_scope_fwd {P : Program} {a : Act} {w : World} {Q : Exit → Act → World → Prop} {c rest : Code} (l : Nat) (hf : findLabel c l = some rest)
    (h : c.wp P (Exit.jump l (fun a w => rest.wp P (Exit.noGoto Q) a w) Q) a w) : (Code.scope c).wp P Q a w :=
  wp_scope_jumps l (fun a w => rest.wp P (Exit.noGoto Q) a w) (fun _ _ => 0) hf h fun a w hJ =>
    Code.wp_mono (fun e a' w' q => by cases e <;> first | exact q | exact q.elim) hJ

theorem blk_set {w : World} {b i : Nat} {c : Array Value} {t : TypeId} {f : Nat × Nat} (v : Value) (h : w.heap[b]? = some (.cells c t f)) : (w.setCell ⟨b, i, none⟩ v).heap[b]? = some (.cells (c.setIfInBounds i v) t f) := by
  obtain ⟨hlt, hk⟩ := Array.getElem?_eq_some_iff.1 h
  show (w.heap.modify b _)[b]? = _
  rw [Array.getElem?_eq_getElem (by rw [Array.size_modify]; exact hlt), Array.getElem_modify_self, hk]
  rfl
theorem blk_set_other {w : World} {b : Nat} {a : Addr} {o : Obj} (v : Value) (h : w.heap[b]? = some o) (hne : b ≠ a.block) : (w.setCell a v).heap[b]? = some o := (Below.heap_setCell w a v b hne).trans h
theorem set_flatI {xs : List Int} (k : Nat) (x : Int) : (xs.flatMap encI).set k (.int .i64 x) = (xs.set k x).flatMap encI := by
  rw [flat_encI, flat_encI, List.map_set]

end Go.Proofs.YthnkjgffahkecaaGreat
