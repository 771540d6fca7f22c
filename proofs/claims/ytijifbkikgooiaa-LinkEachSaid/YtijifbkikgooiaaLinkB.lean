/- Link: slices.Values at three element types; link.all at three element types. -/
import Derived.Test.YtijifbkikgooiaaLinkA
import Derived.RangeFuncNested
import Derived.RangeFuncBound
import Derived.RangeFuncCalls
import Derived.RangeFuncLeaves
import Derived.Shelf.Abstract
import Derived.Shelf.RegionOpen
import Derived.OwnWalkIn
import Derived.TacticsInMore
import Derived.LoopNIn
import Derived.LoopIn
namespace Go.Proofs.Ytijifbkikgooiaa
open Go.RowKit Go.Shelf
attribute [local go_sem] Oper.semAt_some

/-- slices.Values: the slice value is boxed; the function value captures the box. -/
theorem valuesI_any (n : Nat) (a : Option Addr) (len cap : Nat) (w : World) :
    CallsIn Fence.wide n Try.prog 49 #[.slice a len cap] w fun e w' => e = .returned (.func (.func 52) #[] #[.pointer (some ⟨w.heap.size, 0, none⟩)]) ∧ w' = w.alloc (.cells #[.slice a len cap] (Try.f49.params.getD 0 0)) := by
  refine callsIn_of_wp Try.func49 rfl trivial ?_ rfl
  simp only [Try.ntmps49, List.size_toArray, List.length_cons, List.length_nil, Nat.reduceAdd, Nat.reduceSub, Array.replicate_succ, Array.replicate_zero, List.push_toArray, List.append_toArray, List.nil_append, List.cons_append]
  gi_wp2
  go_ret
  exact ⟨rfl, rfl⟩
set_option maxRecDepth 100000 in
set_option maxHeartbeats 1000000 in
/-- Its iterator goes over all of the list, or stops behind a beginning. -/
theorem valuesI_stops  (n : Nat) (hn : 1 ≤ n) (Bs : Nat) (sv : Value) (xs : List (Int)) (hlen : xs.length ≤ 1099511627776) (w0 w : World) (hS : Sl encI 1 w0 sv xs) (hB : Below w0.heap.size w0 w)
    (hBs : Bs < w.heap.size) (hc : w.cell? ⟨Bs, 0, none⟩ = some sv) :
    SeqStopsK Fence.wide n Try.prog 52 #[.pointer (some ⟨Bs, 0, none⟩)] (fun x : Int => #[.int .i64 x]) (Below w0.heap.size) (fun ys => ys = xs) (fun pre => ∃ k, k ≤ xs.length ∧ pre = xs.take k) xs.length w := fun l J Jx W hW _hJ _ hY h0 => by
  have hcW : W.cell? ⟨Bs, 0, none⟩ = some sv := (hW.cell (p := ⟨Bs, 0, none⟩) hBs).trans hc
  have hn₀ : w0.heap.size ≤ w.heap.size := hB.size
  have hBW : Below w0.heap.size w0 W := hB.trans (hW.mono hn₀)
  obtain ⟨a, cap, rfl⟩ := hS.shape
  clear hc hW hBs
  refine callsIn_of_wp Try.func52 rfl trivial ?_ rfl
  simp only [Try.ntmps52, List.size_toArray, List.length_cons, List.length_nil, Nat.reduceAdd, Nat.reduceSub, Array.replicate_succ, Array.replicate_zero, List.push_toArray, List.append_toArray, List.nil_append, List.cons_append]
  gi_wp2
  gi_loopw [7] (fun i wr => ∃ k : Nat, k ≤ xs.length ∧ i = .int .i64 k ∧ J (xs.take k) wr ∧ Below w0.heap.size W wr ∧ W.heap.size ≤ wr.heap.size)
    (fun i _ => xs.length - (intOf i).toNat)
  case atStart => exact ⟨0, Nat.zero_le _, rfl, by simpa using h0, Below.refl _ _, Nat.le_refl _⟩
  case round =>
    obtain ⟨k, hk, rfl, hJs, hnx, hsz⟩ := hrel
    by_cases hlt : k < xs.length
    · obtain ⟨b, off, cap', hv, hb, hcell⟩ := hS.atI hlt
      cases hv
      obtain ⟨x, hx⟩ := at_some hlt
      have hcx := hcell k x hx
      clear hcell
      have hcx' := (hnx.cell (p := ⟨b, off + k, none⟩) hb).trans ((hBW.cell (p := ⟨b, off + k, none⟩) hb).trans hcx)
      obtain ⟨fn, tmps, assign, body, hy, hR⟩ := hY _ x wr hJs (by simp; omega)
      have HX := Lib.hid hx
      clear hx
      gi_wp2
      refine hR.mono ?_
      rintro e W3 (⟨rfl, hJ3, hk3⟩ | ⟨rfl, hJx3⟩)
      · gi_wp2
        go_roundw
        case rel => exact ⟨k + 1, by omega, by go_num, by rw [take_snoc HX.out]; exact hJ3, hnx.trans hk3, by have := hk3.size; first | omega | (simp at this; omega)⟩
        case measure => simp [intOf]; omega
      · gi_wp2
        refine bodyPost_ret (results_none rfl _ _ _) rfl ?_
        exact ⟨⟨_, rfl⟩, .inr ⟨_, ⟨k + 1, by omega, rfl⟩, by rw [take_snoc HX.out]; exact hJx3⟩⟩
    · obtain rfl : k = xs.length := by omega
      gi_wp2
      go_end0
      exact ⟨⟨_, rfl⟩, .inl ⟨_, rfl, by simpa using hJs⟩⟩

/-- slices.Values: the slice value is boxed; the function value captures the box. -/
theorem valuesP_any (n : Nat) (a : Option Addr) (len cap : Nat) (w : World) :
    CallsIn Fence.wide n Try.prog 50 #[.slice a len cap] w fun e w' => e = .returned (.func (.func 53) #[] #[.pointer (some ⟨w.heap.size, 0, none⟩)]) ∧ w' = w.alloc (.cells #[.slice a len cap] (Try.f50.params.getD 0 0)) := by
  refine callsIn_of_wp Try.func50 rfl trivial ?_ rfl
  simp only [Try.ntmps50, List.size_toArray, List.length_cons, List.length_nil, Nat.reduceAdd, Nat.reduceSub, Array.replicate_succ, Array.replicate_zero, List.push_toArray, List.append_toArray, List.nil_append, List.cons_append]
  gi_wp2
  go_ret
  exact ⟨rfl, rfl⟩
set_option maxRecDepth 100000 in
set_option maxHeartbeats 1000000 in
/-- Its iterator goes over all of the list, or stops behind a beginning. -/
theorem valuesP_stops  (n : Nat) (hn : 1 ≤ n) (Bs : Nat) (sv : Value) (xs : List (Int × Int)) (hlen : xs.length ≤ 1099511627776) (w0 w : World) (hS : Sl encP 2 w0 sv xs) (hB : Below w0.heap.size w0 w)
    (hBs : Bs < w.heap.size) (hc : w.cell? ⟨Bs, 0, none⟩ = some sv) :
    SeqStopsK Fence.wide n Try.prog 53 #[.pointer (some ⟨Bs, 0, none⟩)] (fun x : Int × Int => #[.agg #[.int .i64 x.1, .int .i64 x.2]]) (Below w0.heap.size) (fun ys => ys = xs) (fun pre => ∃ k, k ≤ xs.length ∧ pre = xs.take k) xs.length w := fun l J Jx W hW _hJ _ hY h0 => by
  have hcW : W.cell? ⟨Bs, 0, none⟩ = some sv := (hW.cell (p := ⟨Bs, 0, none⟩) hBs).trans hc
  have hn₀ : w0.heap.size ≤ w.heap.size := hB.size
  have hBW : Below w0.heap.size w0 W := hB.trans (hW.mono hn₀)
  obtain ⟨a, cap, rfl⟩ := hS.shape
  clear hc hW hBs
  refine callsIn_of_wp Try.func53 rfl trivial ?_ rfl
  simp only [Try.ntmps53, List.size_toArray, List.length_cons, List.length_nil, Nat.reduceAdd, Nat.reduceSub, Array.replicate_succ, Array.replicate_zero, List.push_toArray, List.append_toArray, List.nil_append, List.cons_append]
  gi_wp2
  gi_loopw [7] (fun i wr => ∃ k : Nat, k ≤ xs.length ∧ i = .int .i64 k ∧ J (xs.take k) wr ∧ Below w0.heap.size W wr ∧ W.heap.size ≤ wr.heap.size)
    (fun i _ => xs.length - (intOf i).toNat)
  case atStart => exact ⟨0, Nat.zero_le _, rfl, by simpa using h0, Below.refl _ _, Nat.le_refl _⟩
  case round =>
    obtain ⟨k, hk, rfl, hJs, hnx, hsz⟩ := hrel
    by_cases hlt : k < xs.length
    · obtain ⟨b, off, cap', hv, hb, hcell⟩ := hS.atP hlt
      cases hv
      obtain ⟨x, hx⟩ := at_some hlt
      have hcx := hcell k x hx
      clear hcell
      have hcx' := (hnx.cell (p := ⟨b, off + k * 2, none⟩) hb).trans ((hBW.cell (p := ⟨b, off + k * 2, none⟩) hb).trans hcx.1)
      have hcy' := (hnx.cell (p := ⟨b, off + k * 2 + 1, none⟩) hb).trans ((hBW.cell (p := ⟨b, off + k * 2 + 1, none⟩) hb).trans hcx.2)
      obtain ⟨fn, tmps, assign, body, hy, hR⟩ := hY _ x (wr.alloc (.cells #[.int .i64 x.1, .int .i64 x.2] 27)) (_hJ _ _ _ none hJs (World.grownBy_alloc _ _ none) (fun r e => by cases e)) (by simp; omega)
      have HX := Lib.hid hx
      clear hx
      gi_wp2
      refine hR.mono ?_
      rintro e W3 (⟨rfl, hJ3, hk3⟩ | ⟨rfl, hJx3⟩)
      · gi_wp2
        go_roundw
        case rel => exact ⟨k + 1, by omega, by go_num, by rw [take_snoc HX.out]; exact hJ3, (hnx.alloc (by have := hBW.size; omega) _).trans hk3, by have := hk3.size; first | omega | (simp at this; omega)⟩
        case measure => simp [intOf]; omega
      · gi_wp2
        refine bodyPost_ret (results_none rfl _ _ _) rfl ?_
        exact ⟨⟨_, rfl⟩, .inr ⟨_, ⟨k + 1, by omega, rfl⟩, by rw [take_snoc HX.out]; exact hJx3⟩⟩
    · obtain rfl : k = xs.length := by omega
      gi_wp2
      go_end0
      exact ⟨⟨_, rfl⟩, .inl ⟨_, rfl, by simpa using hJs⟩⟩

/-- slices.Values: the slice value is boxed; the function value captures the box. -/
theorem valuesV_any (n : Nat) (a : Option Addr) (len cap : Nat) (w : World) :
    CallsIn Fence.wide n Try.prog 51 #[.slice a len cap] w fun e w' => e = .returned (.func (.func 54) #[] #[.pointer (some ⟨w.heap.size, 0, none⟩)]) ∧ w' = w.alloc (.cells #[.slice a len cap] (Try.f51.params.getD 0 0)) := by
  refine callsIn_of_wp Try.func51 rfl trivial ?_ rfl
  simp only [Try.ntmps51, List.size_toArray, List.length_cons, List.length_nil, Nat.reduceAdd, Nat.reduceSub, Array.replicate_succ, Array.replicate_zero, List.push_toArray, List.append_toArray, List.nil_append, List.cons_append]
  gi_wp2
  go_ret
  exact ⟨rfl, rfl⟩
set_option maxRecDepth 100000 in
set_option maxHeartbeats 1000000 in
/-- Its iterator goes over all of the list, or stops behind a beginning. -/
theorem valuesV_stops {α : Type} (f : α → Value) (n : Nat) (hn : 1 ≤ n) (Bs : Nat) (sv : Value) (xs : List (α)) (hlen : xs.length ≤ 1099511627776) (w0 w : World) (hS : Sl (encV f) 1 w0 sv xs) (hB : Below w0.heap.size w0 w)
    (hBs : Bs < w.heap.size) (hc : w.cell? ⟨Bs, 0, none⟩ = some sv) :
    SeqStopsK Fence.wide n Try.prog 54 #[.pointer (some ⟨Bs, 0, none⟩)] (fun x : α => #[f x]) (Below w0.heap.size) (fun ys => ys = xs) (fun pre => ∃ k, k ≤ xs.length ∧ pre = xs.take k) xs.length w := fun l J Jx W hW _hJ _ hY h0 => by
  have hcW : W.cell? ⟨Bs, 0, none⟩ = some sv := (hW.cell (p := ⟨Bs, 0, none⟩) hBs).trans hc
  have hn₀ : w0.heap.size ≤ w.heap.size := hB.size
  have hBW : Below w0.heap.size w0 W := hB.trans (hW.mono hn₀)
  obtain ⟨a, cap, rfl⟩ := hS.shape
  clear hc hW hBs
  refine callsIn_of_wp Try.func54 rfl trivial ?_ rfl
  simp only [Try.ntmps54, List.size_toArray, List.length_cons, List.length_nil, Nat.reduceAdd, Nat.reduceSub, Array.replicate_succ, Array.replicate_zero, List.push_toArray, List.append_toArray, List.nil_append, List.cons_append]
  gi_wp2
  gi_loopw [7] (fun i wr => ∃ k : Nat, k ≤ xs.length ∧ i = .int .i64 k ∧ J (xs.take k) wr ∧ Below w0.heap.size W wr ∧ W.heap.size ≤ wr.heap.size)
    (fun i _ => xs.length - (intOf i).toNat)
  case atStart => exact ⟨0, Nat.zero_le _, rfl, by simpa using h0, Below.refl _ _, Nat.le_refl _⟩
  case round =>
    obtain ⟨k, hk, rfl, hJs, hnx, hsz⟩ := hrel
    by_cases hlt : k < xs.length
    · obtain ⟨b, off, cap', hv, hb, hcell⟩ := hS.atV hlt
      cases hv
      obtain ⟨x, hx⟩ := at_some hlt
      have hcx := hcell k x hx
      clear hcell
      have hcx' := (hnx.cell (p := ⟨b, off + k, none⟩) hb).trans ((hBW.cell (p := ⟨b, off + k, none⟩) hb).trans hcx)
      obtain ⟨fn, tmps, assign, body, hy, hR⟩ := hY _ x wr hJs (by simp; omega)
      have HX := Lib.hid hx
      clear hx
      gi_wp2
      refine hR.mono ?_
      rintro e W3 (⟨rfl, hJ3, hk3⟩ | ⟨rfl, hJx3⟩)
      · gi_wp2
        go_roundw
        case rel => exact ⟨k + 1, by omega, by go_num, by rw [take_snoc HX.out]; exact hJ3, hnx.trans hk3, by have := hk3.size; first | omega | (simp at this; omega)⟩
        case measure => simp [intOf]; omega
      · gi_wp2
        refine bodyPost_ret (results_none rfl _ _ _) rfl ?_
        exact ⟨⟨_, rfl⟩, .inr ⟨_, ⟨k + 1, by omega, rfl⟩, by rw [take_snoc HX.out]; exact hJx3⟩⟩
    · obtain rfl : k = xs.length := by omega
      gi_wp2
      go_end0
      exact ⟨⟨_, rfl⟩, .inl ⟨_, rfl, by simpa using hJs⟩⟩

end Go.Proofs.Ytijifbkikgooiaa
