/- Reports: the best of things. -/
import Derived.Test.YtnkpmeplapkobaaRepH
namespace Go.Proofs.Ytnkpmeplapkobaa
open Go.RowKit Go.Shelf

/-- Who takes back: lock, node, hop. -/
abbrev Bk := Int × Int × Int
def encB (x : Bk) : List Value := [.int .i64 x.1, .int .i64 x.2.1, .int .i64 x.2.2]
theorem encB_len (x : Bk) : (encB x).length = 3 := rfl
theorem encB_one {xs : List Bk} : ∀ u ∈ xs.flatMap encB, u.oneCell' = true := by
  intro u hu
  simp only [List.mem_flatMap, encB, List.mem_cons, List.not_mem_nil, or_false] at hu
  obtain ⟨x, _, rfl | rfl | rfl⟩ := hu <;> rfl
theorem Sl.atB {w : World} {v : Value} {xs : List Bk} (h : Sl encB 3 w v xs) {k : Nat} (hk : k < xs.length) :
    ∃ b off cap, v = .slice (some ⟨b, off, none⟩) xs.length cap ∧ b < w.heap.size ∧ ∀ i x, xs[i]? = some x → w.cell? ⟨b, off + i * 3, none⟩ = some (.int .i64 x.1) ∧ w.cell? ⟨b, off + i * 3 + 1, none⟩ = some (.int .i64 x.2.1) ∧ w.cell? ⟨b, off + i * 3 + 2, none⟩ = some (.int .i64 x.2.2) := by
  obtain ⟨a, cap, rfl, _, h⟩ := h
  rcases h with h | ⟨b, off, rfl, hlt, hc⟩
  · subst h; simp at hk
  · exact ⟨b, off, cap, rfl, hlt, fun i x hi => ⟨by simpa using hc i x hi 0 _ rfl, hc i x hi 1 _ rfl, hc i x hi 2 _ rfl⟩⟩

def stepB (b y : Bk) : Bk := if b.2.2 < y.2.2 then y else b
def bestOf : List Bk → Bk
  | [] => (0, 0, 0)
  | x :: xs => xs.foldl stepB x
theorem bestOf_snoc (xs : List Bk) (y : Bk) : bestOf (xs ++ [y]) = if xs = [] then y else stepB (bestOf xs) y := by
  cases xs with
  | nil => rfl
  | cons x xs => simp [bestOf, List.foldl_append]

set_option maxHeartbeats 400000 in
theorem better_any (a b : Bk) (w : World) :
    Calls Try.prog 41 #[.agg #[.int .i64 a.1, .int .i64 a.2.1, .int .i64 a.2.2], .agg #[.int .i64 b.1, .int .i64 b.2.1, .int .i64 b.2.2]] w fun e w' => e = .returned (.bool (decide (b.2.2 < a.2.2))) ∧ Below w.heap.size w w' := by
  go_enter Try.func41, Try.ntmps41
  go_wp2
  go_ret
  exact ⟨rfl, by (repeat (first | (with_reducible exact Below.refl _ _) | (with_reducible assumption) | (with_reducible refine below_drewN ?_ _) | (with_reducible refine Below.drew ?_) | ((with_reducible refine Below.alloc ?_ ?_ _); rotate_left; focus (first | (with_reducible exact Nat.le_refl _) | omega | (simp; done) | (simp; omega))) | ((with_reducible refine Below.setCell (p := ⟨_, _, _⟩) ?_ ?_ _); rotate_left; focus (first | (with_reducible exact Nat.le_refl _) | omega | (simp; done) | (simp; omega)))))⟩

set_option maxRecDepth 100000 in
set_option maxHeartbeats 2000000 in
theorem best_any (w : World) (sv : Value) (xs : List Bk) (hlen : xs.length ≤ 1000) (hS : Sl encB 3 w sv xs) :
    Calls Try.prog 40 #[.func (.func 41) #[] #[], sv] w fun e w' => e = .returned (.agg #[.int .i64 (bestOf xs).1, .int .i64 (bestOf xs).2.1, .int .i64 (bestOf xs).2.2]) ∧ Below w.heap.size w w' := by
  have HS := Lib.hid hS
  obtain ⟨a, cap, rfl⟩ := hS.shape
  have eg : ∀ args w, (callFunc 41 args).run Try.prog w = .ok (.enter 41 args) w := enters_of Try.func41 (by kernel_rfl) rfl
  clear hS
  go_enter Try.func40, Try.ntmps40
  go_wp2
  go_loopg [9] (xs.length) (fun g v9 wr => ∃ k : Nat, g + k = xs.length ∧ v9 = .int .i64 k ∧ Below w.heap.size w wr ∧ wr.heap[w.heap.size]? = some (.cells #[.int .i64 (bestOf (xs.take k)).1, .int .i64 (bestOf (xs.take k)).2.1, .int .i64 (bestOf (xs.take k)).2.2] 44 (0, 0)))
  case atStart => exact ⟨0, rfl, rfl, by (repeat (first | (with_reducible exact Below.refl _ _) | (with_reducible assumption) | (with_reducible refine below_drewN ?_ _) | (with_reducible refine Below.drew ?_) | ((with_reducible refine Below.alloc ?_ ?_ _); rotate_left; focus (first | (with_reducible exact Nat.le_refl _) | omega | (simp; done) | (simp; omega))) | ((with_reducible refine Below.setCell (p := ⟨_, _, _⟩) ?_ ?_ _); rotate_left; focus (first | (with_reducible exact Nat.le_refl _) | omega | (simp; done) | (simp; omega))))), blk_new _ _⟩
  case round =>
    obtain ⟨k, hk, rfl, hB, hX⟩ := hrel
    have HK := Lib.hid hk
    have EB := Lib.hid hB
    have QX := Lib.hid hX
    have l0 := lt_of_block hX
    obtain ⟨m, hm⟩ : ∃ m, m = bestOf (xs.take k) := ⟨_, rfl⟩
    rw [← hm] at hX QX
    have HM := Lib.hid hm.symm
    have p0 := cells3 hX
    clear hX hm hk
    by_cases hlt : k < xs.length
    · obtain ⟨b, off, cap', hv, hb, hcell⟩ := HS.out.atB hlt
      cases hv
      obtain ⟨x, hx⟩ := at_some hlt
      have hc := hcell k x hx
      have hc1 := (hB.cell (p := ⟨b, off + k * 3, none⟩) hb).trans hc.1
      have hc2 := (hB.cell (p := ⟨b, off + k * 3 + 1, none⟩) hb).trans hc.2.1
      have hc3 := (hB.cell (p := ⟨b, off + k * 3 + 2, none⟩) hb).trans hc.2.2
      have HX := Lib.hid (show bestOf (xs.take (k + 1)) = if k = 0 then x else stepB m x by
        rw [take_snoc hx, bestOf_snoc, HM.out]
        by_cases h0 : k = 0
        · subst h0; simp
        · have : xs.take k ≠ [] := by
            intro h
            have hl := congrArg List.length h
            rw [List.length_take, List.length_nil] at hl
            omega
          rw [if_neg this, if_neg h0])
      have i0 : (0 : Int) ≤ (k : Int) := by omega
      have hlx : xs.length < 1001 := by omega
      clear hcell hc hx hB
      have nA : ¬ wr.heap.size = w.heap.size := by omega
      have nB : ¬ w.heap.size = wr.heap.size := by omega
      have nE : ¬ w.heap.size = wr.heap.size + 1 := by omega
      have nF : ¬ w.heap.size = wr.heap.size + 1 + 1 := by omega
      have nC : ¬ b = wr.heap.size := by omega
      have nD : ¬ b = w.heap.size := by omega
      by_cases h0 : k = 0
      · subst h0
        simp only [Nat.zero_mul, Nat.add_zero, Int.ofNat_zero] at hc1 hc2 hc3
        go_wp2
        go_roundg (gk - 1)
        case measure => have := HK.out; omega
        case rel =>
          refine ⟨1, by have := HK.out; omega, by go_num, ?_, ?_⟩
          · have := EB.out; (repeat (first | (with_reducible exact Below.refl _ _) | (with_reducible assumption) | (with_reducible refine below_drewN ?_ _) | (with_reducible refine Below.drew ?_) | ((with_reducible refine Below.alloc ?_ ?_ _); rotate_left; focus (first | (with_reducible exact Nat.le_refl _) | omega | (simp; done) | (simp; omega))) | ((with_reducible refine Below.setCell (p := ⟨_, _, _⟩) ?_ ?_ _); rotate_left; focus (first | (with_reducible exact Nat.le_refl _) | omega | (simp; done) | (simp; omega)))))
          · rw [HX.out]
            simp only [if_true]
            repeat first | (with_reducible exact QX.out) | (with_reducible refine blk_old _ ?_) | exact blk_set3 QX.out
      · have i1 : ¬ (k : Int) = 0 := by omega
        have l1 : w.heap.size < wr.heap.size + 1 := by omega
        have l2 : w.heap.size < wr.heap.size + 1 + 1 := by omega
        obtain ⟨q0, q1, q2, qf⟩ := p0
        have f0 := qf 0
        have f1 := qf 1
        have f2 := qf 2
        clear qf
        by_cases hc : m.2.2 < x.2.2
        · go_wp2
          go_roundg (gk - 1)
          case measure => have := HK.out; omega
          case rel =>
            refine ⟨k + 1, by have := HK.out; omega, by go_num, ?_, ?_⟩
            · have := EB.out; (repeat (first | (with_reducible exact Below.refl _ _) | (with_reducible assumption) | (with_reducible refine below_drewN ?_ _) | (with_reducible refine Below.drew ?_) | ((with_reducible refine Below.alloc ?_ ?_ _); rotate_left; focus (first | (with_reducible exact Nat.le_refl _) | omega | (simp; done) | (simp; omega))) | ((with_reducible refine Below.setCell (p := ⟨_, _, _⟩) ?_ ?_ _); rotate_left; focus (first | (with_reducible exact Nat.le_refl _) | omega | (simp; done) | (simp; omega)))))
            · rw [HX.out, if_neg h0, stepB, if_pos hc]
              repeat first | (with_reducible exact QX.out) | (with_reducible refine blk_old _ ?_) | exact blk_set3 QX.out
        · go_wp2
          go_roundg (gk - 1)
          case measure => have := HK.out; omega
          case rel =>
            refine ⟨k + 1, by have := HK.out; omega, by go_num, ?_, ?_⟩
            · have := EB.out; (repeat (first | (with_reducible exact Below.refl _ _) | (with_reducible assumption) | (with_reducible refine below_drewN ?_ _) | (with_reducible refine Below.drew ?_) | ((with_reducible refine Below.alloc ?_ ?_ _); rotate_left; focus (first | (with_reducible exact Nat.le_refl _) | omega | (simp; done) | (simp; omega))) | ((with_reducible refine Below.setCell (p := ⟨_, _, _⟩) ?_ ?_ _); rotate_left; focus (first | (with_reducible exact Nat.le_refl _) | omega | (simp; done) | (simp; omega)))))
            · rw [HX.out, if_neg h0, stepB, if_neg (by omega)]
              repeat first | (with_reducible exact QX.out) | (with_reducible refine blk_old _ ?_) | exact blk_set3 QX.out
    · have hge : ¬ (k : Int) < (xs.length : Int) := by omega
      obtain rfl : k = xs.length := by have := HK.out; omega
      have HM2 := Lib.hid (show m = bestOf xs by rw [← HM.out, List.take_length])
      go_wp2
      obtain rfl := HM2.out
      refine bodyPost_ret (v := .agg #[.int .i64 (bestOf xs).1, .int .i64 (bestOf xs).2.1, .int .i64 (bestOf xs).2.2]) ?_ rfl ?_
      · simp [results, Try.results40, go_sem, p0, l0]
      · exact ⟨rfl, by have := EB.out; (repeat (first | (with_reducible exact Below.refl _ _) | (with_reducible assumption) | (with_reducible refine below_drewN ?_ _) | (with_reducible refine Below.drew ?_) | ((with_reducible refine Below.alloc ?_ ?_ _); rotate_left; focus (first | (with_reducible exact Nat.le_refl _) | omega | (simp; done) | (simp; omega))) | ((with_reducible refine Below.setCell (p := ⟨_, _, _⟩) ?_ ?_ _); rotate_left; focus (first | (with_reducible exact Nat.le_refl _) | omega | (simp; done) | (simp; omega)))))⟩

end Go.Proofs.Ytnkpmeplapkobaa
