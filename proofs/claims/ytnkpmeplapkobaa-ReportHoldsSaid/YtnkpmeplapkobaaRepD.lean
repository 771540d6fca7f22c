/- Reports: the reference's Right, Tally, Missing; few. -/
import Derived.Test.YtnkpmeplapkobaaRepC
import Derived.Deep.QuietTactic
import Derived.BigQuiet
import Derived.Deep.RegionHeld3
import Derived.Deep.DeepCutAuto
namespace Go.Proofs.Ytnkpmeplapkobaa
open Go.RowKit Go.Shelf

set_option maxRecDepth 100000 in
set_option maxHeartbeats 2000000 in
theorem refRight_any (n l s : Int) (w : World) (sv : Value) (xs : List (Bool × Int)) (hlen : xs.length ≤ 1099511627776) (hS : Sl encR 2 w sv xs) :
    Calls Try.prog 20 #[.agg #[.int .i64 n, .int .i64 l, .int .i64 s], sv] w fun e w' => e = .returned (.bool (repB n l s xs)) ∧ Below w.heap.size w w' := by
  have HS := Lib.hid hS
  obtain ⟨a, cap, rfl⟩ := hS.shape
  clear hS
  have sc := fun W => refShape_any n l s W
  cases hs : shapeB n l s
  · rw [hs] at sc
    have SC := Lib.hid sc
    have hf := Lib.hid (show repB n l s xs = false by unfold repB; rw [hs]; rfl)
    clear sc hs
    go_enter Try.func20, Try.ntmps20
    go_wp2_with fail
    refine (SC.out _).mono ?_
    rintro e W1 ⟨rfl, hB1⟩
    have hB : Below w.heap.size w W1 := (Below.trans (by (repeat (first | (with_reducible exact Below.refl _ _) | (with_reducible assumption) | (with_reducible refine below_drewN ?_ _) | (with_reducible refine Below.drew ?_) | ((with_reducible refine Below.alloc ?_ ?_ _); rotate_left; focus (first | (with_reducible exact Nat.le_refl _) | omega | (simp; done) | (simp; omega))) | ((with_reducible refine Below.setCell (p := ⟨_, _, _⟩) ?_ ?_ _); rotate_left; focus (first | (with_reducible exact Nat.le_refl _) | omega | (simp; done) | (simp; omega)))))) (hB1.mono (by simp; try omega)))
    clear hB1
    go_wp2
    go_ret
    exact ⟨ret_bool (by rw [hf.out]), hB⟩
  · rw [hs] at sc
    have SC := Lib.hid sc
    clear sc
    by_cases hl : (xs.length : Int) = l
    · have hlb : ((xs.length : Int) != l) = false := by simpa using hl
      have HA := Lib.hid (show repB n l s xs = xs.all hopB by unfold repB; rw [hs]; simp [hl])
      have hbd := shapeB_is hs
      have hl8 : (xs.length : Int) ≤ 8 := by omega
      clear hs hl
      go_enter Try.func20, Try.ntmps20
      go_wp2_with fail
      refine (SC.out _).mono ?_
      rintro e W1 ⟨rfl, hB1⟩
      have hB : Below w.heap.size w W1 := (Below.trans (by (repeat (first | (with_reducible exact Below.refl _ _) | (with_reducible assumption) | (with_reducible refine below_drewN ?_ _) | (with_reducible refine Below.drew ?_) | ((with_reducible refine Below.alloc ?_ ?_ _); rotate_left; focus (first | (with_reducible exact Nat.le_refl _) | omega | (simp; done) | (simp; omega))) | ((with_reducible refine Below.setCell (p := ⟨_, _, _⟩) ?_ ?_ _); rotate_left; focus (first | (with_reducible exact Nat.le_refl _) | omega | (simp; done) | (simp; omega)))))) (hB1.mono (by simp; try omega)))
      have hc := (hB1.cell (p := ⟨w.heap.size, 1, none⟩) (by simp)).trans (World.cell?_alloc_at _ _ _ _ rfl)
      clear hB1
      go_wp2
      clear hc
      go_loop [5] (fun v => ∃ k : Nat, k ≤ xs.length ∧ v = .int .i64 k ∧ ∀ j x, j < k → xs[j]? = some x → hopB x = true) (fun v => xs.length - (intOf v).toNat)
      case atStart => exact ⟨0, Nat.zero_le _, rfl, fun j x hj => absurd hj (by omega)⟩
      case round =>
        obtain ⟨k, hk, rfl, hno⟩ := hrel
        have HN := Lib.hid hno
        clear hno
        by_cases hlt : k < xs.length
        · obtain ⟨b, off, cap', hv, hb, hcell⟩ := HS.out.atR hlt
          cases hv
          obtain ⟨x, hx⟩ := at_some hlt
          have hcx := (hB.cell (p := ⟨b, off + k * 2 + 1, none⟩) hb).trans (hcell k x hx).2
          have i0 : (0 : Int) ≤ (k : Int) := by omega
          have HX := Lib.hid hx
          clear hcell hx
          by_cases h1 : x.2 < 0
          · have HF := Lib.hid (show repB n l s xs = false by rw [HA.out]; exact all_false_at HX.out (by unfold hopB; simp; omega))
            go_wp2
            go_ret
            exact ⟨ret_bool (by rw [HF.out]), hB⟩
          · by_cases h2 : 1099511627776 < x.2
            · have HF := Lib.hid (show repB n l s xs = false by rw [HA.out]; exact all_false_at HX.out (by unfold hopB; simp; omega))
              go_wp2
              go_ret
              exact ⟨ret_bool (by rw [HF.out]), hB⟩
            · have HG := Lib.hid (show hopB x = true by unfold hopB; simp; omega)
              go_wp2
              go_round
              case rel => exact ⟨k + 1, by omega, by go_num, fun j y hj hy => by
                rcases Nat.lt_succ_iff_lt_or_eq.1 hj with h | rfl
                · exact HN.out j y h hy
                · rw [HX.out] at hy; cases hy; exact HG.out⟩
              case measure => simp [intOf]; omega
        · obtain rfl : k = xs.length := by omega
          have HF := Lib.hid (show repB n l s xs = true by rw [HA.out]; exact all_of_at fun j x hj hx => HN.out j x hj hx)
          go_wp2
          go_ret
          exact ⟨ret_bool (by rw [HF.out]), hB⟩
    · have hlb : ((xs.length : Int) != l) = true := by simpa using hl
      have hf := Lib.hid (show repB n l s xs = false by unfold repB; simp [hl])
      clear hs hl
      go_enter Try.func20, Try.ntmps20
      go_wp2_with fail
      refine (SC.out _).mono ?_
      rintro e W1 ⟨rfl, hB1⟩
      have hB : Below w.heap.size w W1 := (Below.trans (by (repeat (first | (with_reducible exact Below.refl _ _) | (with_reducible assumption) | (with_reducible refine below_drewN ?_ _) | (with_reducible refine Below.drew ?_) | ((with_reducible refine Below.alloc ?_ ?_ _); rotate_left; focus (first | (with_reducible exact Nat.le_refl _) | omega | (simp; done) | (simp; omega))) | ((with_reducible refine Below.setCell (p := ⟨_, _, _⟩) ?_ ?_ _); rotate_left; focus (first | (with_reducible exact Nat.le_refl _) | omega | (simp; done) | (simp; omega)))))) (hB1.mono (by simp; try omega)))
      have hc := (hB1.cell (p := ⟨w.heap.size, 1, none⟩) (by simp)).trans (World.cell?_alloc_at _ _ _ _ rfl)
      go_wp2
      go_ret
      exact ⟨ret_bool (by rw [hf.out]), hB⟩

end Go.Proofs.Ytnkpmeplapkobaa
