/- Reports: the tally under way, or it gives up. -/
import Derived.Test.YtnkpmeplapkobaaRepB
import Derived.Test.YtnkpmeplapkobaaLibR
import Derived.Deep.LoopGhost
namespace Go.Proofs.Ytnkpmeplapkobaa
open Go.RowKit Go.Shelf

theorem cells4b {w : World} {b : Nat} {v0 v1 v2 v3 : Value} {t : TypeId} (h : w.heap[b]? = some (.cells #[v0, v1, v2, v3] t (0, 0))) : w.cell? ⟨b, 0, none⟩ = some v0 ∧ w.cell? ⟨b, 1, none⟩ = some v1 ∧ w.cell? ⟨b, 2, none⟩ = some v2 ∧ w.cell? ⟨b, 3, none⟩ = some v3 ∧ ∀ i, w.frozen? ⟨b, i, none⟩ = false := by
  refine ⟨?_, ?_, ?_, ?_, fun i => by simp [World.frozen?, h]⟩ <;> simp [World.cell?, h]
theorem blk_keep {w w' : World} {b : Nat} {o : Obj} (h : w.heap[b]? = some o) (hb : Below w.heap.size w w') : w'.heap[b]? = some o := blk_below h hb (lt_of_block h)
def rowB (n l s : Int) (r : List (Bool × Int)) : Bool := r.isEmpty || repB n l s r
/-- May a tally be, of a shape? -/
def tallyB (n l s : Int) (t : List (List (Bool × Int))) : Bool := shapeB n l s && decide ((t.length : Int) = n) && t.all (rowB n l s)
def OfPost (w : World) (n l s : Int) (v : Value) (t : List (List (Bool × Int))) (e : Ending) (w' : World) : Prop :=
  ((tallyB n l s t = true ∧ e = .returned (.agg #[v, .int .i64 n, .int .i64 l, .int .i64 s])) ∨ (tallyB n l s t = false ∧ e = .panicked [{ v := upV 2, recovered := false }])) ∧ Below w.heap.size w w'

set_option maxHeartbeats 1000000 in
theorem of_bad1 (n l s : Int) (w : World) (v : Value) (t : List (List (Bool × Int))) (hv : Rows2 w v t) (h : shapeB n l s = false ∨ (shapeB n l s = true ∧ ¬ (t.length : Int) = n)) :
    Calls Try.prog 30 #[.agg #[.int .i64 n, .int .i64 l, .int .i64 s], .agg #[v]] w (OfPost w n l s v t) := by
  obtain ⟨a, cap, rfl⟩ := hv.shape
  have sc := fun W => siteCheck_any n l s W
  clear hv
  rcases h with hs | ⟨hs, hn⟩
  · have SC := Lib.hid (show ∀ W, _ from fun W => by have := sc W; rw [show shapeE n l s = 2 by simp [shapeE, hs]] at this; exact this)
    have hf := Lib.hid (show tallyB n l s t = false by unfold tallyB; rw [hs]; rfl)
    clear sc hs
    go_enter Try.func30, Try.ntmps30
    go_wp2_with fail
    refine (SC.out _).mono ?_
    rintro e W1 ⟨rfl, hB1⟩
    have hB : Below w.heap.size w W1 := (Below.trans (by (repeat (first | (with_reducible exact Below.refl _ _) | (with_reducible assumption) | (with_reducible refine below_drewN ?_ _) | (with_reducible refine Below.drew ?_) | ((with_reducible refine Below.alloc ?_ ?_ _); rotate_left; focus (first | (with_reducible exact Nat.le_refl _) | omega | (simp; done) | (simp; omega))) | ((with_reducible refine Below.setCell (p := ⟨_, _, _⟩) ?_ ?_ _); rotate_left; focus (first | (with_reducible exact Nat.le_refl _) | omega | (simp; done) | (simp; omega)))))) (hB1.mono (by simp; try omega)))
    clear hB1
    go_wp2_with fail
    refine (must_no 2 W1).mono ?_
    rintro e W2 ⟨rfl, rfl⟩
    exact ⟨rfl, .inr ⟨hf.out, rfl⟩, hB⟩
  · have SC := Lib.hid (show ∀ W, _ from fun W => by have := sc W; rw [show shapeE n l s = 0 by simp [shapeE, hs]] at this; exact this)
    have hf := Lib.hid (show tallyB n l s t = false by unfold tallyB; simp [hn])
    have hlb : ((t.length : Int) == n) = false := by simpa using hn
    clear sc hs hn
    go_enter Try.func30, Try.ntmps30
    go_wp2_with fail
    refine (SC.out _).mono ?_
    rintro e W1 ⟨rfl, hB1⟩
    have hB : Below w.heap.size w W1 := (Below.trans (by (repeat (first | (with_reducible exact Below.refl _ _) | (with_reducible assumption) | (with_reducible refine below_drewN ?_ _) | (with_reducible refine Below.drew ?_) | ((with_reducible refine Below.alloc ?_ ?_ _); rotate_left; focus (first | (with_reducible exact Nat.le_refl _) | omega | (simp; done) | (simp; omega))) | ((with_reducible refine Below.setCell (p := ⟨_, _, _⟩) ?_ ?_ _); rotate_left; focus (first | (with_reducible exact Nat.le_refl _) | omega | (simp; done) | (simp; omega)))))) (hB1.mono (by simp; try omega)))
    obtain ⟨chB1, fhB1⟩ := bcell hB1
    have zhB1 := hB1.size
    (try simp at zhB1)
    go_wp2_with fail
    refine (must_no 2 W1).mono ?_
    rintro e W2 ⟨rfl, rfl⟩
    exact ⟨rfl, .inr ⟨hf.out, rfl⟩, hB⟩

theorem tally_all {n l s : Int} {t : List (List (Bool × Int))} (hs : shapeB n l s = true) (hn : (t.length : Int) = n) : tallyB n l s t = t.all (rowB n l s) := by
  unfold tallyB; rw [hs]; simp [hn]

set_option maxRecDepth 100000 in
set_option maxHeartbeats 4000000 in
theorem of_rows (n l s : Int) (w : World) (v : Value) (t : List (List (Bool × Int))) (hv : Rows2 w v t) (hs : shapeB n l s = true) (hn : (t.length : Int) = n) (hlen : ∀ r ∈ t, r.length ≤ 1099511627776) :
    Calls Try.prog 30 #[.agg #[.int .i64 n, .int .i64 l, .int .i64 s], .agg #[v]] w (OfPost w n l s v t) := by
  have HV := Lib.hid hv
  obtain ⟨a, cap, rfl⟩ := hv.shape
  have SC := Lib.hid (show ∀ W, _ from fun W => by have := siteCheck_any n l s W; rw [show shapeE n l s = 0 by simp [shapeE, hs]] at this; exact this)
  have hbd := shapeB_is hs
  have HA := Lib.hid (tally_all hs hn)
  have hlb : ((t.length : Int) == n) = true := by simpa using hn
  have HN := Lib.hid hn
  have HS := Lib.hid hs
  have HL := Lib.hid hlen
  have ht64 : t.length ≤ 64 := by omega
  clear hv hs hn hlen
  go_enter Try.func30, Try.ntmps30
  go_wp2_with fail
  obtain ⟨V0, hV⟩ : ∃ V, V = (((w.alloc (.cells #[.int .i64 n, .int .i64 l, .int .i64 s] 23)).alloc (.cells #[.slice a t.length cap] 26)).alloc (.cells #[.slice none 0 0, .int .i64 0, .int .i64 0, .int .i64 0] 74)).alloc (.cells #[.slice a t.length cap, .int .i64 n, .int .i64 l, .int .i64 s] 74) := ⟨_, rfl⟩
  rw [← hV]
  have E := below_alloc4s w (.cells #[.int .i64 n, .int .i64 l, .int .i64 s] 23) (.cells #[.slice a t.length cap] 26) (.cells #[.slice none 0 0, .int .i64 0, .int .i64 0, .int .i64 0] 74) (.cells #[.slice a t.length cap, .int .i64 n, .int .i64 l, .int .i64 s] 74)
  obtain ⟨q0, q1, q2, q3⟩ := alloc4s w (.cells #[.int .i64 n, .int .i64 l, .int .i64 s] 23) (.cells #[.slice a t.length cap] 26) (.cells #[.slice none 0 0, .int .i64 0, .int .i64 0, .int .i64 0] 74) (.cells #[.slice a t.length cap, .int .i64 n, .int .i64 l, .int .i64 s] 74)
  rw [← hV] at E q0 q1 q2 q3
  refine (SC.out _).mono ?_
  rintro e W1 ⟨rfl, hB1⟩
  have E1 := Lib.hid (E.trans (hB1.mono E.size))
  have Q0 := Lib.hid (blk_keep q0 hB1)
  have Q1 := Lib.hid (blk_keep q1 hB1)
  have Q2 := Lib.hid (blk_keep q2 hB1)
  have Q3 := Lib.hid (blk_keep q3 hB1)
  have p0 := cells3 Q0.out
  have p1 := cells1 Q1.out
  clear hV q0 q1 q2 q3 hB1 E
  go_wp2_with (go_at_call 35; (with_reducible refine (must_yes _ _).mono ?_); rintro e w' ⟨rfl, rfl⟩)
  clear p0 p1
  go_loopg [27] (t.length) (fun g v27 wr => ∃ k : Nat, g + k = t.length ∧ v27 = .int .i64 k ∧ Below W1.heap.size W1 wr ∧ ∀ j r, j < k → t[j]? = some r → rowB n l s r = true)
  case atStart => exact ⟨0, rfl, rfl, Below.refl _ _, fun j r hj => absurd hj (by omega)⟩
  case round =>
    obtain ⟨k, hk, rfl, hB, hgood⟩ := hrel
    have HK := Lib.hid hk
    have HG := Lib.hid hgood
    have p0 := cells3 (blk_keep Q0.out hB)
    have p3 := cells4b (blk_keep Q3.out hB)
    have HB := Lib.hid hB
    have EW := Lib.hid (E1.out.trans (hB.mono E1.out.size))
    have l3 := lt_of_block (blk_keep Q3.out hB)
    clear hk hgood
    by_cases hlt : k < t.length
    · obtain ⟨r, hx⟩ := at_some hlt
      obtain ⟨b, off, cap', ra, rc, hv, hb, hc, hSr⟩ := HV.out.at_ hx
      cases hv
      have hcx := (EW.out.cell (p := ⟨b, off + k, none⟩) hb).trans hc
      have hbw := Nat.lt_of_lt_of_le hb EW.out.size
      have i0 : (0 : Int) ≤ (k : Int) := by omega
      have HX := Lib.hid hx
      have hrl := Lib.hid (HL.out r (List.mem_of_getElem? hx))
      have MS := Lib.hid (fun (W : World) (h : Below w.heap.size w W) => missing_any t k r W _ (HV.out.below h) hx)
      have RS := Lib.hid (fun (W : World) (h : Below w.heap.size w W) => right_any n l s W _ r (HL.out r (List.mem_of_getElem? hx)) (hSr.below h))
      clear hc hx hSr hB
      go_wp2_with fail
      refine (MS.out _ EW.out).mono ?_
      rintro e W2 ⟨rfl, hB2⟩
      have E2 := Lib.hid (EW.out.trans (hB2.mono EW.out.size))
      have HB2 := Lib.hid (HB.out.trans (hB2.mono HB.out.size))
      have p0 := cells3 (blk_keep (blk_keep Q0.out HB.out) hB2)
      clear hB2 hcx
      cases hr : r.isEmpty
      · rw [show (false : Bool) = false from rfl]
        have hre := Lib.hid hr
        clear hr
        go_wp2_with fail
        refine (RS.out _ E2.out).mono ?_
        rintro e W3 ⟨rfl, hB3⟩
        have HB3 := Lib.hid (HB2.out.trans (hB3.mono HB2.out.size))
        have E3 := Lib.hid (E2.out.trans (hB3.mono E2.out.size))
        clear hB3
        cases hb : repB n l s r
        · have HF := Lib.hid (show tallyB n l s t = false by rw [HA.out]; exact all_false_at HX.out (by unfold rowB; rw [hre.out, hb]; rfl))
          clear hb
          go_wp2_with fail
          refine (must_no 2 W3).mono ?_
          rintro e W4 ⟨rfl, rfl⟩
          exact ⟨rfl, .inr ⟨HF.out, rfl⟩, E3.out⟩
        · have HF := Lib.hid (show rowB n l s r = true by unfold rowB; rw [hre.out, hb]; rfl)
          clear hb
          go_wp2_with (go_at_call 35; (with_reducible refine (must_yes _ _).mono ?_); rintro e w' ⟨rfl, rfl⟩)
          go_roundg (gk - 1)
          case measure => have := HK.out; omega
          case rel => exact ⟨k + 1, by have := HK.out; omega, by go_num, HB3.out, fun j r' hj hr' => by
              rcases Nat.lt_succ_iff_lt_or_eq.1 hj with h | rfl
              · exact HG.out j r' h hr'
              · rw [HX.out] at hr'; cases hr'; exact HF.out⟩
      · have HF := Lib.hid (show rowB n l s r = true by unfold rowB; rw [hr]; rfl)
        clear hr
        go_wp2_with (go_at_call 35; (with_reducible refine (must_yes _ _).mono ?_); rintro e w' ⟨rfl, rfl⟩)
        go_roundg (gk - 1)
        case measure => have := HK.out; omega
        case rel => exact ⟨k + 1, by have := HK.out; omega, by go_num, HB2.out, fun j r' hj hr' => by
            rcases Nat.lt_succ_iff_lt_or_eq.1 hj with h | rfl
            · exact HG.out j r' h hr'
            · rw [HX.out] at hr'; cases hr'; exact HF.out⟩
    · obtain rfl : k = t.length := by have := HK.out; omega
      have p2 := cells4b (blk_keep Q2.out hB)
      have l2 := lt_of_block (blk_keep Q2.out hB)
      have HF := Lib.hid (show tallyB n l s t = true by rw [HA.out]; exact all_of_at fun j r hj hr => HG.out j r hj hr)
      obtain ⟨V2, rfl⟩ : ∃ V2 : World, V2 = wr := ⟨_, rfl⟩
      go_wp2_with fail
      go_light
      refine bodyPost_ret (v := .agg #[.slice a t.length cap, .int .i64 n, .int .i64 l, .int .i64 s]) ?_ rfl ⟨.inl ⟨HF.out, rfl⟩, ?_⟩
      · simp [results, Try.results30, go_sem, p2]
      · have := EW.out
        (repeat (first | (with_reducible exact Below.refl _ _) | (with_reducible assumption) | (with_reducible refine below_drewN ?_ _) | (with_reducible refine Below.drew ?_) | ((with_reducible refine Below.alloc ?_ ?_ _); rotate_left; focus (first | (with_reducible exact Nat.le_refl _) | omega | (simp; done) | (simp; omega))) | ((with_reducible refine Below.setCell (p := ⟨_, _, _⟩) ?_ ?_ _); rotate_left; focus (first | (with_reducible exact Nat.le_refl _) | omega | (simp; done) | (simp; omega)))))

theorem of_any (n l s : Int) (w : World) (v : Value) (t : List (List (Bool × Int))) (hv : Rows2 w v t) (hlen : ∀ r ∈ t, r.length ≤ 1099511627776) :
    Calls Try.prog 30 #[.agg #[.int .i64 n, .int .i64 l, .int .i64 s], .agg #[v]] w (OfPost w n l s v t) := by
  cases hs : shapeB n l s
  · exact of_bad1 n l s w v t hv (.inl hs)
  · by_cases hn : (t.length : Int) = n
    · exact of_rows n l s w v t hv hs hn hlen
    · exact of_bad1 n l s w v t hv (.inr ⟨hs, hn⟩)
theorem tally_bd {n l s : Int} {t : List (List (Bool × Int))} (h : tallyB n l s t = true) : t.length ≤ 64 ∧ ((t.length : Int) = n ∧ 1 ≤ n) ∧ ∀ r ∈ t, r = [] ∨ ((r.length : Int) = l ∧ repB n l s r = true) := by
  unfold tallyB at h
  simp only [Bool.and_eq_true, decide_eq_true_eq, List.all_eq_true] at h
  have hb := shapeB_is h.1.1
  refine ⟨by omega, ⟨h.1.2, by omega⟩, fun r hr => ?_⟩
  have := h.2 r hr
  unfold rowB at this
  cases r with
  | nil => exact .inl rfl
  | cons x r =>
    right
    simp only [List.isEmpty_cons, Bool.false_or] at this
    refine ⟨?_, this⟩
    unfold repB at this
    simp only [Bool.and_eq_true, decide_eq_true_eq] at this
    exact this.1.2

end Go.Proofs.Ytnkpmeplapkobaa
