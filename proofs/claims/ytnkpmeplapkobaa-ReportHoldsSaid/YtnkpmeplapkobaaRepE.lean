/- Reports: few; the reference's Tally, Missing. -/
import Derived.Test.YtnkpmeplapkobaaRepD
namespace Go.Proofs.Ytnkpmeplapkobaa
open Go.RowKit Go.Shelf

/-- No more than is looked at. -/
def fewB (t : List (List (Bool × Int))) : Bool := decide (t.length ≤ 100) && (t.take 101).all (fun r => decide (r.length ≤ 20))
theorem fewB_is {t : List (List (Bool × Int))} (h : fewB t = true) : t.length ≤ 100 ∧ ∀ r ∈ t, r.length ≤ 20 := by
  unfold fewB at h
  simp only [Bool.and_eq_true, decide_eq_true_eq] at h
  refine ⟨h.1, fun r hr => ?_⟩
  have h2 := h.2
  rw [List.take_of_length_le (by omega)] at h2
  have := List.all_eq_true.1 h2 r hr
  simpa using this

set_option maxRecDepth 100000 in
set_option maxHeartbeats 2000000 in
theorem few_any (w : World) (v : Value) (t : List (List (Bool × Int))) (hv : Rows2 w v t) (hlen : t.length ≤ 1099511627776) :
    Calls Try.prog 7 #[.agg #[v]] w fun e w' => e = .returned (.bool (fewB t)) ∧ Below w.heap.size w w' := by
  have HV := Lib.hid hv
  obtain ⟨a, cap, rfl⟩ := hv.shape
  clear hv
  go_enter Try.func7, Try.ntmps7
  go_wp2
  go_loop [3] (fun v => ∃ k : Nat, k ≤ t.length ∧ k ≤ 101 ∧ v = .int .i64 k ∧ ∀ j r, j < k → t[j]? = some r → r.length ≤ 20) (fun v => 101 - (intOf v).toNat)
  case atStart => exact ⟨0, Nat.zero_le _, by omega, rfl, fun j x hj => absurd hj (by omega)⟩
  case round =>
    obtain ⟨k, hk, hk1, rfl, hno⟩ := hrel
    have HN := Lib.hid hno
    clear hno
    by_cases hlt : k < t.length
    · by_cases h100 : k ≤ 100
      · obtain ⟨r, hx⟩ := at_some hlt
        obtain ⟨b, off, cap', ra, rc, hv, hb, hc, hSr⟩ := HV.out.at_ hx
        cases hv
        have i0 : (0 : Int) ≤ (k : Int) := by omega
        have HX := Lib.hid hx
        clear hx hSr
        by_cases h1 : 20 < r.length
        · have HF := Lib.hid (show fewB t = false by
            unfold fewB
            rw [show (t.take 101).all (fun r => decide (r.length ≤ 20)) = false from all_false_at (k := k) (x := r) (by rw [List.getElem?_take, if_pos (by omega)]; exact HX.out) (by simp; omega)]
            simp)
          go_wp2
          go_ret
          exact ⟨ret_bool (by rw [HF.out]), by (repeat (first | (with_reducible exact Below.refl _ _) | (with_reducible assumption) | (with_reducible refine below_drewN ?_ _) | (with_reducible refine Below.drew ?_) | ((with_reducible refine Below.alloc ?_ ?_ _); rotate_left; focus (first | (with_reducible exact Nat.le_refl _) | omega | (simp; done) | (simp; omega))) | ((with_reducible refine Below.setCell (p := ⟨_, _, _⟩) ?_ ?_ _); rotate_left; focus (first | (with_reducible exact Nat.le_refl _) | omega | (simp; done) | (simp; omega)))))⟩
        · go_wp2
          go_round
          case rel => exact ⟨k + 1, by omega, by omega, by go_num, fun j y hj hy => by
            rcases Nat.lt_succ_iff_lt_or_eq.1 hj with h | rfl
            · exact HN.out j y h hy
            · rw [HX.out] at hy; cases hy; omega⟩
          case measure => simp [intOf]; omega
      · have HF := Lib.hid (show fewB t = false by unfold fewB; simp; omega)
        have h100' : (100 : Int) < (t.length : Int) := by omega
        go_wp2
        go_ret
        exact ⟨ret_bool (by rw [HF.out]; simp; omega), by (repeat (first | (with_reducible exact Below.refl _ _) | (with_reducible assumption) | (with_reducible refine below_drewN ?_ _) | (with_reducible refine Below.drew ?_) | ((with_reducible refine Below.alloc ?_ ?_ _); rotate_left; focus (first | (with_reducible exact Nat.le_refl _) | omega | (simp; done) | (simp; omega))) | ((with_reducible refine Below.setCell (p := ⟨_, _, _⟩) ?_ ?_ _); rotate_left; focus (first | (with_reducible exact Nat.le_refl _) | omega | (simp; done) | (simp; omega)))))⟩
    · obtain rfl : k = t.length := by omega
      have HF := Lib.hid (show fewB t = decide (t.length ≤ 100) by
        unfold fewB
        rw [List.take_of_length_le (by omega), all_of_at (fun j r hj hr => by simpa using HN.out j r hj hr)]
        simp)
      go_wp2
      go_ret
      exact ⟨ret_bool (by rw [HF.out]; first | (simp; done) | (rw [Bool.eq_iff_iff]; simp; omega)), by (repeat (first | (with_reducible exact Below.refl _ _) | (with_reducible assumption) | (with_reducible refine below_drewN ?_ _) | (with_reducible refine Below.drew ?_) | ((with_reducible refine Below.alloc ?_ ?_ _); rotate_left; focus (first | (with_reducible exact Nat.le_refl _) | omega | (simp; done) | (simp; omega))) | ((with_reducible refine Below.setCell (p := ⟨_, _, _⟩) ?_ ?_ _); rotate_left; focus (first | (with_reducible exact Nat.le_refl _) | omega | (simp; done) | (simp; omega)))))⟩

/-- Which nodes have not reported, from i on. -/
def missN : Nat → List (List (Bool × Int)) → List Nat
  | _, [] => []
  | i, r :: t => if r.isEmpty then i :: missN (i + 1) t else missN (i + 1) t
theorem missN_len : ∀ {t : List (List (Bool × Int))} {i : Nat}, (missN i t).length ≤ t.length := by
  intro t
  induction t with
  | nil => intro i; simp [missN]
  | cons r t ih => intro i; unfold missN; split <;> simp only [List.length_cons] <;> have := ih (i := i + 1) <;> omega
theorem missN_at {t : List (List (Bool × Int))} {k : Nat} {r : List (Bool × Int)} (h : t[k]? = some r) : missN k (t.drop k) = if r.isEmpty then k :: missN (k + 1) (t.drop (k + 1)) else missN (k + 1) (t.drop (k + 1)) := by
  obtain ⟨hk, hx⟩ := List.getElem?_eq_some_iff.1 h
  rw [List.drop_eq_getElem_cons hk, hx, missN]
theorem news1 (X : World) (t : TypeId) (u0 : Value) : ∀ j u, [u0][j]? = some u → (X.alloc (.cells #[u0] t)).cell? ((⟨X.heap.size, 0, none⟩ : Addr).add j) = some u := by
  intro j u hj
  match j, hj with
  | 0, hj =>
    simp at hj
    subst hj
    rw [show (⟨X.heap.size, 0, none⟩ : Addr).add 0 = ⟨X.heap.size, 0, none⟩ from rfl, World.cell?_alloc_at _ _ _ _ rfl]
    rfl
  | j + 1, hj => simp at hj
theorem Try.infoN : (Try.prog.info? 3).map (fun i => (i.zero, i.size, i.bytes)) = some (some (.int .i64 0), 1, 8) := by kernel_rfl
theorem own_blk {W : World} {base : Nat} {e : TypeId} {k : Nat} {v : Value} {n : Nat} {xs : List Value} (h : W.ownsRow base e k v n xs) : ∀ g, v.ownBlock = some g → base ≤ g := by
  intro g hg
  rcases h.2 with ⟨rfl, _⟩ | ⟨g', cap, cur, rfl, hb, hh, _⟩
  · simp [Value.ownBlock] at hg
  · simp only [Value.ownBlock, Option.some.injEq] at hg
    subst hg
    exact hb
def natI (l : List Nat) : List Int := l.map (fun p => ((p : Nat) : Int))

set_option maxRecDepth 100000 in
set_option maxHeartbeats 2000000 in
theorem refMissing_any (w : World) (v : Value) (t : List (List (Bool × Int))) (hv : Rows2 w v t) (hlen : t.length ≤ 100) :
    Calls Try.prog 10 #[.agg #[v]] w fun e w' => ∃ r, e = .returned r ∧ w'.ownsRow w.heap.size 3 1 r (missN 0 t).length ((natI (missN 0 t)).flatMap encI) ∧ Below w.heap.size w w' := by
  have HV := Lib.hid hv
  obtain ⟨a, cap, rfl⟩ := hv.shape
  obtain ⟨i0, hi0, hz0, hz1, hz2⟩ := info_parts Try.infoN
  have J0 := Lib.hid hi0
  have Y0 := Lib.hid hz0
  have Y1 := Lib.hid hz1
  have Y2 := Lib.hid hz2
  clear hv hi0 hz0 hz1 hz2
  go_enter Try.func10, Try.ntmps10
  go_wp2
  go_loopw [3, 4] (fun v3 v4 wr => ∃ (k : Nat) (done : List Nat), k ≤ t.length ∧ v4 = .int .i64 k ∧ missN 0 t = done ++ missN k (t.drop k) ∧ wr.ownsRow (w.heap.size + 1) 3 1 v3 done.length ((natI done).flatMap encI) ∧ Below w.heap.size w wr ∧ (w.heap.size < wr.heap.size ∧ wr.cell? ⟨w.heap.size, 0, none⟩ = some (.slice a t.length cap)))
    (fun _ v4 _ => t.length - (intOf v4).toNat)
  case atStart => exact ⟨0, [], Nat.zero_le _, rfl, by simp, World.ownsRow_nil _ _ _ _, by (repeat (first | (with_reducible exact Below.refl _ _) | (with_reducible assumption) | (with_reducible refine below_drewN ?_ _) | (with_reducible refine Below.drew ?_) | ((with_reducible refine Below.alloc ?_ ?_ _); rotate_left; focus (first | (with_reducible exact Nat.le_refl _) | omega | (simp; done) | (simp; omega))) | ((with_reducible refine Below.setCell (p := ⟨_, _, _⟩) ?_ ?_ _); rotate_left; focus (first | (with_reducible exact Nat.le_refl _) | omega | (simp; done) | (simp; omega))))), by simp, by go_simp⟩
  case round =>
    obtain ⟨k, done, hk, rfl, hrun, own, hB, hz, hc0⟩ := hrel
    have i0' : (0 : Int) ≤ (k : Int) := by omega
    have OWN := Lib.hid own
    have HB := Lib.hid hB
    have HRUN := Lib.hid hrun
    have hsb := Lib.hid (own_blk own)
    have hdl := Lib.hid (show done.length ≤ 100 by
      have h1 := congrArg List.length hrun
      rw [List.length_append] at h1
      have := missN_len (t := t) (i := 0); omega)
    clear hrun
    by_cases hlt : k < t.length
    · obtain ⟨r, hx⟩ := at_some hlt
      obtain ⟨b, off, cap', ra, rc, hv, hb, hc, hSr⟩ := HV.out.at_ hx
      cases hv
      have hcx := (hB.cell (p := ⟨b, off + k, none⟩) hb).trans hc
      have HM := Lib.hid (missN_at hx)
      clear hc hx hSr own hB
      cases r with
      | nil =>
        have HFin := Lib.hid (show missN 0 t = (done ++ [k]) ++ missN (k + 1) (t.drop (k + 1)) by rw [HRUN.out, HM.out]; simp)
        have HNEWS := Lib.hid (news1 wr 3 (.int .i64 (k : Int)))
        go_wp2_with (at_builtin; refine wpList_append_own _ rfl _ _ 29 rfl (w.heap.size + 1) 3 i0 (.int .i64 0) 1 8 Try.underlying29 J0.out Y0.out Y1.out Y2.out rfl (by decide) u3 done.length _ rfl (OWN.out.alloc _) ⟨wr.heap.size, 0, none⟩ 1 1 [.int .i64 (k : Int)] rfl rfl HNEWS.out (by simp [Value.oneCell']) (by have := hdl.out; unfold maxLen; omega) (by have := hdl.out; omega) (by simp; omega) ?_; intro v' W8 hown8 hgrow8 _; have O8 := Lib.hid hown8; have G8 := Lib.hid hgrow8; clear hown8 hgrow8)
        refine ⟨⟨k + 1, done ++ [k], by omega, by go_num, HFin.out, ?_, (HB.out.alloc (by omega) _).grown G8.out (by simp; omega) (fun g e => by have := hsb.out g e; omega), Nat.lt_of_lt_of_le hz (by have := G8.out.size; simp at this; omega), ?_⟩, by simp [intOf]; omega⟩
        · rw [List.length_append, List.length_singleton]
          have := O8.out
          unfold natI at this ⊢
          rw [List.map_append, List.flatMap_append]
          exact this
        · rw [World.cell?_of_block (w := wr.alloc (.cells #[.int .i64 (k : Int)] 3)) (G8.out.block w.heap.size (by simp; omega) (fun e => by have := hsb.out _ e.symm; omega)), World.cell?_alloc_past _ _ _ hz]
          exact hc0
      | cons x r =>
        have HFin := Lib.hid (show missN 0 t = done ++ missN (k + 1) (t.drop (k + 1)) by rw [HRUN.out, HM.out]; simp)
        have hne : (((x :: r).length : Int) == 0) = false := by simp; omega
        go_wp2
        go_roundw
        case rel => exact ⟨k + 1, done, by omega, by go_num, HFin.out, OWN.out, HB.out, hz, hc0⟩
        case measure => simp [intOf]; omega
    · obtain rfl : k = t.length := by omega
      have HF := Lib.hid (show missN 0 t = done by have := HRUN.out; rw [List.drop_length, missN, List.append_nil] at this; exact this)
      go_wp2
      go_ret
      exact ⟨_, rfl, by rw [HF.out]; exact owns_base OWN.out (Nat.le_succ _), HB.out⟩

end Go.Proofs.Ytnkpmeplapkobaa
