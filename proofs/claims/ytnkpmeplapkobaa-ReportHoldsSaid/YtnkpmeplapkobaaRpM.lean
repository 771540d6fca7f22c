/- Reports: what becomes of tokens that go from node to node; no program is walked here. -/
import Derived.Test.YtnkpmeplapkobaaRpL
namespace Go.Proofs.Ytnkpmeplapkobaa
open Go.RowKit Go.Shelf

/-- Who knows what: node, lock. -/
abbrev Mx := Nat → Nat → Bool × Int
def rowM (W : Nat) (M : Mx) (j : Nat) : List (Bool × Int) := (List.range W).map (M j)
def rowsM (N W : Nat) (M : Mx) : List (List (Bool × Int)) := (List.range N).map (rowM W M)
def updM (M : Mx) (a k : Nat) (v : Bool × Int) : Mx := fun j q => if j = a ∧ q = k then v else M j q
theorem rowM_len {W : Nat} {M : Mx} {j : Nat} : (rowM W M j).length = W := by simp [rowM]
theorem rowM_at {W : Nat} {M : Mx} {j k : Nat} (h : k < W) : (rowM W M j)[k]? = some (M j k) := by
  simp [rowM, h]
theorem rowM_upd {W : Nat} {M : Mx} {a k j : Nat} {v : Bool × Int} : rowM W (updM M a k v) j = if j = a then (rowM W M j).set k v else rowM W M j := by
  split
  · rename_i h
    subst h
    apply List.ext_getElem?
    intro i
    rw [List.getElem?_set]
    by_cases hi : i < W
    · rw [rowM_at hi, rowM_at hi]
      unfold updM
      by_cases hk : i = k
      · subst hk; simp [rowM_len, hi]
      · rw [if_neg (fun h => hk h.2), if_neg (fun h => hk h.symm)]
    · rw [List.getElem?_eq_none (by rw [rowM_len]; omega), List.getElem?_eq_none (by rw [rowM_len]; omega)]
      split
      · rename_i h; subst h; simp [rowM_len]; omega
      · rfl
  · rename_i h
    unfold rowM updM
    simp [h]
theorem rowAt_M {W : Nat} {M : Mx} {j k : Nat} (h : k < W) : rowAt k (rowM W M j) = M j k := by
  unfold rowAt
  rw [List.getD_eq_getElem?_getD, rowM_at h]
  rfl
theorem colN_M {N W k : Nat} {M : Mx} (hk : k < W) : colN k 0 (rowsM N W M) = (List.range N).map fun (j : Nat) => ((k : Int), (j : Int), (M j k).2) := by
  induction N with
  | zero => rfl
  | succ N ih =>
    have : rowsM (N + 1) W M = rowsM N W M ++ [rowM W M N] := by simp [rowsM, List.range_succ]
    rw [this, colN_app, ih, List.range_succ, List.map_append, rowAt_M hk]
    simp [rowsM]
theorem hasN_M {N W k : Nat} {M : Mx} (hk : k < W) : hasN k (rowsM N W M) = (List.range N).countP fun j => (M j k).1 := by
  unfold hasN rowsM
  rw [List.countP_map]
  congr 1
  funext j
  simp [rowAt_M hk]
/-- What is strictly the greatest is the best. -/
theorem bestOf_max {xs : List Bk} {f : Nat} {b : Bk} (hb : xs[f]? = some b) (ho : ∀ i x, xs[i]? = some x → i ≠ f → x.2.2 < b.2.2) : bestOf xs = b := by
  have key : ∀ i, i ≤ xs.length → 0 < i → (f < i → bestOf (xs.take i) = b) ∧ (i ≤ f → (bestOf (xs.take i)).2.2 < b.2.2) := by
    intro i
    induction i with
    | zero => intro _ h; omega
    | succ i ih =>
      intro hi _
      obtain ⟨y, hy⟩ := at_some (xs := xs) (k := i) (by omega)
      rw [take_snoc hy, bestOf_snoc]
      by_cases h0 : i = 0
      · subst h0
        simp only [List.take_zero, if_pos]
        refine ⟨fun h => ?_, fun h => ?_⟩
        · have : f = 0 := by omega
          subst this
          rw [hb] at hy; cases hy; rfl
        · exact ho 0 y hy (by omega)
      · rw [if_neg (by intro e; have := congrArg List.length e; rw [List.length_take, List.length_nil] at this; omega)]
        obtain ⟨h1, h2⟩ := ih (by omega) (by omega)
        unfold stepB
        refine ⟨fun h => ?_, fun h => ?_⟩
        · by_cases hf : f < i
          · rw [h1 hf]
            have := ho i y hy (by omega)
            rw [if_neg (by omega)]
          · have : f = i := by omega
            subst this
            rw [hb] at hy; cases hy
            rw [if_pos (h2 (Nat.le_refl _))]
        · have h3 := h2 (by omega)
          have h4 := ho i y hy (by omega)
          split <;> assumption
  have hl := (List.getElem?_eq_some_iff.1 hb).1
  have := (key xs.length (Nat.le_refl _) (by omega)).1 hl
  rwa [List.take_length] at this
theorem countP_one {N a : Nat} {p : Nat → Bool} (ha : a < N) (hp : ∀ j, j < N → p j = decide (j = a)) : (List.range N).countP p = 1 := by
  induction N with
  | zero => omega
  | succ N ih =>
    rw [List.range_succ, List.countP_append]
    by_cases h : a < N
    · rw [ih h (fun j hj => hp j (by omega))]
      have := hp N (by omega)
      simp [this]; omega
    · have : a = N := by omega
      subst this
      have h0 : (List.range a).countP p = 0 := by
        rw [List.countP_eq_zero]
        intro j hj
        rw [hp j (by have := List.mem_range.1 hj; omega)]
        have := List.mem_range.1 hj
        simp; omega
      rw [h0]
      simp [hp a (by omega)]
theorem countP_none {N : Nat} {p : Nat → Bool} (hp : ∀ j, j < N → p j = false) : (List.range N).countP p = 0 := by
  rw [List.countP_eq_zero]
  intro j hj
  rw [hp j (List.mem_range.1 hj)]
  simp
/-- A lock's column is as its result says. -/
def DoneC (N k : Nat) (M : Mx) (res : Option Bk) : Prop :=
  (∀ j, j < N → 0 ≤ (M j k).2 ∧ (M j k).2 ≤ 40) ∧ match res with
  | none => (List.range N).countP (fun j => (M j k).1) = 1
  | some b => (∀ j, j < N → (M j k).1 = false) ∧ ∃ f, f < N ∧ b = ((k : Int), (f : Int), (M f k).2) ∧ ∀ j, j < N → j ≠ f → (M j k).2 < (M f k).2
theorem decGo_M {N W : Nat} {M : Mx} {res : Nat → Option Bk} (h : ∀ k, k < W → DoneC N k M (res k)) : ∀ g k, g + k = W → decGo (rowsM N W M) g k = some ((List.range' k g).filterMap res)
  | 0, k, _ => by simp [decGo]
  | g + 1, k, hk => by
    have ih := decGo_M h g (k + 1) (by omega)
    obtain ⟨h1, h2⟩ := h k (by omega)
    simp only [decGo]
    rw [hasN_M (by omega), ih, List.range'_succ, List.filterMap_cons]
    cases hr : res k with
    | none =>
      rw [hr] at h2
      simp only at h2
      rw [h2]
      simp
    | some b =>
      rw [hr] at h2
      obtain ⟨h3, f, hf, rfl, h4⟩ := h2
      rw [countP_none h3]
      simp only [Option.map_some, if_true]
      rw [if_neg (by omega), colN_M (by omega), bestOf_max (f := f) (b := ((k : Int), (f : Int), (M f k).2)) (by simp [hf]) (fun i x hx hi => by
        obtain ⟨hl, rfl⟩ := List.getElem?_eq_some_iff.1 hx
        simp at hl ⊢
        exact h4 i hl hi)]
theorem missN_ne : ∀ {t : List (List (Bool × Int))} {i : Nat}, (missN i t).isEmpty = true ↔ ∀ r ∈ t, r ≠ []
  | [], i => by simp [missN]
  | r :: t, i => by
    unfold missN
    cases r with
    | nil => simp
    | cons x r => simp [missN_ne (t := t) (i := i + 1)]
theorem shapeB_mk {n l s : Int} (h1 : 1 ≤ n ∧ n ≤ 64) (h2 : 1 ≤ l ∧ l ≤ 8) (h3 : 1 ≤ s ∧ s ≤ 4) : shapeB n l s = true := by
  unfold shapeB
  simp only [Bool.and_eq_true, decide_eq_true_eq]
  omega
theorem repB_M {N W k : Nat} {M : Mx} (hs : shapeB N W 1 = true) (h : ∀ q, q < W → 0 ≤ (M k q).2 ∧ (M k q).2 ≤ 40) : repB N W 1 (rowM W M k) = true := by
  unfold repB
  simp only [hs, rowM_len, decide_true, Bool.true_and, List.all_eq_true]
  intro x hx
  obtain ⟨q, hq, rfl⟩ := List.mem_map.1 hx
  have := h q (List.mem_range.1 hq)
  unfold hopB
  simp; omega
theorem decX_M {N W : Nat} {M : Mx} {res : Nat → Option Bk} (hN : 1 ≤ N ∧ N ≤ 20) (hW : 1 ≤ W ∧ W ≤ 8) (h : ∀ k, k < W → DoneC N k M (res k)) : decX N W 1 (rowsM N W M) = ((List.range W).filterMap res, 0) := by
  have hs : shapeB N W 1 = true := shapeB_mk (by omega) (by omega) (by omega)
  have ht : tallyB N W 1 (rowsM N W M) = true := by
    unfold tallyB
    simp only [hs, Bool.true_and, Bool.and_eq_true, decide_eq_true_eq, List.all_eq_true]
    refine ⟨by simp [rowsM], fun r hr => ?_⟩
    obtain ⟨j, hj, rfl⟩ := List.mem_map.1 hr
    unfold rowB
    rw [repB_M hs (fun q hq => (h q hq).1 j (List.mem_range.1 hj))]
    simp
  have hm : (missN 0 (rowsM N W M)).isEmpty = true := missN_ne.2 fun r hr => by
    obtain ⟨j, hj, rfl⟩ := List.mem_map.1 hr
    intro e
    have := congrArg List.length e
    rw [rowM_len] at this
    simp at this; omega
  unfold decX
  rw [ht, if_neg (by simp), if_neg (by rw [hm]; simp), Int.toNat_natCast, decGo_M h W 0 (by omega)]
  rw [List.range_eq_range']
  rfl
/-! ### Who has reported -/
def tD (N W : Nat) (M : Mx) (D : Nat → Bool) : List (List (Bool × Int)) := (List.range N).map fun j => if D j = true then rowM W M j else []
def updD (D : Nat → Bool) (n : Nat) : Nat → Bool := fun j => if j = n then true else D j
theorem tD_len {N W : Nat} {M : Mx} {D : Nat → Bool} : (tD N W M D).length = N := by simp [tD]
theorem tD_set {N W : Nat} {M : Mx} {D : Nat → Bool} {n : Nat} : (tD N W M D).set n (rowM W M n) = tD N W M (updD D n) := by
  apply List.ext_getElem?
  intro i
  rw [List.getElem?_set]
  by_cases hi : i < N
  · unfold tD updD
    by_cases h : n = i
    · subst h; simp [hi]
    · rw [if_neg h]
      have hne : i ≠ n := fun e => h e.symm
      simp [hi, hne]
  · rw [List.getElem?_eq_none (by rw [tD_len]; omega), List.getElem?_eq_none (by rw [tD_len]; omega)]
    split
    · rename_i h; subst h; simp [tD_len]; omega
    · rfl
theorem tD_get {N W : Nat} {M : Mx} {D : Nat → Bool} {n : Nat} (h : n < N) (hW : 1 ≤ W) : ((tD N W M D).getD n []).isEmpty = !D n := by
  rw [List.getD_eq_getElem?_getD]
  unfold tD
  simp only [List.getElem?_map, List.getElem?_range h, Option.map_some, Option.getD_some]
  cases D n
  · rfl
  · have := rowM_len (W := W) (M := M) (j := n)
    cases hr : rowM W M n with
    | nil => rw [hr] at this; simp at this; omega
    | cons x r => rfl
theorem count_upd {N n : Nat} {D : Nat → Bool} (hn : n < N) (hD : D n = false) : (List.range N).countP (updD D n) = (List.range N).countP D + 1 := by
  induction N with
  | zero => omega
  | succ N ih =>
    rw [List.range_succ, List.countP_append, List.countP_append]
    by_cases h : n < N
    · rw [ih h]
      have : updD D n N = D N := by unfold updD; rw [if_neg (by omega)]
      simp only [List.countP_singleton, this]
      omega
    · have : n = N := by omega
      subst this
      have h0 : (List.range n).countP (updD D n) = (List.range n).countP D := by
        apply List.countP_congr
        intro j hj
        have := List.mem_range.1 hj
        unfold updD
        rw [if_neg (by omega)]
      rw [h0]
      simp [updD, hD]
theorem count_all {N : Nat} {D : Nat → Bool} : (List.range N).countP D = N ↔ ∀ j, j < N → D j = true := by
  have := List.countP_eq_length (p := D) (l := List.range N)
  rw [List.length_range] at this
  rw [this]
  exact ⟨fun h j hj => h j (List.mem_range.2 hj), fun h j hj => h j (List.mem_range.1 hj)⟩
theorem count_le {N : Nat} {D : Nat → Bool} : (List.range N).countP D ≤ N := by
  have := List.countP_le_length (p := D) (l := List.range N)
  simpa using this
theorem tD_whole {N W : Nat} {M : Mx} {D : Nat → Bool} (hW : 1 ≤ W) : (missN 0 (tD N W M D)).isEmpty = decide ((List.range N).countP D = N) := by
  rw [Bool.eq_iff_iff, missN_ne, decide_eq_true_eq, count_all]
  constructor
  · intro h j hj
    cases hD : D j with
    | true => rfl
    | false => exact absurd (by simp [hD]) (h (if D j = true then rowM W M j else []) (List.mem_map.2 ⟨j, List.mem_range.2 hj, rfl⟩))
  · intro h r hr
    obtain ⟨j, hj, rfl⟩ := List.mem_map.1 hr
    rw [h j (List.mem_range.1 hj), if_pos rfl]
    intro e
    have := congrArg List.length e
    rw [rowM_len] at this
    simp at this; omega
theorem tD_tally {N W : Nat} {M : Mx} {D : Nat → Bool} (hN : 1 ≤ N ∧ N ≤ 20) (hW : 1 ≤ W ∧ W ≤ 8) (h : ∀ j q, j < N → q < W → 0 ≤ (M j q).2 ∧ (M j q).2 ≤ 40) : tallyB N W 1 (tD N W M D) = true := by
  have hs : shapeB N W 1 = true := shapeB_mk (by omega) (by omega) (by omega)
  unfold tallyB
  simp only [hs, Bool.true_and, Bool.and_eq_true, decide_eq_true_eq, List.all_eq_true]
  refine ⟨by simp [tD], fun r hr => ?_⟩
  obtain ⟨j, hj, rfl⟩ := List.mem_map.1 hr
  unfold rowB
  split
  · rw [repB_M hs (fun q hq => h j q (List.mem_range.1 hj) hq)]; simp
  · rfl
theorem tD_all {N W : Nat} {M : Mx} {D : Nat → Bool} (h : ∀ j, j < N → D j = true) : tD N W M D = rowsM N W M := by
  unfold tD rowsM
  apply List.map_congr_left
  intro j hj
  rw [if_pos (h j (List.mem_range.1 hj))]
/-- A report more. -/
theorem addX_M {N W : Nat} {M : Mx} {D : Nat → Bool} {n : Int} {r : List (Bool × Int)} (hN : 1 ≤ N ∧ N ≤ 20) (hW : 1 ≤ W ∧ W ≤ 8) (h : ∀ j q, j < N → q < W → 0 ≤ (M j q).2 ∧ (M j q).2 ≤ 40)
    (hr : ∀ k : Nat, n = k → k < N → r = rowM W M k) (hr2 : ∃ k, k < N ∧ r = rowM W M k) :
    (∃ k : Nat, n = k ∧ k < N ∧ D k = false ∧ addX N W 1 (tD N W M D) n r = (tD N W M (updD D k), decide ((List.range N).countP (updD D k) = N), 0)) ∨ ((∀ k : Nat, n = k → k < N → D k = true) ∧ ∃ e, e ≠ 0 ∧ addX N W 1 (tD N W M D) n r = ([], false, e)) := by
  have hs : shapeB N W 1 = true := shapeB_mk (by omega) (by omega) (by omega)
  have ht := tD_tally (D := D) hN hW h
  have hp : repB N W 1 r = true := by
    obtain ⟨k, hk, rfl⟩ := hr2
    exact repB_M hs (fun q hq => h k q hk hq)
  unfold addX
  rw [if_pos ⟨ht, hp⟩]
  by_cases hn : 0 ≤ n ∧ n < N
  · obtain ⟨k, rfl⟩ : ∃ k : Nat, n = k := ⟨n.toNat, by omega⟩
    have hk : k < N := by omega
    rw [if_pos hn, Int.toNat_natCast, tD_get hk hW.1, hr k rfl hk, tD_set, tD_whole hW.1]
    cases hD : D k
    · exact .inl ⟨k, rfl, hk, hD, by simp⟩
    · exact .inr ⟨fun k' e _ => by have : k' = k := by omega
                                   subst this; exact hD, 270, by decide, by simp⟩
  · rw [if_neg hn]
    exact .inr ⟨fun k e hk => by omega, 4, by decide, rfl⟩

end Go.Proofs.Ytnkpmeplapkobaa
