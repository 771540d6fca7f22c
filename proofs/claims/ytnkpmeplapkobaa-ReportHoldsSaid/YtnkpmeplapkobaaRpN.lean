/- Reports, by the symbolic run: the law ReportHolds. -/
import Derived.Test.YtnkpmeplapkobaaRpM
import Derived.Test.YtnkpmeplapkobaaEngV
namespace Go.Proofs.Ytnkpmeplapkobaa
open Go.RowKit Go.Shelf

/-- How a token went: to which nodes, and whether the last one has it. -/
abbrev Wy := List Int × Bool
def encWy (x : Value × Bool) : List Value := [x.1, .bool x.2]
def waysF (v : Value) (ways : List Wy) : Fact where
  h A w := ∃ xs : List (Value × Bool), (slF encWy 2 v xs).h A w ∧ xs.length = ways.length ∧ ∀ (i : Nat) (x : Value × Bool) (y : Wy), xs[i]? = some x → ways[i]? = some y → (slF encI 1 x.1 y.1).h A w ∧ x.2 = y.2
  ok := by
    rintro A A' w w' hA hw hg ⟨xs, h1, h2, h3⟩
    exact ⟨xs, (slF _ _ _ _).ok hA hw hg h1, h2, fun i x y hx hy => ⟨(slF _ _ _ _).ok hA hw hg (h3 i x y hx hy).1, (h3 i x y hx hy).2⟩⟩
theorem waysF_len {a : Option Addr} {m cap : Nat} {ways : List Wy} {A : Nat → Prop} {w : World} (h : (waysF (.slice a m cap) ways).h A w) : m = ways.length := by
  obtain ⟨xs, h1, h2, _⟩ := h
  rw [← h2]; exact (slF_len h1).1
theorem waysF_at {a : Option Addr} {m cap : Nat} {ways : List Wy} {i : Nat} {y : Wy} (hy : ways[i]? = some y) (A : Nat → Prop) (w : World) (h : (waysF (.slice a m cap) ways).h A w) :
    ∃ x : Nat × Nat × Option Addr × Nat, a = some ⟨x.1, x.2.1, none⟩ ∧ ∀ g ∈ [celF x.1 (x.2.1 + i * 2) (.slice x.2.2.1 y.1.length x.2.2.2), celF x.1 (x.2.1 + i * 2 + 1) (.bool y.2), slF encI 1 (.slice x.2.2.1 y.1.length x.2.2.2) y.1], g.h A w := by
  obtain ⟨xs, h1, h2, h3⟩ := h
  have hi := (List.getElem?_eq_some_iff.1 hy).1
  obtain ⟨x, hx⟩ := at_some (xs := xs) (k := i) (by omega)
  obtain ⟨h4, h5⟩ := h3 i x y hx hy
  obtain ⟨ra, rc, h6, h7⟩ := h4
  obtain ⟨a', cap', h8, _, h9⟩ := h1
  cases h8
  rcases h9 with h9 | ⟨b, off, e9, h10, h11⟩
  · subst h9; simp at hx
  · refine ⟨(b, off, ra, rc), e9, ?_⟩
    simp only [List.forall_mem_cons, List.not_mem_nil, false_implies, implies_true, and_true]
    refine ⟨⟨h10, ?_⟩, ⟨h10, ?_⟩, ra, rc, rfl, h7⟩
    · have := h11 i x hx 0 _ rfl
      rw [h6] at this
      simpa using this
    · have := h11 i x hx 1 _ rfl
      rw [h5] at this
      exact this
theorem flat_hop (h : Int) : ∀ (zs : List (Bool × Int)) (k : Nat) (x : Bool × Int), zs[k]? = some x → (zs.flatMap encR).take (k * 2 + 1) ++ [Value.int .i64 h] ++ (zs.flatMap encR).drop (k * 2 + 1 + [Value.int .i64 h].length) = (zs.set k (x.1, h)).flatMap encR
  | z :: zs, 0, x, hx => by
    simp at hx
    subst hx
    simp [encR]
  | z :: zs, k + 1, x, hx => by
    have ih := flat_hop h zs k x (by simpa using hx)
    rw [List.set_cons_succ, List.flatMap_cons, List.flatMap_cons, ← ih, Nat.succ_mul]
    have e1 : k * 2 + 2 + 1 = k * 2 + 1 + 1 + 1 := by omega
    have e2 : k * 2 + 2 + 1 + [Value.int .i64 h].length = k * 2 + 1 + [Value.int .i64 h].length + 1 + 1 := by omega
    rw [e2, e1]
    simp [encR]
/-- What the outer row holds when i rows are made. -/
def valM (W : Nat) (g : Nat → Nat) (j : Nat) : Value := .slice (some ⟨g j, 0, none⟩) W W
def outM (N W i : Nat) (g : Nat → Nat) : List Value := (List.range N).map fun j => if j < i then valM W g j else .slice none 0 0
def updG (g : Nat → Nat) (i b : Nat) : Nat → Nat := fun j => if j = i then b else g j
theorem outM_len {N W i : Nat} {g : Nat → Nat} : (outM N W i g).length = N := by simp [outM]
theorem outM_set {N W i b : Nat} {g : Nat → Nat} (hi : i < N) : (outM N W i g).take i ++ [Value.slice (some ⟨b, 0, none⟩) W W] ++ (outM N W i g).drop (i + [Value.slice (some ⟨b, 0, none⟩) W W].length) = outM N W (i + 1) (updG g i b) := by
  have : (outM N W i g).set i (Value.slice (some ⟨b, 0, none⟩) W W) = outM N W (i + 1) (updG g i b) := by
    apply List.ext_getElem?
    intro j
    rw [List.getElem?_set]
    by_cases hj : j < N
    · unfold outM updG valM
      by_cases h : i = j
      · subst h; simp [hj]
      · have h2 : j ≠ i := fun e => h e.symm
        rw [if_neg h]
        simp only [List.getElem?_map, List.getElem?_range hj, Option.map_some, if_neg h2]
        by_cases h3 : j < i
        · rw [if_pos h3, if_pos (by omega)]
        · rw [if_neg h3, if_neg (by omega)]
    · rw [List.getElem?_eq_none (by rw [outM_len]; omega), List.getElem?_eq_none (by rw [outM_len]; omega)]
      rw [if_neg (by omega)]
  rw [← this, List.set_eq_take_append_cons_drop, if_pos (by rw [outM_len]; exact hi)]
  simp
theorem outM_at {N W j : Nat} {g : Nat → Nat} (h : j < N) : (outM N W N g)[j]? = some (valM W g j) := by
  simp [outM, h]
def zeroM : Mx := fun _ _ => (false, 0)
theorem rowM_zero {W j : Nat} : rowM W zeroM j = List.replicate W (false, 0) := by
  apply List.ext_getElem?
  intro i
  by_cases hi : i < W
  · rw [rowM_at hi, List.getElem?_replicate, if_pos hi]; rfl
  · rw [List.getElem?_eq_none (by rw [rowM_len]; omega), List.getElem?_eq_none (by simp; omega)]

theorem outM_zero {N W : Nat} {g : Nat → Nat} : outM N W 0 g = List.replicate N (.slice none 0 0) := by
  apply List.ext_getElem?
  intro i
  by_cases hi : i < N
  · rw [List.getElem?_replicate, if_pos hi]; simp [outM, hi]
  · rw [List.getElem?_eq_none (by rw [outM_len]; omega), List.getElem?_eq_none (by simp; omega)]
theorem updG_eq {g : Nat → Nat} {i b : Nat} : updG g i b i = b := by simp [updG]
theorem updG_ne {g : Nat → Nat} {i b j : Nat} (h : j ≠ i) : updG g i b j = g j := by simp [updG, h]
theorem updM_same {M : Mx} {a k : Nat} {v : Bool × Int} : updM M a k v a k = v := by simp [updM]
theorem updM_oth {M : Mx} {a k j q : Nat} {v : Bool × Int} (h : q ≠ k) : updM M a k v j q = M j q := by simp [updM, h]
theorem updM_row {M : Mx} {a k j q : Nat} {v : Bool × Int} (h : j ≠ a) : updM M a k v j q = M j q := by simp [updM, h]
/-- A column while a token goes: frm sent it last, hop times it went. -/
structure ColI (N k : Nat) (M M' : Mx) (frm hop : Nat) : Prop where
  fl : ∀ j, j < N → (M' j k).1 = false ∧ 0 ≤ (M' j k).2 ∧ (M' j k).2 ≤ hop
  top : 0 < hop → (M' frm k).2 = hop ∧ ∀ j, j < N → j ≠ frm → (M' j k).2 < hop
  oth : ∀ j q, q ≠ k → M' j q = M j q
theorem ColI.init {N k : Nat} {M : Mx} (h : ∀ j, j < N → M j k = (false, 0)) : ColI N k M M 0 0 :=
  ⟨fun j hj => by rw [h j hj]; simp, fun h => by omega, fun _ _ _ => rfl⟩
theorem ColI.step {N k frm hop a : Nat} {M M' : Mx} (h : ColI N k M M' frm hop) : ColI N k M (updM M' a k (false, ((hop + 1 : Nat) : Int))) a (hop + 1) := by
  refine ⟨fun j hj => ?_, fun _ => ⟨by rw [updM_same], fun j hj hja => ?_⟩, fun j q hq => by rw [updM_oth hq]; exact h.oth j q hq⟩
  · by_cases hja : j = a
    · subst hja; rw [updM_same]; simp; omega
    · rw [updM_row hja]
      have := h.fl j hj
      refine ⟨this.1, this.2.1, ?_⟩
      have := this.2.2
      omega
  · rw [updM_row hja]
    have := (h.fl j hj).2.2
    omega
theorem DoneC_congr {N q : Nat} {M M' : Mx} {r : Option Bk} (h : ∀ j, M' j q = M j q) (hd : DoneC N q M r) : DoneC N q M' r := by
  have e : (fun j => M' j q) = fun j => M j q := funext h
  unfold DoneC at hd ⊢
  simp only [h]
  exact hd
theorem ColI.arr {N k frm hop a : Nat} {M M' : Mx} (h : ColI N k M M' frm hop) (ha : a < N) (h40 : hop ≤ 40) : DoneC N k (updM M' a k (true, (hop : Int))) none := by
  refine ⟨fun j hj => ?_, ?_⟩
  · by_cases hja : j = a
    · subst hja; rw [updM_same]; simp; omega
    · rw [updM_row hja]
      have := h.fl j hj
      omega
  · refine countP_one ha fun j hj => ?_
    by_cases hja : j = a
    · subst hja; rw [updM_same]; simp
    · rw [updM_row hja, (h.fl j hj).1]; simp [hja]
theorem ColI.lost {N k frm hop : Nat} {M M' : Mx} (h : ColI N k M M' frm hop) (hf : frm < N) (h0 : 0 < hop) (h40 : hop ≤ 40) : DoneC N k M' (some ((k : Int), (frm : Int), (hop : Int))) := by
  obtain ⟨h1, h2⟩ := h.top h0
  refine ⟨fun j hj => ?_, fun j hj => (h.fl j hj).1, frm, hf, by rw [h1], fun j hj hjf => by rw [h1]; exact h2 j hj hjf⟩
  have := h.fl j hj
  omega
def updR (res : Nat → Option Bk) (k : Nat) (v : Option Bk) : Nat → Option Bk := fun q => if q = k then v else res q
theorem fm_congr {f g : Nat → Option Bk} : ∀ {l : List Nat}, (∀ q ∈ l, f q = g q) → l.filterMap f = l.filterMap g
  | [], _ => rfl
  | q :: l, h => by
    rw [List.filterMap_cons, List.filterMap_cons, h q (List.mem_cons_self ..), fm_congr (l := l) fun q hq => h q (List.mem_cons_of_mem _ hq)]
theorem wantR_succ {res : Nat → Option Bk} {k : Nat} {v : Option Bk} : (List.range (k + 1)).filterMap (updR res k v) = (List.range k).filterMap res ++ v.toList := by
  rw [List.range_succ, List.filterMap_append]
  congr 1
  · refine fm_congr fun q hq => ?_
    have := List.mem_range.1 hq
    unfold updR
    rw [if_neg (by omega)]
  · cases v <;> simp [updR]
theorem wantR_len {res : Nat → Option Bk} {k : Nat} : ((List.range k).filterMap res).length ≤ k := by
  have := List.length_filterMap_le res (List.range k)
  simpa using this

theorem rowsM_len {N W : Nat} {M : Mx} : (rowsM N W M).length = N := by simp [rowsM]
theorem rowsM_at {N W j : Nat} {M : Mx} (h : j < N) : (rowsM N W M)[j]? = some (rowM W M j) := by simp [rowsM, h]
theorem tD_none {N W : Nat} {M : Mx} : tD N W M (fun _ => false) = List.replicate N [] := by
  apply List.ext_getElem?
  intro i
  by_cases hi : i < N
  · rw [List.getElem?_replicate, if_pos hi]; simp [tD, hi]
  · rw [List.getElem?_eq_none (by rw [tD_len]; omega), List.getElem?_eq_none (by simp; omega)]
theorem rowsF_M {N W : Nat} {M : Mx} {g : Nat → Nat} {v : Value} {A : Nat → Prop} {w : World} (h1 : (slF (encV id) 1 v (outM N W N g)).h A w) (h2 : (allN N fun j => slF encR 2 (.slice (some ⟨g j, 0, none⟩) W W) (rowM W M j)).h A w) : (rowsF v (rowsM N W M)).h A w := by
  refine rowsF_of h1 ⟨by rw [outM_len, rowsM_len], fun i u xs hu hx => ?_⟩
  have hi : i < N := by have := (List.getElem?_eq_some_iff.1 hx).1; rwa [rowsM_len] at this
  rw [outM_at hi] at hu
  rw [rowsM_at hi] at hx
  cases hu
  cases hx
  exact h2 i hi
theorem clamp_is {z : Int} {N : Nat} (h : 1 ≤ N) : ∃ c : Nat, max 0 (min z ((N : Int) - 1)) = (c : Int) ∧ c < N ∧ ∀ q : Nat, z = q → q < N → q = c :=
  ⟨(max 0 (min z ((N : Int) - 1))).toNat, by omega, by omega, fun q h1 h2 => by omega⟩
theorem natEq_dec {c N : Nat} : (decide (c = N) != ((c : Int) == (N : Int))) = false := by
  by_cases h : c = N
  · simp [h]
  · have : ((c : Int) == (N : Int)) = false := by simp; omega
    rw [this]; simp [h]

end Go.Proofs.Ytnkpmeplapkobaa
