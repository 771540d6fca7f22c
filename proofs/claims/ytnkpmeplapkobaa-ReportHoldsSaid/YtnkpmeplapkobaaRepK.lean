/- Reports: Decide, the model of what it decides. -/
import Derived.Test.YtnkpmeplapkobaaRepJ
import Derived.Test.YtnkpmeplapkobaaLib4
namespace Go.Proofs.Ytnkpmeplapkobaa
open Go.RowKit Go.Shelf

def rowAt (k : Nat) (r : List (Bool × Int)) : Bool × Int := r.getD k (false, 0)
/-- What nodes report of lock k. -/
def colN (k : Nat) : Nat → List (List (Bool × Int)) → List Bk
  | _, [] => []
  | i, r :: t => ((k : Int), (i : Int), (rowAt k r).2) :: colN k (i + 1) t
def hasN (k : Nat) (t : List (List (Bool × Int))) : Nat := t.countP fun r => (rowAt k r).1
def decGo (t : List (List (Bool × Int))) : Nat → Nat → Option (List Bk)
  | 0, _ => some []
  | g + 1, k => if 1 < hasN k t then none else (decGo t g (k + 1)).map fun xs => if hasN k t = 0 then bestOf (colN k 0 t) :: xs else xs
theorem colN_len (k : Nat) : ∀ (i : Nat) (t : List (List (Bool × Int))), (colN k i t).length = t.length
  | _, [] => rfl
  | i, _ :: t => by simp [colN, colN_len k (i + 1) t]
theorem colN_app (k : Nat) (r : List (Bool × Int)) : ∀ (i : Nat) (t : List (List (Bool × Int))), colN k i (t ++ [r]) = colN k i t ++ [((k : Int), ((i + t.length : Nat) : Int), (rowAt k r).2)]
  | i, [] => rfl
  | i, x :: t => by
    simp only [List.cons_append, colN, colN_app k r (i + 1) t, List.length_cons]
    rw [show i + 1 + t.length = i + (t.length + 1) by omega]
theorem colN_at {k : Nat} {t : List (List (Bool × Int))} {i : Nat} {r : List (Bool × Int)} (h : t[i]? = some r) : colN k 0 (t.take (i + 1)) = colN k 0 (t.take i) ++ [((k : Int), (i : Int), (rowAt k r).2)] := by
  rw [take_snoc h, colN_app, List.length_take, Nat.zero_add, Nat.min_eq_left (Nat.le_of_lt (List.getElem?_eq_some_iff.1 h).1)]
theorem hasN_at {k : Nat} {t : List (List (Bool × Int))} {i : Nat} {r : List (Bool × Int)} (h : t[i]? = some r) : hasN k (t.take (i + 1)) = hasN k (t.take i) + if (rowAt k r).1 then 1 else 0 := by
  unfold hasN
  rw [take_snoc h, List.countP_append, List.countP_singleton]
theorem hasN_len {k : Nat} {t : List (List (Bool × Int))} {i : Nat} : hasN k (t.take i) ≤ i := Nat.le_trans List.countP_le_length (by rw [List.length_take]; omega)
def decEnd : Option (List Bk) → List Bk × Int
  | none => ([], 272)
  | some xs => (xs, 0)
def decX (n l s : Int) (t : List (List (Bool × Int))) : List Bk × Int :=
  if tallyB n l s t = false then ([], 2)
  else if (missN 0 t).isEmpty = false then ([], 271)
  else decEnd (decGo t l.toNat 0)

theorem news3 (X : World) (t : TypeId) (u0 u1 u2 : Value) : ∀ j u, [u0, u1, u2][j]? = some u → (X.alloc (.cells #[u0, u1, u2] t)).cell? ((⟨X.heap.size, 0, none⟩ : Addr).add j) = some u := by
  intro j u hj
  obtain ⟨c0, c1, c2, _⟩ := cells3 (blk_new X (.cells #[u0, u1, u2] t))
  match j, hj with
  | 0, hj => simp at hj; subst hj; exact c0
  | 1, hj => simp at hj; subst hj; exact c1
  | 2, hj => simp at hj; subst hj; exact c2
  | j + 3, hj => simp at hj
theorem Try.infoB : (Try.prog.info? 44).map (fun i => (i.zero, i.size, i.bytes)) = some (some (.agg #[.int .i64 0, .int .i64 0, .int .i64 0]), 3, 24) := by kernel_rfl

theorem row_full {n l s : Int} {t : List (List (Bool × Int))} (ht : tallyB n l s t = true) (hm : (missN 0 t).isEmpty = true) : ∀ r ∈ t, (r.length : Int) = l := by
  have key : ∀ (t : List (List (Bool × Int))) (i : Nat), missN i t = [] → ∀ r ∈ t, r ≠ [] := by
    intro t
    induction t with
    | nil => intro i _ r hr; simp at hr
    | cons x t ih =>
      intro i h r hr
      unfold missN at h
      cases x with
      | nil => simp at h
      | cons y x =>
        simp at h
        rcases List.mem_cons.1 hr with rfl | hr
        · simp
        · exact ih (i + 1) h r hr
  intro r hr
  rcases (tally_bd ht).2.2 r hr with h | h
  · exact absurd h (key t 0 (by simpa using hm) r hr)
  · exact h.1

/-- What Decide's rounds keep: the counts in block H, what stays. -/
def RelD0 (w : World) (Z U H k : Nat) (vt : Value) (n l s : Int) (wr : World) : Prop :=
  ∃ hs : List Value, (wr.heap[H]? = some (.cells hs.toArray 80 (0, 0)) ∧ hs.length = 8 ∧ ∀ j, k ≤ j → j < 8 → hs[j]? = some (.int .i64 0)) ∧
    Below w.heap.size w wr ∧ wr.heap[Z + 1 + 1 + 1]? = some (.cells #[.int .i64 0] 45 (0, 0)) ∧ wr.heap[U]? = some (.cells #[vt, .int .i64 n, .int .i64 l, .int .i64 s] 74 (0, 0))
/-- And the list so far in block Z + 2. -/
def RelD (w : World) (Z U H k : Nat) (vt : Value) (n l s : Int) (done : List Bk) (wr : World) : Prop :=
  ∃ sv, wr.heap[Z + 1 + 1]? = some (.cells #[sv] 38 (0, 0)) ∧ wr.ownsRow (H + 1) 44 3 sv done.length (done.flatMap encB) ∧ RelD0 w Z U H k vt n l s wr
theorem RelD0.next {w X wr : World} {Z U H k : Nat} {vt : Value} {n l s c : Int} {hs : List Value} (rH : wr.heap[H]? = some (.cells (hs.set k (.int .i64 c)).toArray 80 (0, 0))) (hhs : hs.length = 8) (hz : ∀ j, k ≤ j → j < 8 → hs[j]? = some (.int .i64 0))
    (rB : Below w.heap.size w X) (r3 : X.heap[Z + 1 + 1 + 1]? = some (.cells #[.int .i64 0] 45 (0, 0))) (rU : X.heap[U]? = some (.cells #[vt, .int .i64 n, .int .i64 l, .int .i64 s] 74 (0, 0)))
    (hR : Rnd H (H + 1) X wr) (hZ : w.heap.size ≤ Z) (hZU : Z + 1 + 1 + 1 < U) (hUH : U < H) : RelD0 w Z U H (k + 1) vt n l s wr :=
  ⟨_, ⟨rH, by rw [List.length_set]; exact hhs, fun j h1 h2 => by rw [List.getElem?_set_ne (by omega)]; exact hz j (by omega) h2⟩, below_rnd rB hR (by omega), hR.keep r3 (.inl (by omega)), hR.keep rU (.inl (by omega))⟩
theorem RelD0.below {w A B : World} {Z U H k : Nat} {vt : Value} {n l s : Int} (h : RelD0 w Z U H k vt n l s A) (hb : Below A.heap.size A B) : RelD0 w Z U H k vt n l s B := by
  obtain ⟨hs, ⟨a, b, c⟩, d, e, f⟩ := h
  exact ⟨hs, ⟨blk_keep a hb, b, c⟩, d.trans (hb.mono d.size), blk_keep e hb, blk_keep f hb⟩
theorem relD_grow {w A W8 : World} {Z U H k : Nat} {vt sv v' : Value} {n l s : Int} {done : List Bk} {y : Bk} {o : Obj} (h : RelD0 w Z U H k vt n l s A) (hZ : w.heap.size ≤ Z) (hZU : Z + 1 + 1 + 1 < U) (hUH : U < H) (r2 : A.heap[Z + 1 + 1]? = some (.cells #[sv] 38 (0, 0)))
    (own : A.ownsRow (H + 1) 44 3 sv done.length (done.flatMap encB)) (hown : W8.ownsRow (H + 1) 44 3 v' (done.length + 1) (done.flatMap encB ++ encB y)) (hg : (A.alloc o).grownBy W8 sv.ownBlock) :
    RelD w Z U H k vt n l s (done ++ [y]) (W8.setCell ⟨Z + 1 + 1, 0, none⟩ v') := by
  have hr := own_blk own
  obtain ⟨hs, ⟨a, b, c⟩, d, e, f⟩ := h
  have kb : ∀ g o', A.heap[g]? = some o' → g < H + 1 → W8.heap[g]? = some o' := fun g o' h hlt => (hg.block g (lt_of_block (blk_old o h)) (fun e => by have := hr _ e.symm; omega)).trans (blk_old o h)
  have kb' : ∀ g o', A.heap[g]? = some o' → g < H + 1 → g ≠ Z + 1 + 1 → (W8.setCell ⟨Z + 1 + 1, 0, none⟩ v').heap[g]? = some o' := fun g o' h hlt hne => blk_set_other _ (kb g o' h hlt) hne
  refine ⟨v', ?_, ?_, hs, ⟨kb' _ _ a (by omega) (by omega), b, c⟩, ?_, kb' _ _ e (by omega) (by omega), kb' _ _ f (by omega) (by omega)⟩
  · have := blk_set (i := 0) v' (kb _ _ r2 (by omega))
    simpa using this
  · rw [List.length_append, List.length_singleton, List.flatMap_append]
    exact ownsRow_setCell_below (by simpa using hown) (a := ⟨_, _, _⟩) (by dsimp only; omega) _
  · have hsz := lt_of_block a
    exact ((d.alloc d.size o).grown hg (by simp; have := d.size; omega) (fun g e => by have := hr g e; omega)).setCell (p := ⟨_, _, _⟩) (by dsimp only; omega) _
/-- What the rounds over the nodes keep. -/
def RelE (X : World) (H k : Nat) (hs : List Value) (t : List (List (Bool × Int))) (i : Nat) (v : Value) (wr : World) : Prop :=
  wr.ownsRow X.heap.size 44 3 v i ((colN k 0 (t.take i)).flatMap encB) ∧ wr.heap[H]? = some (.cells (hs.set k (.int .i64 (hasN k (t.take i) : Nat))).toArray 80 (0, 0)) ∧ Rnd H (H + 1) X wr

theorem end_tail {w W : World} {Z H : Nat} {sv v3 : Value} {xs : List Bk} (hZ : w.heap.size ≤ Z) (hB : Below w.heap.size w W) (hH : Z + 1 + 1 + 1 < H) (Q2 : W.heap[Z + 1 + 1]? = some (.cells #[sv] 38 (0, 0))) (Q3 : W.heap[Z + 1 + 1 + 1]? = some (.cells #[v3] 45 (0, 0))) (own : W.ownsRow (H + 1) 44 3 sv xs.length (xs.flatMap encB)) :
    ((W.setCell ⟨Z + 1 + 1, 0, none⟩ sv).setCell ⟨Z + 1 + 1 + 1, 0, none⟩ (.int .i64 0)).cell? ⟨Z + 1 + 1, 0, none⟩ = some sv ∧
    ((W.setCell ⟨Z + 1 + 1, 0, none⟩ sv).setCell ⟨Z + 1 + 1 + 1, 0, none⟩ (.int .i64 0)).cell? ⟨Z + 1 + 1 + 1, 0, none⟩ = some (.int .i64 0) ∧
    Sl encB 3 ((W.setCell ⟨Z + 1 + 1, 0, none⟩ sv).setCell ⟨Z + 1 + 1 + 1, 0, none⟩ (.int .i64 0)) sv xs ∧
    Below w.heap.size w ((W.setCell ⟨Z + 1 + 1, 0, none⟩ sv).setCell ⟨Z + 1 + 1 + 1, 0, none⟩ (.int .i64 0)) := by
  have h2 : (W.setCell ⟨Z + 1 + 1, 0, none⟩ sv).heap[Z + 1 + 1]? = some (.cells #[sv] 38 (0, 0)) := by have := blk_set (i := 0) sv Q2; simpa using this
  have h3 : (W.setCell ⟨Z + 1 + 1, 0, none⟩ sv).heap[Z + 1 + 1 + 1]? = some (.cells #[v3] 45 (0, 0)) := blk_set_other _ Q3 (by dsimp only; omega)
  have h4 : ((W.setCell ⟨Z + 1 + 1, 0, none⟩ sv).setCell ⟨Z + 1 + 1 + 1, 0, none⟩ (.int .i64 0)).heap[Z + 1 + 1 + 1]? = some (.cells #[.int .i64 0] 45 (0, 0)) := by have := blk_set (i := 0) (.int .i64 0) h3; simpa using this
  exact ⟨(cells1 (blk_set_other _ h2 (by dsimp only; omega))).1, (cells1 h4).1, Sl.of_owns encB_len (ownsRow_setCell_below (ownsRow_setCell_below own (a := ⟨_, _, _⟩) (by dsimp only; omega) _) (a := ⟨_, _, _⟩) (by dsimp only; omega) _),
    (hB.setCell (p := ⟨_, _, _⟩) (by dsimp only; omega) _).setCell (p := ⟨_, _, _⟩) (by dsimp only; omega) _⟩

theorem held_two {P : Program} {ops : Array Oper} {Q : Exit → Act → World → Prop} {md : Region.Mode} {S : World → Prop} {i j : Nat} {fuel : Nat} {listed : Array Bool} {a : Act} {w : World} (hi : (ops[i]?).isSome = true) (hj : (ops[j]?).isSome = true) (hr : Region.ready md ops listed = [i, j])
    (h : ∀ o, ops[i]? = some o → ∀ K' : Act → World → Prop, Shut (∀ a w, S w → (S w → wpAnyH P md ops Q S fuel (listed.setIfInBounds i true) a w) → K' a w) → if Region.wanted o (yielded ops a.tmps) = true then Oper.wp P o a w K' Q else K' (a.put o.dst undef) w)
    (h2 : ∀ o, ops[j]? = some o → ∀ K' : Act → World → Prop, Shut (∀ a w, S w → (S w → wpAnyH P md ops Q S fuel (listed.setIfInBounds j true) a w) → K' a w) → if Region.wanted o (yielded ops a.tmps) = true then Oper.wp P o a w K' Q else K' (a.put o.dst undef) w) :
    wpAnyH P md ops Q S (fuel + 1) listed a w := by
  cases ho : ops[i]? with
  | none => rw [ho] at hi; cases hi
  | some oi =>
    cases hp : ops[j]? with
    | none => rw [hp] at hj; cases hj
    | some oj => exact wpAnyH_ready hr (by simp) (AllReadyH.cons ho (fun K' hK => h oi ho K' hK) (AllReadyH.cons hp (fun K' hK => h2 oj hp K' hK) AllReadyH.nil))

theorem relE_no {X A W8 : World} {H k i : Nat} {hs : List Value} {t : List (List (Bool × Int))} {v v' : Value} {o : Obj} {y : Bk}
    (hC : colN k 0 (t.take (i + 1)) = colN k 0 (t.take i) ++ [y]) (hN : hasN k (t.take (i + 1)) = hasN k (t.take i)) (hR : Rnd H (H + 1) X A)
    (hown : W8.ownsRow X.heap.size 44 3 v' (i + 1) ((colN k 0 (t.take i)).flatMap encB ++ encB y)) (hg : (A.alloc o).grownBy W8 v.ownBlock) (hr : ∀ g, v.ownBlock = some g → X.heap.size ≤ g)
    (gH : W8.heap[H]? = some (.cells (hs.set k (.int .i64 (hasN k (t.take i) : Nat))).toArray 80 (0, 0))) : RelE X H k hs t (i + 1) v' W8 := by
  refine ⟨?_, by rw [hN]; exact gH, (hR.alloc o).grown hg fun g e => .inl (hr g e)⟩
  rw [hC, List.flatMap_append]
  simpa using hown
theorem relE_yes {X A W8 : World} {H k i : Nat} {hs : List Value} {t : List (List (Bool × Int))} {v v' : Value} {o : Obj} {y : Bk} (hH : H < X.heap.size)
    (hC : colN k 0 (t.take (i + 1)) = colN k 0 (t.take i) ++ [y]) (hN : hasN k (t.take (i + 1)) = hasN k (t.take i) + 1) (hR : Rnd H (H + 1) X A)
    (hown : W8.ownsRow X.heap.size 44 3 v' (i + 1) ((colN k 0 (t.take i)).flatMap encB ++ encB y)) (hg : (A.alloc o).grownBy W8 v.ownBlock) (hr : ∀ g, v.ownBlock = some g → X.heap.size ≤ g)
    (gH : W8.heap[H]? = some (.cells (hs.set k (.int .i64 (hasN k (t.take i) : Nat))).toArray 80 (0, 0))) : RelE X H k hs t (i + 1) v' (W8.setCell ⟨H, k, none⟩ (.int .i64 ((hasN k (t.take i) : Nat) + 1))) := by
  refine ⟨?_, ?_, ((hR.alloc o).grown hg fun g e => .inl (hr g e)).setCell (p := ⟨_, _, _⟩) (.inl ⟨Nat.le_refl _, Nat.lt_succ_self _⟩) _⟩
  · rw [hC, List.flatMap_append]
    exact ownsRow_setCell_below (by simpa using hown) (a := ⟨_, _, _⟩) hH _
  · rw [hN, blk_set _ gH, List.setIfInBounds_toArray, List.set_set]
    rfl

set_option maxRecDepth 100000 in
set_option maxHeartbeats 8000000 in
theorem dec_main (n l s : Int) (w : World) (v : Value) (t : List (List (Bool × Int))) (hv : Rows2 w v t) (hlen : ∀ r ∈ t, r.length ≤ 1099511627776) (ht : tallyB n l s t = true) (hm : (missN 0 t).isEmpty = true) :
    Calls Try.prog 15 #[.agg #[.int .i64 n, .int .i64 l, .int .i64 s], .agg #[v]] w (DecPost w (decEnd (decGo t l.toNat 0))) := by
  obtain ⟨a, cap, rfl⟩ := hv.shape
  have KO := Lib.hid (fun (W : World) (h : Rows2 W (.slice a t.length cap) t) => of_any n l s W _ t h hlen)
  have htl := (tally_bd ht).1
  have KW := Lib.hid (fun (W : World) (h : Rows2 W (.slice a t.length cap) t) => whole_any n l s W _ t h hlen (by omega))
  have HM := Lib.hid (show (missX n l s t).isEmpty = true by unfold missX; rw [if_pos ht]; exact hm)
  have HROW := Lib.hid (row_full ht hm)
  obtain ⟨L, hL, hL8⟩ : ∃ L : Nat, l = (L : Int) ∧ L ≤ 8 := by
    have := shapeB_is (show shapeB n l s = true by unfold tallyB at ht; simp only [Bool.and_eq_true] at ht; exact ht.1.1)
    exact ⟨l.toNat, by omega, by omega⟩
  subst hL
  rw [Int.toNat_natCast]
  have HV := Lib.hid hv
  have HT := Lib.hid ht
  obtain ⟨i0, hi0, hz0, hz1, hz2⟩ := info_parts Try.infoB
  have J0 := Lib.hid hi0
  have Y0 := Lib.hid hz0
  have Y1 := Lib.hid hz1
  have Y2 := Lib.hid hz2
  clear hv ht hlen hm hi0 hz0 hz1 hz2
  go_enter_defers Try.func15, Try.ntmps15
  go_wp2_with fail
  obtain ⟨q0, q1, q2, q3⟩ := alloc4s w (.cells #[.int .i64 n, .int .i64 (L : Int), .int .i64 s] 23) (.cells #[.slice a t.length cap] 26) (.cells #[.slice none 0 0] 38) (.cells #[.int .i64 0] 45)
  have E := below_alloc4s w (.cells #[.int .i64 n, .int .i64 (L : Int), .int .i64 s] 23) (.cells #[.slice a t.length cap] 26) (.cells #[.slice none 0 0] 38) (.cells #[.int .i64 0] 45)
  refine (KO.out _ (HV.out.below E)).mono ?_
  rintro e W1 ⟨⟨_, rfl⟩ | ⟨h, _⟩, hB⟩
  rotate_left
  · rw [HT.out] at h; cases h
  have E1 := Lib.hid (E.trans (hB.mono E.size))
  have Q0 := Lib.hid (blk_keep q0 hB)
  have Q2 := Lib.hid (blk_keep q2 hB)
  have Q3 := Lib.hid (blk_keep q3 hB)
  clear q0 q1 q2 q3 hB E
  go_wp2_with fail
  obtain ⟨U, hU⟩ : ∃ U, U = W1.heap.size := ⟨_, rfl⟩
  obtain ⟨V, hV⟩ : ∃ V, V = W1.alloc (.cells #[.slice a t.length cap, .int .i64 n, .int .i64 (L : Int), .int .i64 s] 74) := ⟨_, rfl⟩
  rw [← hV, ← hU]
  have hg : Below W1.heap.size W1 V := by rw [hV]; (repeat (first | (with_reducible exact Below.refl _ _) | (with_reducible assumption) | (with_reducible refine below_drewN ?_ _) | (with_reducible refine Below.drew ?_) | ((with_reducible refine Below.alloc ?_ ?_ _); rotate_left; focus (first | (with_reducible exact Nat.le_refl _) | omega | (simp; done) | (simp; omega))) | ((with_reducible refine Below.setCell (p := ⟨_, _, _⟩) ?_ ?_ _); rotate_left; focus (first | (with_reducible exact Nat.le_refl _) | omega | (simp; done) | (simp; omega)))))
  have E2 := Lib.hid (E1.out.trans (hg.mono E1.out.size))
  have QU := Lib.hid (show V.heap[U]? = some (.cells #[.slice a t.length cap, .int .i64 n, .int .i64 (L : Int), .int .i64 s] 74 (0, 0)) by rw [hV, hU]; exact blk_new _ _)
  have hUZ : w.heap.size + 1 + 1 + 1 < U := by rw [hU]; exact lt_of_block Q3.out
  have Q0 := Lib.hid (blk_keep Q0.out hg)
  have Q2 := Lib.hid (blk_keep Q2.out hg)
  have Q3 := Lib.hid (blk_keep Q3.out hg)
  clear hg hV hU
  refine (KW.out V (HV.out.below E2.out)).mono ?_
  rintro e W3 ⟨rfl, hB3⟩
  rw [HM.out]
  have E3 := Lib.hid (E2.out.trans (hB3.mono E2.out.size))
  have Q0 := Lib.hid (blk_keep Q0.out hB3)
  have Q2 := Lib.hid (blk_keep Q2.out hB3)
  have Q3 := Lib.hid (blk_keep Q3.out hB3)
  have QU := Lib.hid (blk_keep QU.out hB3)
  have p0 := cells3 Q0.out
  have l0 := lt_of_block Q0.out
  have lU := lt_of_block QU.out
  clear hB3
  go_wp2_with (go_at_call 35; (with_reducible refine (must_yes _ _).mono ?_); rintro e w' ⟨rfl, rfl⟩)
  obtain ⟨H, hH⟩ : ∃ H, H = W3.heap.size := ⟨_, rfl⟩
  obtain ⟨V4, hV4⟩ : ∃ V4, V4 = W3.alloc (.cells #[.int .i64 0, .int .i64 0, .int .i64 0, .int .i64 0, .int .i64 0, .int .i64 0, .int .i64 0, .int .i64 0] 80) := ⟨_, rfl⟩
  rw [← hV4, ← hH]
  have hg : Below W3.heap.size W3 V4 := by rw [hV4]; (repeat (first | (with_reducible exact Below.refl _ _) | (with_reducible assumption) | (with_reducible refine below_drewN ?_ _) | (with_reducible refine Below.drew ?_) | ((with_reducible refine Below.alloc ?_ ?_ _); rotate_left; focus (first | (with_reducible exact Nat.le_refl _) | omega | (simp; done) | (simp; omega))) | ((with_reducible refine Below.setCell (p := ⟨_, _, _⟩) ?_ ?_ _); rotate_left; focus (first | (with_reducible exact Nat.le_refl _) | omega | (simp; done) | (simp; omega)))))
  have E4 := Lib.hid (E3.out.trans (hg.mono E3.out.size))
  have QH := Lib.hid (show V4.heap[H]? = some (.cells #[.int .i64 0, .int .i64 0, .int .i64 0, .int .i64 0, .int .i64 0, .int .i64 0, .int .i64 0, .int .i64 0] 80 (0, 0)) by rw [hV4, hH]; exact blk_new _ _)
  have Q2 := Lib.hid (blk_keep Q2.out hg)
  have Q3 := Lib.hid (blk_keep Q3.out hg)
  have QU := Lib.hid (blk_keep QU.out hg)
  have hUH : U < H := by rw [hH]; exact lU
  clear hg hV4 hH p0 l0 lU E3 Q0
  go_loopg [21] L (fun g v21 wr => ∃ (k : Nat) (done : List Bk), g + k = L ∧ v21 = .int .i64 k ∧ decGo t L 0 = (decGo t g k).map (fun xs => done ++ xs) ∧ done.length ≤ k ∧ RelD w w.heap.size U H k (.slice a t.length cap) n L s done wr)
  case atStart =>
    refine ⟨0, [], rfl, rfl, by simp, Nat.le_refl _, _, Q2.out, World.ownsRow_nil _ _ _ _, _, ⟨QH.out, rfl, ?_⟩, E4.out, Q3.out, QU.out⟩
    intro j _ hj
    match j, hj with
    | 0, _ | 1, _ | 2, _ | 3, _ | 4, _ | 5, _ | 6, _ | 7, _ => rfl
  case round =>
    obtain ⟨k, done, hk, rfl, hrun, hdl, sv, r2, rown, hs, ⟨rH, hhs, hzero⟩, rB, r3, rU⟩ := hrel
    have HZA := Lib.hid hzero
    have HK := Lib.hid hk
    have HRUN := Lib.hid hrun
    have R2 := Lib.hid r2
    have ROWN := Lib.hid rown
    have RH := Lib.hid rH
    have HHS := Lib.hid hhs
    have RB := Lib.hid rB
    have R3 := Lib.hid r3
    have RU := Lib.hid rU
    have hz0 := hzero k (Nat.le_refl _)
    have lH := lt_of_block rH
    have pU := cells4b rU
    clear hk hrun r2 rown rH hhs rB r3 rU hzero
    by_cases hlt : k < L
    · have HZ := Lib.hid (hz0 (by omega))
      clear hz0
      go_wp2
      obtain ⟨X, rfl⟩ : ∃ X : World, X = wr := ⟨_, rfl⟩
      obtain ⟨G, rfl⟩ : ∃ G : Nat, G = gk := ⟨_, rfl⟩
      go_loopg [9, 29] (t.length) (fun g v9 v29 wi => ∃ i : Nat, g + i = t.length ∧ v29 = .int .i64 i ∧ RelE X H k hs t i v9 wi)
      case atStart =>
        refine ⟨0, rfl, rfl, World.ownsRow_nil _ _ _ _, ?_, Rnd.refl _ _ _⟩
        rw [show hs.set k (.int .i64 (hasN k (t.take 0) : Nat)) = hs from by
          obtain ⟨h1, h2⟩ := List.getElem?_eq_some_iff.1 HZ.out
          rw [show (.int .i64 (hasN k (t.take 0) : Nat) : Value) = hs[k] from h2.symm]
          exact List.set_getElem_self h1]
        exact RH.out
      case round =>
        obtain ⟨i, hi, rfl, iown, iH, iR⟩ := hrel
        have HI := Lib.hid hi
        have IOWN := Lib.hid iown
        have IH := Lib.hid iH
        have IR := Lib.hid iR
        have hwH : w.heap.size ≤ H := by omega
        have IB := Lib.hid (below_rnd RB.out iR hwH)
        have hkl : k < hs.length := by rw [HHS.out]; omega
        have ck : wr.cell? ⟨H, k, none⟩ = some (.int .i64 ((hasN k (t.take i) : Nat) : Int)) := by simp [World.cell?, iH, hkl]
        have fk : wr.frozen? ⟨H, k, none⟩ = false := by simp [World.frozen?, iH]
        have hsb := Lib.hid (own_blk iown)
        have hHi := lt_of_block iH
        have hcn := hasN_len (k := k) (t := t) (i := i)
        clear hi iown iH
        by_cases hlt2 : i < t.length
        · obtain ⟨r, hx⟩ := at_some hlt2
          obtain ⟨b, off, cap', ra, rc, hv, hb, hc, hSr⟩ := HV.out.at_ hx
          cases hv
          have hrl := HROW.out r (List.mem_of_getElem? hx)
          have hkr : k < r.length := by omega
          obtain ⟨rb, roff, rcap, hv2, hrb, hrc⟩ := hSr.atR hkr
          cases hv2
          obtain ⟨x, hxk⟩ := at_some hkr
          have hat : rowAt k r = x := by unfold rowAt; simp [List.getD, hxk]
          have hcx := (IB.out.cell (p := ⟨b, off + i, none⟩) hb).trans hc
          have hc0 := (IB.out.cell (p := ⟨rb, roff + k * 2, none⟩) hrb).trans (hrc k x hxk).1
          have hc1 := (IB.out.cell (p := ⟨rb, roff + k * 2 + 1, none⟩) hrb).trans (hrc k x hxk).2
          have HC := Lib.hid (colN_at (k := k) hx)
          have HN := Lib.hid (hasN_at (k := k) hx)
          rw [hat] at HC HN
          have i0' : (0 : Int) ≤ (i : Int) := by omega
          have k0' : (0 : Int) ≤ (k : Int) := by omega
          have HNEWS := Lib.hid (news3 wr 44 (.int .i64 (k : Int)) (.int .i64 (i : Int)) (.int .i64 x.2))
          have hszX := iR.size
          clear hc hrc hx hSr iR hat
          obtain ⟨xb, xh⟩ := x
          dsimp only at hc0 hc1 HC HN HNEWS
          cases xb
          · go_wp2_with (at_builtin; refine wpList_append_own _ rfl _ _ 38 rfl X.heap.size 44 i0 (.agg #[.int .i64 0, .int .i64 0, .int .i64 0]) 3 24 Try.underlying38 J0.out Y0.out Y1.out Y2.out rfl (by decide) u9 i _ rfl (IOWN.out.alloc _) ⟨wr.heap.size, 0, none⟩ 1 1 [.int .i64 (k : Int), .int .i64 (i : Int), .int .i64 xh] rfl rfl HNEWS.out (by simp [Value.oneCell']) (by unfold maxLen; omega) (by omega) (by first | omega | (simp; done) | (simp; omega)) ?_; intro v' W8 hown8 hgrow8 _; have gH := (hgrow8.block H (by first | omega | (simp; done) | (simp; omega)) (fun e => by have := hsb.out _ e.symm; omega)).trans (blk_old _ IH.out); have gR : W8.cell? ⟨rb, roff + k * 2, none⟩ = some (.bool false) := (by rw [World.cell?_of_block (w := wr.alloc (.cells #[.int .i64 (k : Int), .int .i64 (i : Int), .int .i64 xh] 44)) (hgrow8.block rb (by first | omega | (simp; done) | (simp; omega)) (fun e => by have := hsb.out _ e.symm; omega)), World.cell?_alloc_past _ _ _ (by omega)] <;> exact hc0); have ck8 : W8.cell? ⟨H, k, none⟩ = some (.int .i64 ((hasN k (t.take i) : Nat) : Int)) := (by rw [World.cell?_of_block (w := wr.alloc (.cells #[.int .i64 (k : Int), .int .i64 (i : Int), .int .i64 xh] 44)) (hgrow8.block H (by first | omega | (simp; done) | (simp; omega)) (fun e => by have := hsb.out _ e.symm; omega)), World.cell?_alloc_past _ _ _ (by omega)] <;> exact ck); have fk8 : W8.frozen? ⟨H, k, none⟩ = false := (by simp [World.frozen?, gH]); have GH := Lib.hid gH; have O8 := Lib.hid hown8; have G8 := Lib.hid hgrow8; clear hown8 hgrow8 gH hc0 hc1 hcx ck fk)
            go_roundg (gk - 1)
            case measure => have := HI.out; omega
            case rel => exact ⟨i + 1, by have := HI.out; omega, by go_num, relE_no HC.out (by rw [HN.out]; rfl) IR.out O8.out G8.out hsb.out GH.out⟩
          · go_wp2_with (at_builtin; refine wpList_append_own _ rfl _ _ 38 rfl X.heap.size 44 i0 (.agg #[.int .i64 0, .int .i64 0, .int .i64 0]) 3 24 Try.underlying38 J0.out Y0.out Y1.out Y2.out rfl (by decide) u9 i _ rfl (IOWN.out.alloc _) ⟨wr.heap.size, 0, none⟩ 1 1 [.int .i64 (k : Int), .int .i64 (i : Int), .int .i64 xh] rfl rfl HNEWS.out (by simp [Value.oneCell']) (by unfold maxLen; omega) (by omega) (by first | omega | (simp; done) | (simp; omega)) ?_; intro v' W8 hown8 hgrow8 _; have gH := (hgrow8.block H (by first | omega | (simp; done) | (simp; omega)) (fun e => by have := hsb.out _ e.symm; omega)).trans (blk_old _ IH.out); have gR : W8.cell? ⟨rb, roff + k * 2, none⟩ = some (.bool true) := (by rw [World.cell?_of_block (w := wr.alloc (.cells #[.int .i64 (k : Int), .int .i64 (i : Int), .int .i64 xh] 44)) (hgrow8.block rb (by first | omega | (simp; done) | (simp; omega)) (fun e => by have := hsb.out _ e.symm; omega)), World.cell?_alloc_past _ _ _ (by omega)] <;> exact hc0); have ck8 : W8.cell? ⟨H, k, none⟩ = some (.int .i64 ((hasN k (t.take i) : Nat) : Int)) := (by rw [World.cell?_of_block (w := wr.alloc (.cells #[.int .i64 (k : Int), .int .i64 (i : Int), .int .i64 xh] 44)) (hgrow8.block H (by first | omega | (simp; done) | (simp; omega)) (fun e => by have := hsb.out _ e.symm; omega)), World.cell?_alloc_past _ _ _ (by omega)] <;> exact ck); have fk8 : W8.frozen? ⟨H, k, none⟩ = false := (by simp [World.frozen?, gH]); have GH := Lib.hid gH; have O8 := Lib.hid hown8; have G8 := Lib.hid hgrow8; clear hown8 hgrow8 gH hc0 hc1 hcx ck fk)
            go_roundg (gk - 1)
            case measure => have := HI.out; omega
            case rel => exact ⟨i + 1, by have := HI.out; omega, by go_num, relE_yes lH HC.out (by rw [HN.out]; rfl) IR.out O8.out G8.out hsb.out GH.out⟩
        · obtain rfl : i = t.length := by have := HI.out; omega
          have hcol : t.take t.length = t := List.take_length
          rw [hcol] at ck hcn
          have IOWN := Lib.hid (show wr.ownsRow X.heap.size 44 3 u9 t.length ((colN k 0 t).flatMap encB) by have := IOWN.out; rwa [hcol] at this)
          have IH := Lib.hid (show wr.heap[H]? = some (.cells (hs.set k (.int .i64 (hasN k t : Nat))).toArray 80 (0, 0)) by have := IH.out; rwa [hcol] at this)
          clear hcol
          obtain ⟨g', hg'⟩ : ∃ g', G = g' + 1 := ⟨G - 1, by have := HK.out; omega⟩
          subst hg'
          have NX := Lib.hid (RelD0.next IH.out HHS.out HZA.out RB.out R3.out RU.out iR (Nat.le_refl _) hUZ hUH)
          have Q2 := Lib.hid (iR.keep R2.out (.inl (by omega)))
          have Q3 := Lib.hid (iR.keep R3.out (.inl (by omega)))
          have OWN := Lib.hid (own_rnd ROWN.out iR (fun g e => .inr (own_blk ROWN.out g e)))
          by_cases h1 : hasN k t ≤ 1
          · have HD := Lib.hid (show decGo t L 0 = (decGo t g' (k + 1)).map (fun xs => (if hasN k t = 0 then done ++ [bestOf (colN k 0 t)] else done) ++ xs) by
              rw [HRUN.out, decGo, if_neg (by omega), Option.map_map]
              congr 1
              funext xs
              simp only [Function.comp]
              split <;> simp)
            by_cases h0 : hasN k t = 0
            · have ck1 : wr.cell? ⟨H, k, none⟩ = some (.int .i64 0) := by rw [ck, h0]; rfl
              have HD := Lib.hid (show decGo t L 0 = (decGo t g' (k + 1)).map (fun xs => (done ++ [bestOf (colN k 0 t)]) ++ xs) by rw [HD.out, if_pos h0])
              clear iR hcn h1 ck
              go_wp2_with (go_at_call 35; (with_reducible refine (must_yes _ _).mono ?_); rintro e w' ⟨rfl, rfl⟩)
              have Q2c := cells1 Q2.out
              have lw := lt_of_block Q2.out
              obtain ⟨sa, sc, rfl⟩ := owns_shape ROWN.out
              refine wp_region_noPanic ?_
              refine wp_region_held_drew (S := fun _ => True) (by kernel_rfl) trivial (fun _ => ?_)
              refine held_take (i := 1) (d := 66) (v := u9) (by kernel_rfl) (by kernel_rfl) (by kernel_rfl) (by kernel_rfl) (fun _ _ _ h => h) ?_ trivial ?_
              · intro oi ho
                simp at ho
                subst ho
                refine ⟨by rfl, fun w _ => ?_⟩
                go_simp
              simp only [Act.put, List.setIfInBounds_toArray, List.set_cons_zero, List.set_cons_succ]
              refine held_two (i := 0) (j := 2) (by kernel_rfl) (by kernel_rfl) (by kernel_rfl) ?_ ?_
              · intro oi ho
                simp at ho
                subst ho
                intro K' hK
                go_simp
                refine hK.out _ _ trivial (fun _ => ?_)
                try simp only [Act.put, List.setIfInBounds_toArray, List.set_cons_zero, List.set_cons_succ]
                clear hK K'
                refine held_call (i := 2) (by kernel_rfl) (by kernel_rfl) ?_
                intro oi ho
                simp at ho
                subst ho
                intro K' hK
                go_simp
                have hSl : Sl encB 3 wr u9 (colN k 0 t) := Sl.of_owns encB_len (by rw [colN_len]; exact IOWN.out)
                have hBd : Below wr.heap.size wr wr.drew := by (repeat (first | (with_reducible exact Below.refl _ _) | (with_reducible assumption) | (with_reducible refine below_drewN ?_ _) | (with_reducible refine Below.drew ?_) | ((with_reducible refine Below.alloc ?_ ?_ _); rotate_left; focus (first | (with_reducible exact Nat.le_refl _) | omega | (simp; done) | (simp; omega))) | ((with_reducible refine Below.setCell (p := ⟨_, _, _⟩) ?_ ?_ _); rotate_left; focus (first | (with_reducible exact Nat.le_refl _) | omega | (simp; done) | (simp; omega)))))
                refine (best_any _ u9 (colN k 0 t) (by rw [colN_len]; omega) (hSl.below hBd)).mono ?_
                rintro e U1 ⟨rfl, hU⟩
                have BU := Lib.hid (show Below wr.heap.size wr U1 from hBd.trans (hU.mono hBd.size))
                have Q2U := Lib.hid (blk_keep Q2.out BU.out)
                have OWNU := Lib.hid (owns_below OWN.out BU.out)
                have NXU := Lib.hid (NX.out.below BU.out)
                have q2c := cells1 Q2U.out
                have lu := lt_of_block Q2U.out
                have hHU : H < U1.heap.size := Nat.lt_of_lt_of_le hHi BU.out.size
                clear hU hBd hSl Q2c lw
                try go_simp
                refine hK.out _ _ trivial (fun _ => ?_)
                try simp only [Act.put, List.setIfInBounds_toArray, List.set_cons_zero, List.set_cons_succ]
                clear hK K'
                refine held_call (i := 3) (by kernel_rfl) (by kernel_rfl) ?_
                intro oi ho
                simp at ho
                subst ho
                intro K' hK
                go_simp
                refine hK.out _ _ trivial (fun _ => ?_)
                try simp only [Act.put, List.setIfInBounds_toArray, List.set_cons_zero, List.set_cons_succ]
                clear hK K'
                refine held_call (i := 4) (by kernel_rfl) (by kernel_rfl) ?_
                intro oi ho
                simp at ho
                subst ho
                intro K' hK
                have HNEWS := Lib.hid (news3 U1 44 (.int .i64 (bestOf (colN k 0 t)).1) (.int .i64 (bestOf (colN k 0 t)).2.1) (.int .i64 (bestOf (colN k 0 t)).2.2))
                have hsv := Lib.hid (own_blk OWNU.out)
                rw [if_pos (by rfl)]
                refine wp_append_own _ _ _ _ rfl (H + 1) 44 i0 (.agg #[.int .i64 0, .int .i64 0, .int .i64 0]) 3 24 Try.underlying38 J0.out Y0.out Y1.out Y2.out rfl (by decide) (.slice sa done.length sc) done.length _ rfl (OWNU.out.alloc _) ⟨U1.heap.size, 0, none⟩ 1 1 [.int .i64 (bestOf (colN k 0 t)).1, .int .i64 (bestOf (colN k 0 t)).2.1, .int .i64 (bestOf (colN k 0 t)).2.2] rfl rfl HNEWS.out (by simp [Value.oneCell']) (by unfold maxLen; omega) (by omega) (by simp; omega) ?_
                intro v' W8 hown8 hgrow8 _
                obtain ⟨a8, c8, rfl⟩ := owns_shape hown8
                have gZ := (hgrow8.block (w.heap.size + 1 + 1) (by simp; omega) (fun e => by have := hsv.out _ e.symm; omega)).trans (blk_old _ Q2U.out)
                have qz := cells1 gZ
                have lz := lt_of_block gZ
                have RG := Lib.hid (relD_grow NXU.out (Nat.le_refl _) hUZ hUH Q2U.out OWNU.out hown8 hgrow8)
                clear q2c lu hown8 hgrow8 gZ
                refine hK.out _ _ trivial (fun _ => ?_)
                try simp only [Act.put, List.setIfInBounds_toArray, List.set_cons_zero, List.set_cons_succ]
                clear hK K'
                refine held_call (i := 5) (by kernel_rfl) (by kernel_rfl) ?_
                intro oi ho
                simp at ho
                subst ho
                intro K' hK
                go_simp
                refine hK.out _ _ trivial (fun _ => ?_)
                try simp only [Act.put, List.setIfInBounds_toArray, List.set_cons_zero, List.set_cons_succ]
                clear hK K'
                refine wpAnyH_done (by kernel_rfl) ?_ _
                refine NoPanic.normal ?_
                go_wp2_with fail
                go_roundg g'
                case measure => omega
                case rel => exact ⟨k + 1, done ++ [bestOf (colN k 0 t)], by have := HK.out; omega, by go_num, HD.out, by rw [List.length_append, List.length_singleton]; omega, RG.out⟩
              · intro oi ho
                simp at ho
                subst ho
                intro K' hK
                go_simp
                have hSl : Sl encB 3 wr u9 (colN k 0 t) := Sl.of_owns encB_len (by rw [colN_len]; exact IOWN.out)
                have hBd : Below wr.heap.size wr wr.drew := by (repeat (first | (with_reducible exact Below.refl _ _) | (with_reducible assumption) | (with_reducible refine below_drewN ?_ _) | (with_reducible refine Below.drew ?_) | ((with_reducible refine Below.alloc ?_ ?_ _); rotate_left; focus (first | (with_reducible exact Nat.le_refl _) | omega | (simp; done) | (simp; omega))) | ((with_reducible refine Below.setCell (p := ⟨_, _, _⟩) ?_ ?_ _); rotate_left; focus (first | (with_reducible exact Nat.le_refl _) | omega | (simp; done) | (simp; omega)))))
                refine (best_any _ u9 (colN k 0 t) (by rw [colN_len]; omega) (hSl.below hBd)).mono ?_
                rintro e U1 ⟨rfl, hU⟩
                have BU := Lib.hid (show Below wr.heap.size wr U1 from hBd.trans (hU.mono hBd.size))
                have Q2U := Lib.hid (blk_keep Q2.out BU.out)
                have OWNU := Lib.hid (owns_below OWN.out BU.out)
                have NXU := Lib.hid (NX.out.below BU.out)
                have q2c := cells1 Q2U.out
                have lu := lt_of_block Q2U.out
                have hHU : H < U1.heap.size := Nat.lt_of_lt_of_le hHi BU.out.size
                clear hU hBd hSl Q2c lw
                try go_simp
                refine hK.out _ _ trivial (fun _ => ?_)
                try simp only [Act.put, List.setIfInBounds_toArray, List.set_cons_zero, List.set_cons_succ]
                clear hK K'
                refine held_two (i := 0) (j := 3) (by kernel_rfl) (by kernel_rfl) (by kernel_rfl) ?_ ?_
                · intro oi ho
                  simp at ho
                  subst ho
                  intro K' hK
                  go_simp
                  refine hK.out _ _ trivial (fun _ => ?_)
                  try simp only [Act.put, List.setIfInBounds_toArray, List.set_cons_zero, List.set_cons_succ]
                  clear hK K'
                  refine held_call (i := 3) (by kernel_rfl) (by kernel_rfl) ?_
                  intro oi ho
                  simp at ho
                  subst ho
                  intro K' hK
                  go_simp
                  refine hK.out _ _ trivial (fun _ => ?_)
                  try simp only [Act.put, List.setIfInBounds_toArray, List.set_cons_zero, List.set_cons_succ]
                  clear hK K'
                  refine held_call (i := 4) (by kernel_rfl) (by kernel_rfl) ?_
                  intro oi ho
                  simp at ho
                  subst ho
                  intro K' hK
                  have HNEWS := Lib.hid (news3 U1 44 (.int .i64 (bestOf (colN k 0 t)).1) (.int .i64 (bestOf (colN k 0 t)).2.1) (.int .i64 (bestOf (colN k 0 t)).2.2))
                  have hsv := Lib.hid (own_blk OWNU.out)
                  rw [if_pos (by rfl)]
                  refine wp_append_own _ _ _ _ rfl (H + 1) 44 i0 (.agg #[.int .i64 0, .int .i64 0, .int .i64 0]) 3 24 Try.underlying38 J0.out Y0.out Y1.out Y2.out rfl (by decide) (.slice sa done.length sc) done.length _ rfl (OWNU.out.alloc _) ⟨U1.heap.size, 0, none⟩ 1 1 [.int .i64 (bestOf (colN k 0 t)).1, .int .i64 (bestOf (colN k 0 t)).2.1, .int .i64 (bestOf (colN k 0 t)).2.2] rfl rfl HNEWS.out (by simp [Value.oneCell']) (by unfold maxLen; omega) (by omega) (by simp; omega) ?_
                  intro v' W8 hown8 hgrow8 _
                  obtain ⟨a8, c8, rfl⟩ := owns_shape hown8
                  have gZ := (hgrow8.block (w.heap.size + 1 + 1) (by simp; omega) (fun e => by have := hsv.out _ e.symm; omega)).trans (blk_old _ Q2U.out)
                  have qz := cells1 gZ
                  have lz := lt_of_block gZ
                  have RG := Lib.hid (relD_grow NXU.out (Nat.le_refl _) hUZ hUH Q2U.out OWNU.out hown8 hgrow8)
                  clear q2c lu hown8 hgrow8 gZ
                  refine hK.out _ _ trivial (fun _ => ?_)
                  try simp only [Act.put, List.setIfInBounds_toArray, List.set_cons_zero, List.set_cons_succ]
                  clear hK K'
                  refine held_call (i := 5) (by kernel_rfl) (by kernel_rfl) ?_
                  intro oi ho
                  simp at ho
                  subst ho
                  intro K' hK
                  go_simp
                  refine hK.out _ _ trivial (fun _ => ?_)
                  try simp only [Act.put, List.setIfInBounds_toArray, List.set_cons_zero, List.set_cons_succ]
                  clear hK K'
                  refine wpAnyH_done (by kernel_rfl) ?_ _
                  refine NoPanic.normal ?_
                  go_wp2_with fail
                  go_roundg g'
                  case measure => omega
                  case rel => exact ⟨k + 1, done ++ [bestOf (colN k 0 t)], by have := HK.out; omega, by go_num, HD.out, by rw [List.length_append, List.length_singleton]; omega, RG.out⟩
                · intro oi ho
                  simp at ho
                  subst ho
                  intro K' hK
                  go_simp
                  refine hK.out _ _ trivial (fun _ => ?_)
                  try simp only [Act.put, List.setIfInBounds_toArray, List.set_cons_zero, List.set_cons_succ]
                  clear hK K'
                  have q3c := cells1 (blk_old (.cells #[.int .i64 (bestOf (colN k 0 t)).1, .int .i64 (bestOf (colN k 0 t)).2.1, .int .i64 (bestOf (colN k 0 t)).2.2] 44) Q2U.out)
                  refine held_call (i := 0) (by kernel_rfl) (by kernel_rfl) ?_
                  intro oi ho
                  simp at ho
                  subst ho
                  intro K' hK
                  go_simp
                  refine hK.out _ _ trivial (fun _ => ?_)
                  try simp only [Act.put, List.setIfInBounds_toArray, List.set_cons_zero, List.set_cons_succ]
                  clear hK K'
                  clear q3c
                  refine held_call (i := 4) (by kernel_rfl) (by kernel_rfl) ?_
                  intro oi ho
                  simp at ho
                  subst ho
                  intro K' hK
                  have HNEWS := Lib.hid (news3 U1 44 (.int .i64 (bestOf (colN k 0 t)).1) (.int .i64 (bestOf (colN k 0 t)).2.1) (.int .i64 (bestOf (colN k 0 t)).2.2))
                  have hsv := Lib.hid (own_blk OWNU.out)
                  rw [if_pos (by rfl)]
                  refine wp_append_own _ _ _ _ rfl (H + 1) 44 i0 (.agg #[.int .i64 0, .int .i64 0, .int .i64 0]) 3 24 Try.underlying38 J0.out Y0.out Y1.out Y2.out rfl (by decide) (.slice sa done.length sc) done.length _ rfl (OWNU.out.alloc _) ⟨U1.heap.size, 0, none⟩ 1 1 [.int .i64 (bestOf (colN k 0 t)).1, .int .i64 (bestOf (colN k 0 t)).2.1, .int .i64 (bestOf (colN k 0 t)).2.2] rfl rfl HNEWS.out (by simp [Value.oneCell']) (by unfold maxLen; omega) (by omega) (by simp; omega) ?_
                  intro v' W8 hown8 hgrow8 _
                  obtain ⟨a8, c8, rfl⟩ := owns_shape hown8
                  have gZ := (hgrow8.block (w.heap.size + 1 + 1) (by simp; omega) (fun e => by have := hsv.out _ e.symm; omega)).trans (blk_old _ Q2U.out)
                  have qz := cells1 gZ
                  have lz := lt_of_block gZ
                  have RG := Lib.hid (relD_grow NXU.out (Nat.le_refl _) hUZ hUH Q2U.out OWNU.out hown8 hgrow8)
                  clear q2c lu hown8 hgrow8 gZ
                  refine hK.out _ _ trivial (fun _ => ?_)
                  try simp only [Act.put, List.setIfInBounds_toArray, List.set_cons_zero, List.set_cons_succ]
                  clear hK K'
                  refine held_call (i := 5) (by kernel_rfl) (by kernel_rfl) ?_
                  intro oi ho
                  simp at ho
                  subst ho
                  intro K' hK
                  go_simp
                  refine hK.out _ _ trivial (fun _ => ?_)
                  try simp only [Act.put, List.setIfInBounds_toArray, List.set_cons_zero, List.set_cons_succ]
                  clear hK K'
                  refine wpAnyH_done (by kernel_rfl) ?_ _
                  refine NoPanic.normal ?_
                  go_wp2_with fail
                  go_roundg g'
                  case measure => omega
                  case rel => exact ⟨k + 1, done ++ [bestOf (colN k 0 t)], by have := HK.out; omega, by go_num, HD.out, by rw [List.length_append, List.length_singleton]; omega, RG.out⟩
            · have ck1 : wr.cell? ⟨H, k, none⟩ = some (.int .i64 1) := by rw [ck, show hasN k t = 1 by omega]; rfl
              have HD := Lib.hid (show decGo t L 0 = (decGo t g' (k + 1)).map (fun xs => done ++ xs) by rw [HD.out, if_neg h0])
              clear iR hcn h1 ck
              go_wp2_with (go_at_call 35; (with_reducible refine (must_yes _ _).mono ?_); rintro e w' ⟨rfl, rfl⟩)
              go_roundg g'
              case measure => omega
              case rel => exact ⟨k + 1, done, by have := HK.out; omega, by go_num, HD.out, by omega, sv, Q2.out, OWN.out, NX.out⟩
          · have HD := Lib.hid (show decGo t L 0 = none by rw [HRUN.out, decGo, if_pos (by omega)]; rfl)
            have hc1 : ¬ ((hasN k t : Nat) : Int) ≤ 1 := by omega
            clear iR hcn
            go_wp2_with fail
            refine (must_no 272 wr).mono ?_
            rintro e W4 ⟨rfl, rfl⟩
            refine leaves_cons (f := 28) (args := #[.pointer (some ⟨w.heap.size + 1 + 1 + 1, 0, none⟩), .func (.func 39) #[] #[.pointer (some ⟨w.heap.size + 1 + 1, 0, none⟩)]]) (by simp) (by simp [go_sem]) ?_
            have Q2 := Q2.out
            have Q3 := Q3.out
            refine (caught_up (w.heap.size + 1 + 1 + 1) 39 _ 272 [] wr (fun w' => w' = wr.setCell ⟨w.heap.size + 1 + 1, 0, none⟩ (.slice none 0 0)) (enters_of Try.func39 (by kernel_rfl) rfl) (clearD_any _ wr _ Q2) (fun w' h => by rw [h]; exact ⟨_, blk_set_other _ Q3 (by dsimp only; omega)⟩)).mono ?_
            rintro e u' w'' ⟨rfl, rfl, w1, rfl, rfl⟩
            obtain ⟨c2, c3, B⟩ := up_tail w wr w.heap.size 272 _ _ (Nat.le_refl _) IB.out Q2 Q3
            have key : DecPost w (decEnd (decGo t L 0)) (.returned (.tuple #[.slice none 0 0, .int .i64 272])) ((wr.setCell ⟨w.heap.size + 1 + 1, 0, none⟩ (.slice none 0 0)).setCell ⟨w.heap.size + 1 + 1 + 1, 0, none⟩ (.int .i64 272)) := by
              rw [HD.out]
              exact ⟨_, rfl, Sl.nil _ _ _, B⟩
            simpa [Leaves, settle, results, Try.results15, go_sem, c2, c3] using key
    · obtain rfl : k = L := by have := HK.out; omega
      obtain rfl : gk = 0 := by have := HK.out; omega
      have HD := Lib.hid (show decGo t k 0 = some done by rw [HRUN.out, decGo]; simp)
      have p2 := cells1 R2.out
      have p3 := cells1 R3.out
      have l2 := lt_of_block R2.out
      have l3 := lt_of_block R3.out
      obtain ⟨sa, sc, rfl⟩ := owns_shape ROWN.out
      clear hz0
      go_wp2_with fail
      refine leaves_cons (f := 28) (args := #[.pointer (some ⟨w.heap.size + 1 + 1 + 1, 0, none⟩), .func (.func 39) #[] #[.pointer (some ⟨w.heap.size + 1 + 1, 0, none⟩)]]) (by simp) (by simp [go_sem]) ?_
      refine (caught_idle _ _ _ _).mono ?_
      rintro e u' w'' ⟨rfl, rfl, rfl⟩
      obtain ⟨c2, c3, S, B⟩ := end_tail (Nat.le_refl _) RB.out (by omega) R2.out R3.out ROWN.out
      have key : DecPost w (decEnd (decGo t k 0)) (.returned (.tuple #[.slice sa done.length sc, .int .i64 0])) ((wr.setCell ⟨w.heap.size + 1 + 1, 0, none⟩ (.slice sa done.length sc)).setCell ⟨w.heap.size + 1 + 1 + 1, 0, none⟩ (.int .i64 0)) := by
        rw [HD.out]
        exact ⟨_, rfl, S, B⟩
      simpa [Leaves, settle, results, Try.results15, go_sem, c2, c3] using key

end Go.Proofs.Ytnkpmeplapkobaa
