/- General facts that the walks of this family lean on: slices that read as lists, bounds, results. No program is in sight. -/
import Derived.WalkKit
import Derived.WalkSpells
import Derived.WalkLawsBesides
import Derived.Lib.Hide
import Derived.RangeFuncBox
namespace Go.Proofs.YthnkjgffahkecaaGreat
open Go.RowKit

theorem ret_bool {a b : Bool} (h : a = b) : Ending.returned (.bool a) = .returned (.bool b) := by rw [h]
theorem ret_i64 {a b : Int} (h : a = b) : Ending.returned (.int .i64 a) = .returned (.int .i64 b) := by rw [h]

/-- The slice value v reads in w as xs; the element x lies in the k cells enc x. -/
def Sl {α : Type} (enc : α → List Value) (k : Nat) (w : World) (v : Value) (xs : List α) : Prop :=
  ∃ (a : Option Addr) (cap : Nat), v = .slice a xs.length cap ∧ (xs.length ≤ cap ∧ (a = none → cap = 0)) ∧
    (xs = [] ∨ ∃ b off, a = some ⟨b, off, none⟩ ∧ b < w.heap.size ∧ ∀ i x, xs[i]? = some x → ∀ j u, (enc x)[j]? = some u → w.cell? ⟨b, off + i * k + j, none⟩ = some u)

theorem Sl.below {α : Type} {enc : α → List Value} {k : Nat} {w w' : World} {v : Value} {xs : List α} (h : Sl enc k w v xs) (hb : Below w.heap.size w w') : Sl enc k w' v xs := by
  obtain ⟨a, cap, hv, hc, h⟩ := h
  refine ⟨a, cap, hv, hc, ?_⟩
  rcases h with h | ⟨b, off, ha, hlt, hcell⟩
  · exact .inl h
  · refine .inr ⟨b, off, ha, Nat.lt_of_lt_of_le hlt hb.size, fun i x hx j u hu => ?_⟩
    exact (hb.cell (p := ⟨b, off + i * k + j, none⟩) hlt).trans (hcell i x hx j u hu)

theorem Sl.nil {α : Type} (enc : α → List Value) (k : Nat) (w : World) : Sl enc k w (.slice none 0 0) [] := ⟨none, 0, rfl, ⟨Nat.zero_le _, fun _ => rfl⟩, .inl rfl⟩

/-- What a slice owns it reads as. -/
theorem Sl.of_owns {α : Type} {enc : α → List Value} {k : Nat} {w : World} {v : Value} {xs : List α} {base : Nat} {e : TypeId}
    (hk : ∀ x, (enc x).length = k) (h : w.ownsRow base e k v xs.length (xs.flatMap enc)) : Sl enc k w v xs := by
  rcases h.2 with ⟨rfl, h0⟩ | ⟨g, cap, cur, rfl, hb, hg, hn, hm, hs, ht⟩
  · have : xs = [] := List.length_eq_zero_iff.1 h0
    subst this
    exact ⟨none, 0, rfl, ⟨Nat.le_refl _, fun _ => rfl⟩, .inl rfl⟩
  · refine ⟨_, cap, rfl, ⟨hn, fun h => by cases h⟩, .inr ⟨g, 0, rfl, (Array.getElem?_eq_some_iff.1 hg).1, fun i x hx j u hu => ?_⟩⟩
    have hcell := h.cells (g := g) (by simp [Value.ownBlock]) (i * k + j) u ?_
    · have e1 : ((⟨g, 0, none⟩ : Addr).add (i * k + j)) = ⟨g, 0 + i * k + j, none⟩ := by
        unfold Addr.add
        split
        · simp_all
        · simp
      rw [e1] at hcell
      exact hcell
    · have key : ∀ (l : List α) (i : Nat) (x : α), l[i]? = some x → (enc x)[j]? = some u → (l.flatMap enc)[i * k + j]? = some u := by
        intro l
        induction l with
        | nil => intro i x hx; simp at hx
        | cons y l ih =>
          intro i x hx hu
          have hj : j < k := by rw [← hk x]; exact (List.getElem?_eq_some_iff.1 hu).1
          cases i with
          | zero =>
            simp only [List.getElem?_cons_zero, Option.some.injEq] at hx
            subst hx
            rw [List.flatMap_cons, List.getElem?_append_left (by rw [hk]; omega)]
            simpa using hu
          | succ i =>
            rw [List.getElem?_cons_succ] at hx
            rw [List.flatMap_cons, List.getElem?_append_right (by rw [hk, Nat.succ_mul]; omega), hk]
            have : (i + 1) * k + j - k = i * k + j := by rw [Nat.succ_mul]; omega
            rw [this]
            exact ih i x hx hu
      exact key xs i x hx hu

/-- The cells of ints. -/
def encI (x : Int) : List Value := [.int .i64 x]
theorem encI_len (x : Int) : (encI x).length = 1 := rfl
/-- The cells of a pair of ints (a struct of two). -/
def encP (x : Int × Int) : List Value := [.int .i64 x.1, .int .i64 x.2]
theorem encP_len (x : Int × Int) : (encP x).length = 2 := rfl

theorem flat_encI (xs : List Int) : xs.flatMap encI = xs.map (Value.int .i64) := by
  induction xs with
  | nil => rfl
  | cons x xs ih => simp [List.flatMap_cons, ih, encI]

/-- The element at i of a slice of ints, as the walk asks for it. -/
theorem Sl.atI {w : World} {v : Value} {xs : List Int} (h : Sl encI 1 w v xs) {k : Nat} (hk : k < xs.length) :
    ∃ b off cap, v = .slice (some ⟨b, off, none⟩) xs.length cap ∧ b < w.heap.size ∧ ∀ i x, xs[i]? = some x → w.cell? ⟨b, off + i, none⟩ = some (.int .i64 x) := by
  obtain ⟨a, cap, rfl, _, h⟩ := h
  rcases h with h | ⟨b, off, rfl, hlt, hc⟩
  · subst h; simp at hk
  · exact ⟨b, off, cap, rfl, hlt, fun i x hi => by simpa using hc i x hi 0 _ rfl⟩
theorem Sl.atP {w : World} {v : Value} {xs : List (Int × Int)} (h : Sl encP 2 w v xs) {k : Nat} (hk : k < xs.length) :
    ∃ b off cap, v = .slice (some ⟨b, off, none⟩) xs.length cap ∧ b < w.heap.size ∧ ∀ i x, xs[i]? = some x → w.cell? ⟨b, off + i * 2, none⟩ = some (.int .i64 x.1) ∧ w.cell? ⟨b, off + i * 2 + 1, none⟩ = some (.int .i64 x.2) := by
  obtain ⟨a, cap, rfl, _, h⟩ := h
  rcases h with h | ⟨b, off, rfl, hlt, hc⟩
  · subst h; simp at hk
  · exact ⟨b, off, cap, rfl, hlt, fun i x hi => ⟨by simpa using hc i x hi 0 _ rfl, hc i x hi 1 _ rfl⟩⟩

/-- The cells of a one-cell value. -/
def encV {α : Type} (f : α → Value) (x : α) : List Value := [f x]
theorem Sl.atV {α : Type} {f : α → Value} {w : World} {v : Value} {xs : List α} (h : Sl (encV f) 1 w v xs) {k : Nat} (hk : k < xs.length) :
    ∃ b off cap, v = .slice (some ⟨b, off, none⟩) xs.length cap ∧ b < w.heap.size ∧ ∀ i x, xs[i]? = some x → w.cell? ⟨b, off + i, none⟩ = some (f x) := by
  obtain ⟨a, cap, rfl, _, h⟩ := h
  rcases h with h | ⟨b, off, rfl, hlt, hc⟩
  · subst h; simp at hk
  · exact ⟨b, off, cap, rfl, hlt, fun i x hi => by simpa using hc i x hi 0 _ rfl⟩

/-- The cells of a list's elements, one behind the other: place i * k + j. -/
theorem flat_at {α : Type} {enc : α → List Value} {k : Nat} (hk : ∀ x, (enc x).length = k) : ∀ (l : List α) (m : Nat) (u : Value), (l.flatMap enc)[m]? = some u →
    ∃ i j x, m = i * k + j ∧ l[i]? = some x ∧ (enc x)[j]? = some u := by
  intro l
  induction l with
  | nil => intro m u h; simp at h
  | cons y l ih =>
    intro m u h
    rw [List.flatMap_cons] at h
    by_cases hm : m < k
    · rw [List.getElem?_append_left (by rw [hk]; exact hm)] at h
      exact ⟨0, m, y, by omega, rfl, h⟩
    · rw [List.getElem?_append_right (by rw [hk]; omega), hk] at h
      obtain ⟨i, j, x, e, hx, hu⟩ := ih _ _ h
      exact ⟨i + 1, j, x, by rw [Nat.succ_mul]; omega, by simpa using hx, hu⟩
theorem flat_length {α : Type} {enc : α → List Value} {k : Nat} (hk : ∀ x, (enc x).length = k) (l : List α) : (l.flatMap enc).length = l.length * k := by
  induction l with
  | nil => simp
  | cons y l ih => rw [List.flatMap_cons, List.length_append, ih, hk, List.length_cons, Nat.succ_mul]; omega
/-- What append asks of its source. -/
theorem Sl.news {α : Type} {enc : α → List Value} {k : Nat} (hk : ∀ x, (enc x).length = k) {w : World} {ad : Addr} {n c : Nat} {xs : List α} (h : Sl enc k w (.slice (some ad) n c) xs) :
    ∀ m u, (xs.flatMap enc)[m]? = some u → w.cell? (ad.add m) = some u := by
  intro m u hm
  obtain ⟨i, j, x, e, hx, hu⟩ := flat_at hk xs m u hm
  obtain ⟨a, cap, hv, _, h⟩ := h
  cases hv
  rcases h with h | ⟨b, off, ha, hlt, hc⟩
  · subst h; simp at hx
  · cases ha
    have := hc i x hx j u hu
    have e1 : ((⟨b, off, none⟩ : Addr).add m) = ⟨b, off + i * k + j, none⟩ := by
      subst e
      unfold Addr.add
      split
      · simp_all
      · simp [Nat.add_assoc]
    rw [e1]; exact this
theorem Sl.nil_of_none {α : Type} {enc : α → List Value} {k : Nat} {w : World} {n c : Nat} {xs : List α} (h : Sl enc k w (.slice none n c) xs) : xs = [] := by
  obtain ⟨a, cap, hv, _, h⟩ := h
  cases hv
  rcases h with h | ⟨b, off, ha, _⟩
  · exact h
  · cases ha
theorem Sl.nil_cap {α : Type} {enc : α → List Value} {k : Nat} {w : World} {n c : Nat} {xs : List α} (h : Sl enc k w (.slice none n c) xs) : n = 0 ∧ c = 0 := by
  have h0 := h.nil_of_none
  obtain ⟨a, cap, hv, hc, h⟩ := h
  cases hv
  subst h0
  exact ⟨rfl, hc.2 rfl⟩
theorem encI_one {xs : List Int} : ∀ u ∈ xs.flatMap encI, u.oneCell' = true := by
  intro u hu
  simp only [List.mem_flatMap, encI, List.mem_singleton] at hu
  obtain ⟨x, _, rfl⟩ := hu; rfl
theorem encP_one {xs : List (Int × Int)} : ∀ u ∈ xs.flatMap encP, u.oneCell' = true := by
  intro u hu
  simp only [List.mem_flatMap, encP, List.mem_cons, List.not_mem_nil, or_false] at hu
  obtain ⟨x, _, rfl | rfl⟩ := hu <;> rfl
/-- append of a list that a slice reads as, whatever the slice (nil, too), onto what the call owns. -/
theorem run_append_sl {P : Program} {α : Type} {enc : α → List Value} (w : World) (t ty : TypeId) (base : Nat) (e : TypeId) (i : TypeInfo) (z : Value) (size bytes : Nat) (ht : P.underlying t = some (.slice e)) (hi : P.info? e = some i) (hz : i.zero = some z)
    (hsize : i.size = size) (hby : i.bytes = bytes) (hzs : z.cells.size = size) (hsz : 0 < size) (hk : ∀ x, (enc x).length = size)
    (v : Value) (n : Nat) (ys : List Value) (hown : w.ownsRow base e size v n ys)
    (ao : Option Addr) (m c : Nat) (xs : List α) (hS : Sl enc size w (.slice ao m c) xs) (h1 : ∀ u ∈ xs.flatMap enc, u.oneCell' = true)
    (h63 : n + xs.length ≤ maxLen) (hbytes : (n + xs.length) * bytes ≤ 140737488355328) (hbase : base ≤ w.heap.size) :
    ∃ v' w', (Builtin.append_ #[t, t] ty #[v, .slice ao m c]).run P w = .ok v' w' ∧ w'.ownsRow base e size v' (n + xs.length) (ys ++ xs.flatMap enc) ∧ w.grownBy w' v.ownBlock := by
  have hm : m = xs.length := by obtain ⟨a, cap, hv, _⟩ := hS; cases hv; rfl
  subst hm
  cases ao with
  | none =>
    obtain ⟨_, rfl⟩ := hS.nil_cap
    have h0 := hS.nil_of_none
    subst h0
    exact ⟨v, w, run_append_owned_none w base t ty e i size ht hi v n ys hown, by simpa using hown, ⟨rfl, rfl, rfl, Nat.le_refl _, fun _ _ _ => rfl⟩⟩
  | some ad =>
    obtain ⟨v', w', hr, h2, h3, _⟩ := run_append_own (P := P) w base t ty e i z size bytes ht hi hz hsize hby hzs hsz v n ys hown ad xs.length c (xs.flatMap enc) (flat_length hk xs) (hS.news hk) h1 h63 hbytes hbase
    exact ⟨v', w', hr, h2, h3⟩
/-- The same at a step of a region that draws its order. -/
theorem step_append_sl {P : Program} {α : Type} {enc : α → List Value} (w : World) {ops : Array Oper} {o : Oper} {a : Act} {K : Act → World → Prop} {Q : Exit → Act → World → Prop} {E : Prop} (hgd : o.guard = none) (s x : Operand) (t : TypeId)
    (ho : o.op = .call { callee := .builtin .append, args := #[s, x], argTypes := #[t, t] })
    (base : Nat) (e : TypeId) (i : TypeInfo) (z : Value) (size bytes : Nat) (ht : P.underlying t = some (.slice e)) (hi : P.info? e = some i) (hz : i.zero = some z)
    (hsize : i.size = size) (hby : i.bytes = bytes) (hzs : z.cells.size = size) (hsz : 0 < size) (hk : ∀ x, (enc x).length = size)
    (v : Value) (n : Nat) (ys : List Value) (hs : a.eval s = v) (hown : w.ownsRow base e size v n ys)
    (ao : Option Addr) (m c : Nat) (xs : List α) (hx : a.eval x = .slice ao m c) (hS : Sl enc size w (.slice ao m c) xs) (h1 : ∀ u ∈ xs.flatMap enc, u.oneCell' = true)
    (h63 : n + xs.length ≤ maxLen) (hbytes : (n + xs.length) * bytes ≤ 140737488355328) (hbase : base ≤ w.heap.size)
    (h : ∀ v' w', w'.ownsRow base e size v' (n + xs.length) (ys ++ xs.flatMap enc) → w.grownBy w' v.ownBlock → K (a.put o.dst v') w') :
    if Region.wanted o (yielded ops a.tmps) = true then Oper.wp P o a w K Q else E := by
  have hw : Region.wanted o (yielded ops a.tmps) = true := by simp [Region.wanted, hgd]
  rw [if_pos hw]
  obtain ⟨v', w', hr, h2, h3⟩ := run_append_sl (P := P) w t o.type base e i z size bytes ht hi hz hsize hby hzs hsz hk v n ys hown ao m c xs hS h1 h63 hbytes hbase
  unfold Oper.wp execOp
  simp only [ho, resolve, invoke, builtin, Sem.run_bind, Sem.run_pure, Result.andThen_ok, List.map_toArray, List.map_cons, List.map_nil, hs, hx, hr]
  exact h v' w' h2 h3
/-- The same at the list of a plain region's operations. -/
theorem wpList_append_sl {P : Program} {α : Type} {enc : α → List Value} (w : World) {ops : Array Oper} {rest : List Oper} {o : Oper} {a : Act} {Q : Exit → Act → World → Prop} (hgd : o.guard = none) (s x : Operand) (t : TypeId)
    (ho : o.op = .call { callee := .builtin .append, args := #[s, x], argTypes := #[t, t] })
    (base : Nat) (e : TypeId) (i : TypeInfo) (z : Value) (size bytes : Nat) (ht : P.underlying t = some (.slice e)) (hi : P.info? e = some i) (hz : i.zero = some z)
    (hsize : i.size = size) (hby : i.bytes = bytes) (hzs : z.cells.size = size) (hsz : 0 < size) (hk : ∀ x, (enc x).length = size)
    (v : Value) (n : Nat) (ys : List Value) (hs : a.eval s = v) (hown : w.ownsRow base e size v n ys)
    (ao : Option Addr) (m c : Nat) (xs : List α) (hx : a.eval x = .slice ao m c) (hS : Sl enc size w (.slice ao m c) xs) (h1 : ∀ u ∈ xs.flatMap enc, u.oneCell' = true)
    (h63 : n + xs.length ≤ maxLen) (hbytes : (n + xs.length) * bytes ≤ 140737488355328) (hbase : base ≤ w.heap.size)
    (h : ∀ v' w', w'.ownsRow base e size v' (n + xs.length) (ys ++ xs.flatMap enc) → w.grownBy w' v.ownBlock → wpList P ops Q rest (a.put o.dst v') w') : wpList P ops Q (o :: rest) a w := by
  refine wpList_plain hgd fun K hK => ?_
  obtain ⟨v', w', hr, h2, h3⟩ := run_append_sl (P := P) w t o.type base e i z size bytes ht hi hz hsize hby hzs hsz hk v n ys hown ao m c xs hS h1 h63 hbytes hbase
  unfold Oper.wp execOp
  simp only [ho, resolve, invoke, builtin, Sem.run_bind, Sem.run_pure, Result.andThen_ok, List.map_toArray, List.map_cons, List.map_nil, hs, hx, hr]
  exact hK _ _ (h v' w' h2 h3)
/-- A copy, append([]T{}, src...), at a step of a region that draws its order. -/
theorem step_copy_sl {P : Program} {α : Type} {enc : α → List Value} (w : World) {ops : Array Oper} {o : Oper} {a : Act} {K : Act → World → Prop} {Q : Exit → Act → World → Prop} {E : Prop} (hgd : o.guard = none) (s x : Operand) (t : TypeId)
    (ho : o.op = .call { callee := .builtin .append, args := #[s, x], argTypes := #[t, t] })
    (e : TypeId) (i : TypeInfo) (z : Value) (size bytes : Nat) (ht : P.underlying t = some (.slice e)) (hi : P.info? e = some i) (hz : i.zero = some z)
    (hsize : i.size = size) (hby : i.bytes = bytes) (hzs : z.cells.size = size) (hsz : 0 < size) (hk : ∀ x, (enc x).length = size)
    (W : World) (X : Nat) (ao : Option Addr) (c : Nat) (xs : List α) (h1 : ∀ u ∈ xs.flatMap enc, u.oneCell' = true) (hlen : xs.length ≤ 1099511627776) (hbb : bytes ≤ 128)
    (hs : a.eval s = .slice (some ⟨X, 0, none⟩) 0 0) (hx : a.eval x = .slice ao xs.length c)
    (hX : W.heap.size ≤ X) (hB : Below W.heap.size W w) (hown : w.ownsRow W.heap.size e size (.slice (some ⟨X, 0, none⟩) 0 0) 0 []) (hS : Sl enc size w (.slice ao xs.length c) xs)
    (h : ∀ a' c' w', w'.ownsRow W.heap.size e size (.slice a' xs.length c') xs.length (xs.flatMap enc) → w.grownBy w' (some X) → Below W.heap.size W w' → W.heap.size ≤ w'.heap.size → K (a.put o.dst (.slice a' xs.length c')) w') :
    if Region.wanted o (yielded ops a.tmps) = true then Oper.wp P o a w K Q else E := by
  refine step_append_sl w hgd s x t ho W.heap.size e i z size bytes ht hi hz hsize hby hzs hsz hk _ 0 [] hs hown ao _ c xs hx hS h1 (by unfold maxLen; omega) ?_ hB.size ?_
  · have : (0 + xs.length) * bytes ≤ 1099511627776 * 128 := Nat.mul_le_mul (by omega) hbb
    omega
  · intro v' w' hown' hgrow
    have hb : Below W.heap.size W w' := hB.grown hgrow hB.size (fun k e => by have e1 : X = k := Option.some.inj e; omega)
    simp only [Nat.zero_add, List.nil_append] at hown'
    obtain ⟨a', c', rfl⟩ : ∃ a c, v' = .slice a xs.length c := by
      rcases hown'.2 with ⟨rfl, h0⟩ | ⟨g, cap, cur, rfl, _⟩
      · exact ⟨none, 0, by rw [h0]⟩
      · exact ⟨_, cap, rfl⟩
    exact h a' c' w' hown' hgrow hb hb.size
theorem Sl.lit2 {W : World} {b : Nat} {x y : Int} (h0 : W.cell? ⟨b, 0, none⟩ = some (.int .i64 x)) (h1 : W.cell? ⟨b, 1, none⟩ = some (.int .i64 y)) : Sl encI 1 W (.slice (some ⟨b, 0, none⟩) 2 2) [x, y] := by
  refine ⟨_, 2, rfl, ⟨Nat.le_refl _, fun h => by cases h⟩, .inr ⟨b, 0, rfl, World.block_lt_of_cell? _ _ h0, fun i z hz j u hu => ?_⟩⟩
  have hj : j = 0 := by
    have := (List.getElem?_eq_some_iff.1 hu).1
    simp [encI] at this; exact this
  subst hj
  simp only [encI, List.getElem?_cons_zero, Option.some.injEq] at hu
  subst hu
  match i, hz with
  | 0, hz => simp at hz; subst hz; simpa using h0
  | 1, hz => simp at hz; subst hz; simpa using h1
theorem owns_base {w : World} {base base' : Nat} {e : TypeId} {k : Nat} {v : Value} {n : Nat} {xs : List Value} (h : w.ownsRow base e k v n xs) (hb : base' ≤ base) : w.ownsRow base' e k v n xs := by
  refine ⟨h.1, ?_⟩
  rcases h.2 with h | ⟨g, cap, cur, hv, hg, rest⟩
  · exact .inl h
  · exact .inr ⟨g, cap, cur, hv, Nat.le_trans hb hg, rest⟩
theorem owns_below {w w' : World} {base : Nat} {e : TypeId} {k : Nat} {v : Value} {n : Nat} {xs : List Value} (h : w.ownsRow base e k v n xs) (hb : Below w.heap.size w w') : w'.ownsRow base e k v n xs := by
  refine ⟨h.1, ?_⟩
  rcases h.2 with h | ⟨g, cap, cur, hv, hg, hh, rest⟩
  · exact .inl h
  · exact .inr ⟨g, cap, cur, hv, hg, (hb.block g (Array.getElem?_eq_some_iff.1 hh).1).trans hh, rest⟩
theorem owns_shape {w : World} {base : Nat} {e : TypeId} {k : Nat} {v : Value} {n : Nat} {xs : List Value} (h : w.ownsRow base e k v n xs) : ∃ a cap, v = .slice a n cap := by
  rcases h.2 with ⟨rfl, rfl⟩ | ⟨g, cap, cur, rfl, _⟩
  · exact ⟨none, 0, rfl⟩
  · exact ⟨_, cap, rfl⟩
theorem owns_new0 (w : World) (base : Nat) (e : TypeId) (k : Nat) (hb : base ≤ w.heap.size) : (w.alloc (.cells #[] e)).ownsRow base e k (.slice (some ⟨w.heap.size, 0, none⟩) 0 0) 0 [] :=
  World.ownsRow_made w #[] 0 hb (by decide) (by simp)
/-- Two rows of different types lie in different blocks. -/
theorem owns_ne {w : World} {b b' : Nat} {e e' : TypeId} {k k' : Nat} {v v' : Value} {n n' : Nat} {xs xs' : List Value} (h : w.ownsRow b e k v n xs) (h' : w.ownsRow b' e' k' v' n' xs') (he : e ≠ e') : v.ownBlock = none ∨ v.ownBlock ≠ v'.ownBlock := by
  rcases h.2 with ⟨rfl, _⟩ | ⟨g, cap, cur, rfl, _, hg, _⟩
  · exact .inl rfl
  · right
    rcases h'.2 with ⟨rfl, _⟩ | ⟨g', cap', cur', rfl, _, hg', _⟩
    · simp [Value.ownBlock]
    · simp only [Value.ownBlock, ne_eq, Option.some.injEq]
      intro heq
      subst heq
      rw [hg] at hg'
      simp at hg'
      exact he hg'.2
/-- What is owned beyond base, and the world below base, behind an append onto it. -/
theorem below_append {B : Nat} {w0 w w' : World} {g : Nat} {n c : Nat} (h : Below B w0 w) (hg : w.grownBy w' (Value.ownBlock (.slice (some ⟨g, 0, none⟩) n c))) (hB : B ≤ g) (hs : B ≤ w.heap.size) : Below B w0 w' :=
  h.grown hg hs (fun k e => by have e1 : g = k := Option.some.inj e; omega)
theorem blk_new (w : World) (o : Obj) : (w.alloc o).heap[w.heap.size]? = some o := World.alloc_heap_new w o
theorem blk_old {w : World} {b : Nat} {o : Obj} (o' : Obj) (h : w.heap[b]? = some o) : (w.alloc o').heap[b]? = some o := (Below.heap_alloc w o' b (Array.getElem?_eq_some_iff.1 h).1).trans h
theorem blk_below {w w' : World} {B b : Nat} {o : Obj} (h : w.heap[b]? = some o) (hb : Below B w w') (hlt : b < B) : w'.heap[b]? = some o := (hb.block b hlt).trans h
/-- What a block that is known whole gives: one, two, three cells. -/
theorem cells1 {w : World} {b : Nat} {v0 : Value} {t : TypeId} (h : w.heap[b]? = some (.cells #[v0] t (0, 0))) : w.cell? ⟨b, 0, none⟩ = some v0 ∧ ∀ i, w.frozen? ⟨b, i, none⟩ = false := by
  refine ⟨by simp [World.cell?, h], fun i => by simp [World.frozen?, h]⟩
theorem cells2 {w : World} {b : Nat} {v0 v1 : Value} {t : TypeId} (h : w.heap[b]? = some (.cells #[v0, v1] t (0, 0))) : w.cell? ⟨b, 0, none⟩ = some v0 ∧ w.cell? ⟨b, 1, none⟩ = some v1 ∧ ∀ i, w.frozen? ⟨b, i, none⟩ = false := by
  refine ⟨by simp [World.cell?, h], by simp [World.cell?, h], fun i => by simp [World.frozen?, h]⟩
theorem cells3 {w : World} {b : Nat} {v0 v1 v2 : Value} {t : TypeId} (h : w.heap[b]? = some (.cells #[v0, v1, v2] t (0, 0))) : w.cell? ⟨b, 0, none⟩ = some v0 ∧ w.cell? ⟨b, 1, none⟩ = some v1 ∧ w.cell? ⟨b, 2, none⟩ = some v2 ∧ ∀ i, w.frozen? ⟨b, i, none⟩ = false := by
  refine ⟨by simp [World.cell?, h], by simp [World.cell?, h], by simp [World.cell?, h], fun i => by simp [World.frozen?, h]⟩
theorem below_undrew {B : Nat} {w w' : World} (h : Below B w.drew w') : Below B w w' := ⟨h.os, h.tape, h.output, h.size, h.block⟩
theorem keepsFrom_of_below {B : Nat} {W W' : World} (h : Below W.heap.size W W') : KeepsFrom B W W' :=
  ⟨h.size, fun k _ _ hk _ => (h.block k (Array.getElem?_eq_some_iff.1 hk).1).trans hk⟩
theorem all_snoc {α : Type} {p : α → Bool} {xs : List α} {x : α} (h : xs.all p = true) (hx : p x = true) : (xs ++ [x]).all p = true := by
  rw [List.all_append, h]; simp [hx]
theorem all_false {α : Type} {p : α → Bool} {xs : List α} {k : Nat} {x : α} (h : x ∈ xs.take k) (hx : p x = false) : xs.all p = false := by
  rw [List.all_eq_false]; exact ⟨x, List.mem_of_mem_take h, by simp [hx]⟩

theorem all_of_at {α : Type} {p : α → Bool} {xs : List α} (h : ∀ j x, j < xs.length → xs[j]? = some x → p x = true) : xs.all p = true := by
  rw [List.all_eq_true]
  intro x hx
  obtain ⟨i, hi⟩ := List.getElem?_of_mem hx
  exact h i x (List.getElem?_eq_some_iff.1 hi).1 hi
theorem all_false_at {α : Type} {p : α → Bool} {xs : List α} {k : Nat} {x : α} (h : xs[k]? = some x) (hx : p x = false) : xs.all p = false := by
  rw [List.all_eq_false]; exact ⟨x, List.mem_of_getElem? h, by simp [hx]⟩
theorem ext_at {α : Type} {xs ys : List α} (hl : xs.length = ys.length) (h : ∀ j x y, j < xs.length → xs[j]? = some x → ys[j]? = some y → x = y) : xs = ys := by
  apply List.ext_getElem hl
  intro i h1 h2
  exact h i _ _ h1 (List.getElem?_eq_getElem h1) (List.getElem?_eq_getElem h2)
theorem ne_at {α : Type} {xs ys : List α} {k : Nat} {x y : α} (hx : xs[k]? = some x) (hy : ys[k]? = some y) (h : x ≠ y) : xs ≠ ys := by
  intro e; subst e; rw [hx] at hy; cases hy; exact h rfl
theorem at_some {α : Type} {xs : List α} {k : Nat} (h : k < xs.length) : ∃ x, xs[k]? = some x := ⟨_, List.getElem?_eq_getElem h⟩
theorem take_snoc {α : Type} {xs : List α} {k : Nat} {x : α} (h : xs[k]? = some x) : xs.take (k + 1) = xs.take k ++ [x] := by
  rw [List.take_add_one, h]; rfl

theorem Sl.shape {α : Type} {enc : α → List Value} {k : Nat} {w : World} {v : Value} {xs : List α} (h : Sl enc k w v xs) : ∃ a cap, v = .slice a xs.length cap := by
  obtain ⟨a, cap, hv, _⟩ := h; exact ⟨a, cap, hv⟩

end Go.Proofs.YthnkjgffahkecaaGreat
