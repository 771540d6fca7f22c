/- Link: LinkHolds as plain data: what one link sends, restarts between, and what is taken of it. No program is in sight. -/
import Derived.Test.YtijifbkikgooiaaLinkO
namespace Go.Proofs.Ytijifbkikgooiaa
open Go.RowKit Go.Shelf

/-- The sender's link. -/
def stL (inc s : Int) : Lk := ⟨inc, [0, 0, s], [(0, 0), (0, 0), (0, 0)]⟩
/-- The taker's link. -/
def tkL (t : Int × Int) : Lk := ⟨1, [0, 0, 0], [(0, 0), t, (0, 0)]⟩
def ltS (a b : Int × Int) : Prop := a.1 < b.1 ∨ a.1 = b.1 ∧ a.2 < b.2

theorem newR3_st : newR 3 = (stL 1 0, 0) := rfl
theorem newR3_tk : newR 3 = (tkL (0, 0), 0) := rfl
theorem stL_len (inc s : Int) : (stL inc s).out.length = 3 ∧ (stL inc s).inn.length = 3 := ⟨rfl, rfl⟩
theorem tkL_len (t : Int × Int) : (tkL t).out.length = 3 ∧ (tkL t).inn.length = 3 := ⟨rfl, rfl⟩

theorem right_stL {inc s : Int} (h1 : 1 ≤ inc) (h2 : inc ≤ 1099511627776) (h3 : 0 ≤ s) (h4 : s ≤ 1099511627776) : rightB (stL inc s) = true := by
  have h0 : okS (0, 0) = true := rfl
  simp [rightB, stL, inB, h0]
  exact ⟨⟨decide_eq_true h1, decide_eq_true h2⟩, h3, h4⟩
theorem send_stL {inc s : Int} (h1 : 1 ≤ inc) (h2 : inc ≤ 1099511627776) (h3 : 0 ≤ s) (h4 : s < 1099511627776) : sendR (stL inc s) 2 = (stL inc (s + 1), (inc, s + 1), 0) := by
  have hr := right_stL h1 h2 h3 (by omega)
  unfold sendR
  rw [if_neg (by simp [hr]), if_neg (by simp [stL]), if_neg (by simp [stL, mostI]; omega)]
  rfl
theorem restart_stL {inc s : Int} (h1 : 1 ≤ inc) (h2 : inc < 1099511627776) (h3 : 0 ≤ s) (h4 : s ≤ 1099511627776) : restartR (stL inc s) = (stL (inc + 1) 0, 0) := by
  have hr := right_stL h1 (by omega) h3 h4
  unfold restartR
  rw [if_neg (by simp [hr]), if_neg (by simp [stL, mostI]; omega)]
  rfl

/-- What holds behind k stamps. -/
def Inv1 (k : Nat) (inc s : Int) (st : List (Int × Int)) : Prop :=
  (1 ≤ inc ∧ inc ≤ 1 + k) ∧ (0 ≤ s ∧ s ≤ k) ∧ st.length = k ∧ (∀ x ∈ st, (1 ≤ x.1 ∧ x.1 ≤ 1 + k) ∧ (1 ≤ x.2 ∧ x.2 ≤ k) ∧ (x.1 < inc ∨ x.1 = inc ∧ x.2 ≤ s)) ∧ st.Pairwise ltS
theorem inv1_start : Inv1 0 1 0 [] := by
  refine ⟨⟨by decide, by decide⟩, ⟨by decide, by decide⟩, rfl, ?_, List.Pairwise.nil⟩
  intro x hx; simp at hx
theorem Inv1.send {k : Nat} {inc s : Int} {st : List (Int × Int)} (h : Inv1 k inc s st) : Inv1 (k + 1) inc (s + 1) (st ++ [(inc, s + 1)]) := by
  obtain ⟨⟨a1, a2⟩, ⟨b1, b2⟩, hl, hx, hp⟩ := h
  refine ⟨⟨a1, by omega⟩, ⟨by omega, by omega⟩, by simp [hl], ?_, ?_⟩
  · intro x hm
    rw [List.mem_append, List.mem_singleton] at hm
    rcases hm with hm | rfl
    · obtain ⟨⟨c1, c2⟩, ⟨c3, c4⟩, c5⟩ := hx x hm
      exact ⟨⟨c1, by omega⟩, ⟨c3, by omega⟩, by omega⟩
    · exact ⟨⟨a1, by dsimp only; omega⟩, ⟨by dsimp only; omega, by dsimp only; omega⟩, .inr ⟨rfl, by dsimp only; omega⟩⟩
  · rw [List.pairwise_append]
    refine ⟨hp, List.pairwise_singleton _ _, fun x hm y hy => ?_⟩
    rw [List.mem_singleton] at hy
    subst hy
    obtain ⟨_, _, c5⟩ := hx x hm
    unfold ltS
    dsimp only
    omega
theorem Inv1.restart {k : Nat} {inc s : Int} {st : List (Int × Int)} (h : Inv1 (k + 1) inc s st) (hi : inc ≤ 1 + k) : Inv1 (k + 1) (inc + 1) 0 st := by
  obtain ⟨⟨a1, a2⟩, ⟨b1, b2⟩, hl, hx, hp⟩ := h
  refine ⟨⟨by omega, by omega⟩, ⟨by omega, by omega⟩, hl, fun x hm => ?_, hp⟩
  obtain ⟨c1, c2, c5⟩ := hx x hm
  exact ⟨c1, c2, by omega⟩
theorem Inv1.bounds {k : Nat} {inc s : Int} {st : List (Int × Int)} (h : Inv1 k inc s st) (hk : k ≤ 40) : 1 ≤ inc ∧ inc ≤ 41 ∧ inc ≤ 1 + k ∧ 0 ≤ s ∧ s ≤ 40 := by
  obtain ⟨⟨a1, a2⟩, ⟨b1, b2⟩, _⟩ := h
  omega

/-- What the taker has, behind those that came. -/
def Inv2 (st : List (Int × Int)) (t : Int × Int) (last : Int) : Prop := (last = -1 ∧ t = (0, 0)) ∨ ∃ c : Nat, last = c ∧ st[c]? = some t
theorem inv2_start (st : List (Int × Int)) : Inv2 st (0, 0) (-1) := .inl ⟨rfl, rfl⟩
theorem pair_lt {st : List (Int × Int)} (hp : st.Pairwise ltS) {i j : Nat} {x y : Int × Int} (hi : st[i]? = some x) (hj : st[j]? = some y) (h : i < j) : ltS x y := by
  obtain ⟨hi1, rfl⟩ := List.getElem?_eq_some_iff.1 hi
  obtain ⟨hj1, rfl⟩ := List.getElem?_eq_some_iff.1 hj
  exact List.pairwise_iff_getElem.1 hp i j hi1 hj1 h
theorem ord_pos {a b : Int × Int} : 0 < ordS a b ↔ ltS b a := by
  unfold ordS cmpI ltS
  split
  · omega
  · split
    · omega
    · split <;> omega
theorem take_tkL {k : Nat} {inc s : Int} {st : List (Int × Int)} (hst : Inv1 k inc s st) (hk : k ≤ 40) {t : Int × Int} {last : Int} (h : Inv2 st t last) {c : Nat} {x : Int × Int} (hx : st[c]? = some x) :
    ∃ t', takeR (tkL t) 1 x = (tkL t', decide (last < c), 0) ∧ Inv2 st t' (max last c) := by
  obtain ⟨_, _, hl, hall, hp⟩ := hst
  have mx : ∀ {y}, y ∈ st → mayB y = true := fun {y} hm => by
    obtain ⟨c1, c2, _⟩ := hall y hm
    simp [mayB, inB]; omega
  have ht : okS t = true := by
    rcases h with ⟨_, rfl⟩ | ⟨d, _, hd⟩
    · rfl
    · simp [okS, mx (List.mem_of_getElem? hd)]
  have hr : rightB (tkL t) = true := by
    have h0 : okS (0, 0) = true := rfl
    simp [rightB, tkL, inB, ht, h0]
  have hm := mx (List.mem_of_getElem? hx)
  have hiff : 0 < ordS x t ↔ last < c := by
    rw [ord_pos]
    rcases h with ⟨rfl, rfl⟩ | ⟨d, rfl, hd⟩
    · obtain ⟨c1, c2, _⟩ := hall x (List.mem_of_getElem? hx)
      unfold ltS; dsimp only; omega
    · rcases Nat.lt_trichotomy d c with h1 | h1 | h1
      · exact ⟨fun _ => by omega, fun _ => pair_lt hp hd hx h1⟩
      · subst h1
        rw [hx] at hd; cases hd
        unfold ltS; omega
      · have := pair_lt hp hx hd h1
        unfold ltS at *; omega
  unfold takeR
  rw [if_neg (by simp [hr, hm]), if_neg (by simp [tkL])]
  have hg : (tkL t).inn.getD (1 : Int).toNat (0, 0) = t := rfl
  rw [hg]
  by_cases hc : last < c
  · refine ⟨x, ?_, .inr ⟨c, by omega, hx⟩⟩
    rw [if_pos (hiff.2 hc), decide_eq_true hc]
    rfl
  · refine ⟨t, ?_, ?_⟩
    · rw [if_neg (fun h => hc (hiff.1 h)), decide_eq_false hc]
    · rw [show max last (c : Int) = last by omega]; exact h

end Go.Proofs.Ytijifbkikgooiaa
