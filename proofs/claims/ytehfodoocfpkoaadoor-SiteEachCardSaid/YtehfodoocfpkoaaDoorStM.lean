/- Names of tickets: what reads as one; no program is in sight. -/
import Derived.Test.YtehfodoocfpkoaaDoorStF
import Derived.Lib.ParseIntB
import Derived.Lib.Split
namespace Go.Proofs.YtehfodoocfpkoaaDoor
open Go.RowKit Go.Shelf
abbrev Bs := List UInt8
/-! ### Pieces -/
def splitL : Bs → List Bs
  | [] => [[]]
  | c :: r => if c = 46 then [] :: splitL r else match splitL r with
    | [] => [[c]]
    | p :: ps => (c :: p) :: ps
def appHead (pre : Bs) : List Bs → List Bs
  | [] => [pre]
  | p :: ps => (pre ++ p) :: ps
theorem splitL_ne : ∀ l : Bs, splitL l ≠ []
  | [] => by simp [splitL]
  | c :: r => by
    unfold splitL
    split
    · simp
    · split <;> simp
theorem splitL_other {b : UInt8} {l p : Bs} {ps : List Bs} (hb : ¬ b = 46) (h : splitL l = p :: ps) : splitL (b :: l) = (b :: p) :: ps := by rw [splitL, if_neg hb, h]
theorem splitL_idx : ∀ l : Bs, (Lib.index l [46] = -1 → splitL l = [l]) ∧ ∀ i : Nat, Lib.index l [46] = i → splitL l = l.take i :: splitL (l.drop (i + 1))
  | [] => ⟨fun _ => rfl, fun i h => by simp [Lib.index] at h⟩
  | b :: l => by
    obtain ⟨h1, h2⟩ := splitL_idx l
    by_cases hb : b = 46
    · subst hb
      have hi : Lib.index (46 :: l) [46] = 0 := by simp [Lib.index, List.isPrefixOf]
      refine ⟨fun h => by rw [hi] at h; omega, fun i h => ?_⟩
      rw [hi] at h
      have : i = 0 := by omega
      subst this
      simp [splitL]
    · have hp : ([46] : Bs).isPrefixOf (b :: l) = false := by
        simp only [List.isPrefixOf, Bool.and_true, beq_eq_false_iff_ne, ne_eq]
        exact fun e => hb e.symm
      have hi : Lib.index (b :: l) [46] = if Lib.index l [46] == -1 then -1 else Lib.index l [46] + 1 := by simp [Lib.index, hp]
      rw [hi]
      by_cases hm : Lib.index l [46] = -1
      · rw [if_pos (beq_iff_eq.2 hm)]
        refine ⟨fun _ => ?_, fun i h => by omega⟩
        exact splitL_other hb (h1 hm)
      · rw [if_neg (fun e => hm (beq_iff_eq.1 e))]
        refine ⟨fun h => ?_, fun i h => ?_⟩
        · have := Lib.index_ge l [46]; omega
        · have := Lib.index_ge l [46]
          obtain ⟨j, rfl⟩ : ∃ j, i = j + 1 := ⟨i - 1, by omega⟩
          exact splitL_other hb (h2 j (by omega))
theorem split_eq : ∀ (n : Nat) (l : Bs), l.length ≤ n → Lib.split l [46] = splitL l
  | n, l, hn => by
    by_cases hm : Lib.index l [46] = -1
    · unfold Lib.split
      rw [Lib.count_miss hm, (splitL_idx l).1 hm]
      rfl
    · have hg := Lib.index_ge l [46]
      obtain ⟨i, hi⟩ : ∃ i : Nat, Lib.index l [46] = i := ⟨(Lib.index l [46]).toNat, by omega⟩
      have hd : (l.drop (i + 1)).length < l.length := by
        have := Lib.drop_shorter (s := l) (sub := [46]) (by simp) (fun e => hm (beq_iff_eq.1 e))
        rw [hi] at this
        simpa using this
      match n, hn with
      | 0, hn => omega
      | n + 1, hn =>
        have ih := split_eq n (l.drop (i + 1)) (by omega)
        rw [(splitL_idx l).2 i hi, ← ih]
        unfold Lib.split
        rw [Lib.count_hit (by simp) hi, Nat.add_comm, Lib.splitK, if_neg (fun e => hm (beq_iff_eq.1 e)), hi]
        simp
/-! ### Digits -/
def isD (c : UInt8) : Bool := decide (48 ≤ c.toNat) && decide (c.toNat ≤ 57)
def digF (acc : Nat) : Bs → Nat
  | [] => acc
  | c :: r => digF (acc * 10 + (c.toNat - 48)) r
theorem digF_snoc : ∀ (l : Bs) (acc : Nat) (d : UInt8), digF acc (l ++ [d]) = digF acc l * 10 + (d.toNat - 48)
  | [], _, _ => rfl
  | _ :: l, _, d => digF_snoc l _ d
theorem digF_ge : ∀ (l : Bs) (acc : Nat), acc ≤ digF acc l
  | [], _ => Nat.le_refl _
  | c :: l, acc => Nat.le_trans (by omega) (digF_ge l (acc * 10 + (c.toNat - 48)))
theorem digF_lt : ∀ (l : Bs) (acc : Nat), l.all isD = true → digF acc l < (acc + 1) * 10 ^ l.length
  | [], acc, _ => by
    show acc < (acc + 1) * 1
    omega
  | c :: l, acc, h => by
    simp only [List.all_cons, Bool.and_eq_true, isD, decide_eq_true_eq] at h
    have ih := digF_lt l (acc * 10 + (c.toNat - 48)) h.2
    have h1 : acc * 10 + (c.toNat - 48) + 1 ≤ (acc + 1) * 10 := by omega
    have h2 : (acc * 10 + (c.toNat - 48) + 1) * 10 ^ l.length ≤ (acc + 1) * 10 * 10 ^ l.length := Nat.mul_le_mul_right _ h1
    rw [List.length_cons, Nat.pow_succ, Nat.mul_comm (10 ^ l.length) 10, ← Nat.mul_assoc]
    exact Nat.lt_of_lt_of_le ih h2
theorem u8_dig {d : Nat} (h : d < 10) : (UInt8.ofNat (48 + d)).toNat = 48 + d := by
  rw [UInt8.toNat_ofNat']
  exact Nat.mod_eq_of_lt (by omega)
theorem dec_all (u : Nat) : (Lib.decDigits u).all isD = true ∧ digF 0 (Lib.decDigits u) = u := by
  induction u using Nat.strongRecOn with
  | ind u ih =>
    by_cases h : u < 10
    · rw [Lib.decDigits, dif_pos h]
      have := u8_dig h
      exact ⟨by simp only [List.all_cons, List.all_nil, Bool.and_true, isD, this, Bool.and_eq_true, decide_eq_true_eq]; omega, by show 0 * 10 + ((UInt8.ofNat (48 + u)).toNat - 48) = u; rw [this]; omega⟩
    · obtain ⟨h1, h2⟩ := ih (u / 10) (by omega)
      have := u8_dig (d := u % 10) (by omega)
      rw [Lib.decDigits, dif_neg h]
      refine ⟨?_, ?_⟩
      · rw [List.all_append, h1]
        simp only [List.all_cons, List.all_nil, Bool.and_true, Bool.true_and, isD, this, Bool.and_eq_true, decide_eq_true_eq]; omega
      · rw [digF_snoc, h2, this]; omega
theorem dec_len : ∀ (k u : Nat), 1 ≤ k → u < 10 ^ k → (Lib.decDigits u).length ≤ k
  | 0, _, h, _ => by omega
  | k + 1, u, _, hu => by
    rw [Lib.decDigits]
    split
    · simp
    · rename_i h10
      have hk : 1 ≤ k := by
        cases k with
        | zero => simp at hu; omega
        | succ k => omega
      have := dec_len k (u / 10) hk (by rw [Nat.pow_succ] at hu; omega)
      simp; omega
theorem dec_ne (u : Nat) : Lib.decDigits u ≠ [] := by
  rw [Lib.decDigits]
  split <;> simp
theorem parseM_dig {M : Nat} (hM : M ≤ 18446744073709551615) : ∀ (l : Bs) (acc : Nat), l.all isD = true → digF acc l ≤ M → Lib.parseUintM M acc l = .ok (digF acc l)
  | [], _, _, _ => rfl
  | c :: r, acc, h, hl => by
    simp only [List.all_cons, Bool.and_eq_true, isD, decide_eq_true_eq] at h
    have hg := digF_ge r (acc * 10 + (c.toNat - 48))
    have hl2 : digF (acc * 10 + (c.toNat - 48)) r ≤ M := hl
    unfold Lib.parseUintM
    rw [if_pos ⟨h.1.1, h.1.2⟩, if_neg (by omega), if_neg (by omega)]
    exact parseM_dig hM r _ h.2 hl2
theorem parse_dec {u : Nat} (hu : u < 9223372036854775808) : Lib.parseIntB 64 (Lib.itoa (u : Int)) = .ok (u : Int) := by
  rw [Lib.itoa_nonneg]
  obtain ⟨h1, h2⟩ := dec_all u
  have hne := dec_ne u
  have hp : Lib.parseUintB 64 (Lib.decDigits u) = .ok u := by
    unfold Lib.parseUintB
    rw [if_neg hne]
    have := parseM_dig (M := 2 ^ 64 - 1) (by omega) (Lib.decDigits u) 0 h1 (by rw [h2]; omega)
    rw [h2] at this
    exact this
  cases hd : Lib.decDigits u with
  | nil => exact absurd hd hne
  | cons c r =>
    rw [hd] at h1 hp
    simp only [List.all_cons, Bool.and_eq_true, isD, decide_eq_true_eq] at h1
    unfold Lib.parseIntB
    have n1 : ¬ (c.toNat = 43 ∨ c.toNat = 45) := by omega
    have n2 : ¬ c.toNat = 45 := by omega
    simp only
    rw [if_neg n1, hp]
    simp only
    rw [if_neg (by omega), if_neg (by omega), if_neg n2]
/-- The number that a piece is; -1: it is none. -/
def numN (p : Bs) : Int := if p.all isD = true ∧ p.length ≤ 13 then (if Lib.itoa (digF 0 p : Nat) = p then ((digF 0 p : Nat) : Int) else -1) else -1
def numB (p : Bs) (lo hi : Int) : Option Int := match Lib.parseIntB 64 p with
  | .ok v => if Lib.itoa v = p ∧ (lo ≤ v ∧ v ≤ hi) then some v else none
  | _ => none
theorem numN_itoa {v : Int} (h0 : 0 ≤ v) (h1 : v ≤ 1099511627776) : numN (Lib.itoa v) = v := by
  obtain ⟨u, rfl⟩ : ∃ u : Nat, v = u := ⟨v.toNat, by omega⟩
  unfold numN
  rw [Lib.itoa_nonneg]
  obtain ⟨h2, h3⟩ := dec_all u
  rw [if_pos ⟨h2, dec_len 13 u (by omega) (by omega)⟩, h3, Lib.itoa_nonneg, if_pos rfl]
theorem numN_is {p : Bs} (h : 0 ≤ numN p) : Lib.itoa (numN p) = p ∧ numN p < 10000000000000 := by
  unfold numN at h ⊢
  split at h
  · rename_i h1
    rw [if_pos h1]
    split at h
    · rename_i h2
      rw [if_pos h2]
      refine ⟨h2, ?_⟩
      have := digF_lt p 0 h1.1
      have h13 : 10 ^ p.length ≤ 10 ^ 13 := Nat.pow_le_pow_right (by omega) h1.2
      omega
    · omega
  · omega
theorem numB_ref {p : Bs} {lo hi : Int} (h0 : 0 ≤ lo) (h1 : hi ≤ 1099511627776) : numB p lo hi = if lo ≤ numN p ∧ numN p ≤ hi then some (numN p) else none := by
  by_cases h : lo ≤ numN p ∧ numN p ≤ hi
  · rw [if_pos h]
    obtain ⟨h2, h3⟩ := numN_is (p := p) (by omega)
    obtain ⟨u, hu⟩ : ∃ u : Nat, numN p = u := ⟨(numN p).toNat, by omega⟩
    have hp := parse_dec (u := u) (by omega)
    rw [← hu, h2] at hp
    unfold numB
    rw [hp]
    simp only
    rw [if_pos ⟨h2, h⟩]
  · rw [if_neg h]
    unfold numB
    split
    · rename_i v hv
      split
      · rename_i h2
        exfalso
        have := numN_itoa (v := v) (by omega) (by omega)
        rw [h2.1] at this
        exact h (by omega)
      · rfl
    · rfl
/-- The ticket of a text, an error. -/
def parX (n l s : Int) (text : Bs) : Tk × Int :=
  if shapeB n l s = true then match splitL text with
    | [a, b, c, d] => match numB a 0 (n - 1), numB b 0 (l - 1), numB c 0 (s - 1), numB d 1 1099511627776 with
      | some x, some y, some z, some u => ((x, y, z, u), 0)
      | _, _, _, _ => ((0, 0, 0, 0), 150)
    | _ => ((0, 0, 0, 0), 150)
  else ((0, 0, 0, 0), 2)

end Go.Proofs.YtehfodoocfpkoaaDoor
