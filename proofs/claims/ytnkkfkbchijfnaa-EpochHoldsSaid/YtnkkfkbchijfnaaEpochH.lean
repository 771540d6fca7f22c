/- Epochs: plain facts on the order, on Ask and Hear, for EpochHolds. No program is in sight but for the cells' types. -/
import Derived.Test.YtnkkfkbchijfnaaEpochE
import Derived.Test.YtnkkfkbchijfnaaEpochT
namespace Go.Proofs.Ytnkkfkbchijfnaa
open Go.RowKit

theorem ordS_cases (a b : Int × Int) : ordS a b = -1 ∨ ordS a b = 1 ∨ ordS a b = 0 := by
  unfold ordS cmpI; grind
theorem ordS_zero {a b : Int × Int} (h : ordS a b = 0) : a = b := by
  obtain ⟨a1, a2⟩ := a; obtain ⟨b1, b2⟩ := b
  unfold ordS cmpI at h; simp only [Prod.mk.injEq]; grind
theorem ordS_ne {a b : Int × Int} (h : ordS a b ≠ 0) : ¬ a.1 = b.1 ∨ (a.1 = b.1 ∧ ¬ a.2 = b.2) := by
  unfold ordS cmpI at h; grind
theorem ordS_self (a : Int × Int) : ordS a a = 0 := by unfold ordS cmpI; grind
theorem ordS_neg (a b : Int × Int) : ordS b a = - ordS a b := by unfold ordS cmpI; grind
theorem ordS_up {a b c : Int × Int} (h1 : ordS a b = 1) (h2 : ordS b c = 1) : ordS a c = 1 := by unfold ordS cmpI at *; grind
theorem ordS_down {a b c : Int × Int} (h1 : ordS a b = -1) (h2 : ordS b c = -1) : ordS a c = -1 := by unfold ordS cmpI at *; grind
theorem next_later {n l s me : Int} {e x : Int × Int} (h : nextR n l s e me = (x, 0)) : ordS x e = 1 := by
  unfold nextR at h
  split at h
  · simp at h
  · split at h
    · simp at h
    · simp only [Prod.mk.injEq, and_true] at h
      subst h
      unfold ordS; grind
/-- What Ask does: an error, no turn, or a later epoch. -/
theorem ask_cases (n l s : Int) (q : (Int × Int) × Bool) (e : Int × Int) : (∃ r, askR n l s q e = (r, false, 2)) ∨ askR n l s q e = (q, false, 0) ∨ (askR n l s q e = ((e, true), true, 0) ∧ ordS e q.1 = 1) := by
  unfold askR
  split
  · exact .inl ⟨_, rfl⟩
  · split
    · exact .inr (.inl rfl)
    · rename_i h
      refine .inr (.inr ⟨rfl, ?_⟩)
      rcases ordS_cases e q.1 with h1 | h1 | h1 <;> omega
theorem hear_cases (n l s : Int) (q : (Int × Int) × Bool) (e : Int × Int) : (∃ r, hearR n l s q e = (r, false, 2)) ∨ (hearR n l s q e = (q, false, 0) ∧ (¬ e.1 = q.1.1 ∨ (e.1 = q.1.1 ∧ ¬ e.2 = q.1.2))) ∨ (hearR n l s q e = ((e, false), true, 0) ∧ q.1 = e) := by
  unfold hearR
  split
  · exact .inl ⟨_, rfl⟩
  · split
    · exact .inr (.inr ⟨rfl, by assumption⟩)
    · rename_i h
      refine .inr (.inl ⟨rfl, ?_⟩)
      obtain ⟨⟨a, b⟩, f⟩ := q; obtain ⟨c, d⟩ := e
      simp only [Prod.mk.injEq] at h
      dsimp only
      omega

/-- The element at k of a slice whose elements lie in k cells each. -/
theorem Sl.at_ {α : Type} {enc : α → List Value} {m : Nat} {w : World} {v : Value} {xs : List α} (h : Sl enc m w v xs) {k : Nat} (hk : k < xs.length) :
    ∃ b off cap, v = .slice (some ⟨b, off, none⟩) xs.length cap ∧ b < w.heap.size ∧ ∀ i x, xs[i]? = some x → ∀ j u, (enc x)[j]? = some u → w.cell? ⟨b, off + i * m + j, none⟩ = some u := by
  obtain ⟨a, cap, rfl, _, h⟩ := h
  rcases h with h | ⟨b, off, rfl, hlt, hc⟩
  · subst h; simp at hk
  · exact ⟨b, off, cap, rfl, hlt, hc⟩

theorem cells6 {w : World} {b : Nat} {v0 v1 v2 v3 v4 v5 : Value} {t : TypeId} (h : w.heap[b]? = some (.cells #[v0, v1, v2, v3, v4, v5] t (0, 0))) : w.cell? ⟨b, 0, none⟩ = some v0 ∧ w.cell? ⟨b, 1, none⟩ = some v1 ∧ w.cell? ⟨b, 2, none⟩ = some v2 ∧ w.cell? ⟨b, 3, none⟩ = some v3 ∧ w.cell? ⟨b, 4, none⟩ = some v4 ∧ w.cell? ⟨b, 5, none⟩ = some v5 := by
  refine ⟨?_, ?_, ?_, ?_, ?_, ?_⟩ <;> simp [World.cell?, h]
theorem blk_keep {w w' : World} {b : Nat} {o : Obj} (h : w.heap[b]? = some o) (hb : Below w.heap.size w w') : w'.heap[b]? = some o := blk_below h hb (lt_of_block h)
theorem run_eql_epoch {a b : Int × Int} (h : ¬ a.1 = b.1 ∨ (a.1 = b.1 ∧ ¬ a.2 = b.2)) : ∀ W, (binOp .eql 25 (.agg #[.int .i64 a.1, .int .i64 a.2]) (.agg #[.int .i64 b.1, .int .i64 b.2])).run Try.prog W = .ok (.bool false) W := by
  intro W
  rcases h with h | ⟨h1, h2⟩
  · go_simp
  · rw [h1]
    go_simp
/-- What a round of asking, of hearing leaves. -/
def Fits (a b r1 r2 : Int) (rb : Bool) (re : Int) (hh : Bool) : Prop := ¬ re = 0 ∨ (re = 0 ∧ ∃ o, ordS (r1, r2) (a, b) = o ∧ 0 ≤ o ∧ (hh = true ∨ rb = decide (0 < o)))
theorem ask_fits {n l s a b c d : Int} {f : Bool} {q1 q2 : Int} {qf qb : Bool} {qe : Int} (h : askR n l s ((a, b), f) (c, d) = (((q1, q2), qf), qb, qe)) : Fits a b q1 q2 qb qe false := by
  rcases ask_cases n l s ((a, b), f) (c, d) with ⟨r, h'⟩ | h' | ⟨h', ho⟩
  all_goals
    rw [h] at h'
    simp only [Prod.mk.injEq] at h'
  · exact .inl (by omega)
  · obtain ⟨⟨⟨rfl, rfl⟩, rfl⟩, rfl, rfl⟩ := h'
    exact .inr ⟨rfl, 0, ordS_self _, by omega, .inr rfl⟩
  · obtain ⟨⟨⟨rfl, rfl⟩, rfl⟩, rfl, rfl⟩ := h'
    exact .inr ⟨rfl, 1, ho, by omega, .inr rfl⟩
theorem numq_any (n : Int) (w : World) :
    Calls Try.prog 10 #[.int .i64 n] w fun e w' => e = .returned (.int .i64 n) ∧ w' = w := (num_any n w).mono fun _ _ ⟨h, h'⟩ => ⟨h, h'.symm⟩
theorem tch_past {A B : Nat} {V W W' : World} (h : Tch A none V W) (h' : Tch B none W W') (hB : V.heap.size ≤ B) : Tch A none V W' :=
  ⟨Nat.le_trans h.1 h'.1, fun b hb h1 h2 => (h'.2 b (Nat.lt_of_lt_of_le hb h.1) (by omega) (by simp)).trans (h.2 b hb h1 h2)⟩
/-- What a round keeps: block P holds a promise. V: the world at the loop's head. -/
def RelP (w V : World) (P : Nat) (wr : World) : Prop :=
  ∃ (a b : Int) (f : Bool), wr.heap[P]? = some (.cells #[.int .i64 a, .int .i64 b, .bool f] 27 (0, 0)) ∧ Below w.heap.size w wr ∧ Tch P none V wr

end Go.Proofs.Ytnkkfkbchijfnaa
