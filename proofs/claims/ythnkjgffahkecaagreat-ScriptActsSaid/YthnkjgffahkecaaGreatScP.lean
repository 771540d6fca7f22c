/- Acts, by the symbolic run: the reference's reader. -/
import Derived.Test.YthnkjgffahkecaaGreatScO
namespace Go.Proofs.YthnkjgffahkecaaGreat
open Go.RowKit Go.Shelf

/-- A slice x[i:]. -/
theorem yd_sliceL {X : Fx} {o : Oper} {T : TE} {L : LE} {F : List Fact} {t : TypeId} {x y : Operand} {a : Option Addr} {m cap i sz e : Nat} {ki : IntKind} {z : Int} (hz : z = (i : Int)) (hi : i ≤ m) (ho : o.op = .slice t x (some y) none none) (he : alook X.tab.el t = some (e, sz)) (hx : evS T x = some (.o (.v (.slice a m cap)))) (hy : evS T y = some (.o (.v (.int ki z)))) :
    Yd X o T L F (.o (.v (.slice (if cap = i then a else a.map (·.add (i * sz))) (m - i) (cap - i)))) := by
  subst hz
  refine ⟨by simp [noDef, ho], fun A ρ a' w h0 => ?_⟩
  obtain ⟨h1, i', h2, h3⟩ := tyE_spec (X.ok.el _ _ he)
  have h4 := elem_of h1
  have h5 : X.P.elem t = e := by unfold Program.elem; rw [h1]
  have e1 := h0.ev hx
  have e2 := h0.ev hy
  simp only [TV.den, SV.den] at e1 e2
  simp only at h2 h3
  have hs : (sizeOf (X.P.elem t)).run X.P w = .ok sz w := by rw [h5]; simp [sizeOf, typeInfo, h2, h3]
  simp only [execOp, ho, Option.map_none, Option.map_some, e1, e2, Sem.run_bind, run_sliceAt_slice (h := h4), run_slice_l (ht := h4) (h0 := Int.natCast_nonneg i) (h1 := Int.ofNat_le.2 hi), hs, Result.andThen_ok, Sem.run_pure, TV.den, SV.den]
  simp [sliced]
theorem slF_tail {α : Type} {enc : α → List Value} {k : Nat} {a : Option Addr} {m cap : Nat} {x : α} {xs : List α} {A : Nat → Prop} {w : World} (h : (slF enc k (.slice a m cap) (x :: xs)).h A w) : (slF enc k (.slice (if cap = 1 then a else a.map (·.add (1 * k))) (m - 1) (cap - 1)) xs).h A w := by
  obtain ⟨a', c', h1, h2, h3⟩ := h
  cases h1
  rcases h3 with h3 | ⟨b, off, rfl, h5, h6⟩
  · cases h3
  have hl : (x :: xs).length = xs.length + 1 := rfl
  refine ⟨_, cap - 1, by rw [hl]; rfl, ⟨by omega, fun e => ?_⟩, ?_⟩
  · split at e
    · cases e
    · cases e
  · by_cases hc : cap = 1
    · refine .inl ?_
      cases xs with
      | nil => rfl
      | cons y ys => simp at h2; omega
    · rw [if_neg hc]
      refine .inr ⟨b, off + k, by simp [Addr.add], h5, fun i y hy j u hu => ?_⟩
      have := h6 (i + 1) y (by simpa using hy) j u hu
      rw [show off + (i + 1) * k + j = off + k + i * k + j by rw [Nat.add_mul]; omega] at this
      exact this
/-- The reader: what is left; whether it gave up. -/
def nextX (m : Int) (r : List Int × Bool) : (List Int × Bool) × Int := match r with
  | (_, true) => (([], true), 0)
  | ([], false) => (([], true), 0)
  | (b :: bs, false) => ((bs, false), b.tmod m)
def rdL (a : Option Addr) (cap : Nat) (r : List Int × Bool) : List Value := [.slice a r.1.length cap, .bool r.2]
def rdR {α : Type} (f : α → List Value) (x : (List Int × Bool) × α) (g : List Value → Value) : OutT := fun e _ F1 => ∃ a c, e = .returned (.tuple #[.agg (rdL a c x.1).toArray, g (f x.2)]) ∧ F1 = [slF byE 1 (.slice a x.1.1.length c) x.1.1]
def nextO (x : (List Int × Bool) × Int) : OutT := fun e _ F1 => ∃ a c, e = .returned (.tuple #[.agg (rdL a c x.1).toArray, .int .i64 x.2]) ∧ F1 = [slF byE 1 (.slice a x.1.1.length c) x.1.1]
theorem next_bytes {m : Int} {r : List Int × Bool} (h : ∀ b ∈ r.1, 0 ≤ b ∧ b ≤ 255) : ∀ b ∈ (nextX m r).1.1, 0 ≤ b ∧ b ≤ 255 := by
  obtain ⟨bs, bd⟩ := r
  cases bd
  · cases bs with
    | nil => intro b hb; simp [nextX] at hb
    | cons b0 bs => intro b hb; exact h b (List.mem_cons_of_mem _ hb)
  · intro b hb; cases bs <;> simp [nextX] at hb
theorem next_len {m : Int} {r : List Int × Bool} {z : Nat} (h : r.1.length ≤ z) : (nextX m r).1.1.length ≤ z := by
  obtain ⟨bs, bd⟩ := r
  cases bd
  · cases bs with
    | nil => simp [nextX]
    | cons b0 bs => simp [nextX] at h ⊢; omega
  · cases bs <;> simp [nextX]
theorem next_val {m : Int} {r : List Int × Bool} (hm : 0 < m) (h : ∀ b ∈ r.1, 0 ≤ b ∧ b ≤ 255) : 0 ≤ (nextX m r).2 ∧ (nextX m r).2 < m := by
  obtain ⟨bs, bd⟩ := r
  cases bd
  · cases bs with
    | nil => exact ⟨by simp [nextX], hm⟩
    | cons b0 bs => have := h b0 (List.mem_cons_self ..); exact ⟨Int.tmod_nonneg _ this.1, Int.tmod_lt_of_pos _ hm⟩
  · cases bs <;> exact ⟨by simp [nextX], hm⟩
set_option maxHeartbeats 1000000 in
theorem refNext_c (a : Option Addr) (cap : Nat) (r : List Int × Bool) (m : Int) (hm : 0 < m) (hm2 : m ≤ 256) (h1 : r.1.length ≤ 1000000) (hb : ∀ b ∈ r.1, 0 ≤ b ∧ b ≤ 255) :
    Cm Tryz.prog 46 [.agg (rdL a cap r).toArray, .int .i64 m] [] [slF byE 1 (.slice a r.1.length cap) r.1] (nextO (nextX m r)) := by
  obtain ⟨bs, bd⟩ := r
  simp only at h1 hb
  refine cm_of (tab := tb) (ok := tbOk) [.g [.v (.slice a bs.length cap), .v (.bool bd)], .o (.v (.int .i64 m))] Tryz.func46 Tryz.ntmps46 rfl rfl (fun _ _ => rfl) ?_
  intro w0 A0
  cases bd
  rotate_left
  · have e : nextX m (bs, true) = (([], true), 0) := by cases bs <;> rfl
    rw [e]
    refine endR_facts [slF byE 1 (.slice none 0 0) []] (fun A w _ f hf => by cases List.mem_singleton.1 hf; exact slF_nilE) ?_
    exact endR_ok [slF byE 1 (.slice none 0 0) []] rfl rfl ⟨rfl, rfl⟩ rfl (fun _ => ⟨none, 0, rfl, rfl⟩) (by simp)
  cases bs with
  | nil =>
    refine endR_facts [slF byE 1 (.slice none 0 0) []] (fun A w _ f hf => by cases List.mem_singleton.1 hf; exact slF_nilE) ?_
    exact endR_ok [slF byE 1 (.slice none 0 0) []] rfl rfl ⟨rfl, rfl⟩ rfl (fun _ => ⟨none, 0, rfl, rfl⟩) (by simp)
  | cons b bs =>
  have hbx := hb b (List.mem_cons_self ..)
  simp only [List.length_cons] at h1
  have hx : (b :: bs)[0]? = some b := rfl
  refine cjs_fact (slF byE 1 (.slice a (b :: bs).length cap) (b :: bs)) (by simp) (slF_neE hx) ?_
  rintro ⟨ba, off, rfl⟩
  have tl : ∀ A w, (∀ f ∈ [slF byE 1 (.slice (some ⟨ba, off, none⟩) (b :: bs).length cap) (b :: bs)], f.h A w) → ∀ f ∈ [slF byE 1 (.slice (some ⟨ba, off, none⟩) (b :: bs).length cap) (b :: bs), slF byE 1 (.slice (if cap = 1 then some ⟨ba, off, none⟩ else (some ⟨ba, off, none⟩ : Option Addr).map (·.add (1 * 1))) ((b :: bs).length - 1) (cap - 1)) bs], f.h A w := fun A w h f hf => by
    have h0 := h _ (List.mem_singleton.2 rfl)
    rcases List.mem_cons.1 hf with rfl | hf
    · exact h0
    · cases List.mem_singleton.1 hf
      exact slF_tail h0
  refine cjs_drawn [11] (.op 0 <| .op 1 <| .op 4 <| .op 5 <| .op 6 <| .op 7 <| .op 9 <| .op 2 <| .op 3 <| .op 8 <| .op 10 <| .op 11 <| .op 12 .z) [0] [] [] [slF byE 1 (.slice (some ⟨ba, off, none⟩) (b :: bs).length cap) (b :: bs)] (by kernel_rfl) (by kernel_rfl) rfl (by simp) (by simp) ?_
  intro N
  refine ⟨_, yd_index (i := 0) (m := (b :: bs).length) rfl (Nat.succ_pos _) rfl rfl rfl rfl, ?_⟩
  refine ⟨_, yd_load1 (slF byE 1 (.slice (some ⟨ba, off, none⟩) (b :: bs).length cap) (b :: bs)) (by simp) (slF_at hx (j := 0) rfl) rfl rfl rfl, ?_⟩
  refine ⟨_, yd_sliceL (i := 1) (m := (b :: bs).length) rfl (Nat.succ_le_succ (Nat.zero_le _)) rfl rfl rfl rfl, ?_⟩
  refine ⟨_, yd_build rfl rfl rfl rfl, ?_⟩
  refine ⟨_, yd_conv (r := b) (by kernel_rfl) (by kernel_rfl) (by rw [wrap_in] <;> omega) rfl rfl, ?_⟩
  refine ⟨_, yd_div (r := b.tmod m) (by omega) (by have := Int.tmod_nonneg m hbx.1; omega) (by have := Int.tmod_lt_of_pos b hm; omega) rfl rfl rfl rfl, ?_⟩
  refine ⟨⟨(by repeat' (first | exact trivial | refine ⟨Or.inl rfl, ?_⟩ | refine ⟨Or.inr ⟨rfl, Nat.le_of_ble_eq_true rfl, _, rfl, rfl, rfl⟩, ?_⟩)), by simp⟩, ?_⟩
  refine endR_facts _ tl ?_
  exact endR_ok [slF byE 1 (.slice (if cap = 1 then some ⟨ba, off, none⟩ else (some ⟨ba, off, none⟩ : Option Addr).map (·.add (1 * 1))) ((b :: bs).length - 1) (cap - 1)) bs] rfl rfl ⟨rfl, rfl⟩ rfl (fun _ => ⟨_, _, rfl, rfl⟩) (by simp)

end Go.Proofs.YthnkjgffahkecaaGreat
