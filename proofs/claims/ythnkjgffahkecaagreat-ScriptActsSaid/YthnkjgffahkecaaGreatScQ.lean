/- Acts, by the symbolic run: the reference's reader, asks and acts. -/
import Derived.Test.YthnkjgffahkecaaGreatScP
namespace Go.Proofs.YthnkjgffahkecaaGreat
open Go.RowKit Go.Shelf

abbrev Rd := List Int × Bool
def refAskX (l s : Int) (r : Rd) : Rd × Ask :=
  let p0 := nextX 7 r
  let p1 := nextX l p0.1
  if p0.2 < 2 then
    let p2 := nextX 5 p1.1
    let p3 := nextX 4 p2.1
    if p0.2 = 0 then
      let p4 := nextX 256 p3.1
      (p4.1, ⟨p0.2 + 1, p1.2, p2.2 + 1, p3.2, p4.2, 0, 0, 0⟩)
    else (p3.1, ⟨p0.2 + 1, p1.2, p2.2 + 1, p3.2, 0, 0, 0, 0⟩)
  else
    let p2 := nextX s p1.1
    let p3 := nextX 256 p2.1
    if p0.2 = 6 then
      let p4 := nextX 256 p3.1
      (p4.1, ⟨p0.2 + 1, p1.2, 0, 0, 0, p2.2, p3.2 + 1, if 128 ≤ p4.2 then p4.2 - 127 else p4.2 - 128⟩)
    else (p3.1, ⟨p0.2 + 1, p1.2, 0, 0, 0, p2.2, p3.2 + 1, 0⟩)
def askO (x : Rd × Ask) : OutT := fun e _ F1 => ∃ a c, e = .returned (.tuple #[.agg (rdL a c x.1).toArray, .agg (askL x.2).toArray]) ∧ F1 = [slF byE 1 (.slice a x.1.1.length c) x.1.1]
set_option maxHeartbeats 4000000 in
theorem refReadAsk_c (n l s : Int) (a0 : Option Addr) (c0 : Nat) (r0 : Rd) (hs : 1 ≤ n ∧ n ≤ 64 ∧ 1 ≤ l ∧ l ≤ 8 ∧ 1 ≤ s ∧ s ≤ 4) (hl0 : r0.1.length ≤ 1000000) (hb0 : ∀ b ∈ r0.1, 0 ≤ b ∧ b ≤ 255) :
    Cm Tryz.prog 47 [.agg (rdL a0 c0 r0).toArray, .agg (shL n l s).toArray] [] [slF byE 1 (.slice a0 r0.1.length c0) r0.1] (askO (refAskX l s r0)) := by
  refine cm_of (tab := tb) (ok := tbOk) [.g [.v (.slice a0 r0.1.length c0), .v (.bool r0.2)], .g [.v (.int .i64 n), .v (.int .i64 l), .v (.int .i64 s)]] Tryz.func47 Tryz.ntmps47 rfl rfl (fun _ _ => rfl) ?_
  intro w0 A0
  obtain ⟨⟨r1, z1⟩, hp1⟩ : ∃ p, p = nextX 7 r0 := ⟨_, rfl⟩
  have hc1 := refNext_c a0 c0 r0 7 (by omega) (by omega) hl0 hb0
  have hb1 : ∀ b ∈ r1.1, 0 ≤ b ∧ b ≤ 255 := by have := next_bytes (m := 7) hb0; rw [← hp1] at this; exact this
  have hl1 : r1.1.length ≤ 1000000 := by have := next_len (m := 7) hl0; rw [← hp1] at this; exact this
  have hv1 : 0 ≤ z1 ∧ z1 < 7 := by have := next_val (m := 7) (by omega) hb0; rw [← hp1] at this; exact this
  rw [← hp1] at hc1
  refine ojs_call [] [] rfl rfl rfl rfl rfl rfl rfl (by simp) (fun _ => hc1) (by simp) (.inl rfl) ?_
  rintro e cs F1 _ ⟨a1, c1, rfl, rfl⟩
  refine ojs_arith (z := z1 + 1) (by rw [wrap_in] <;> omega) rfl rfl rfl rfl ?_
  obtain ⟨⟨r2, z2⟩, hp2⟩ : ∃ p, p = nextX l r1 := ⟨_, rfl⟩
  have hc2 := refNext_c a1 c1 r1 l (by omega) (by omega) hl1 hb1
  have hb2 : ∀ b ∈ r2.1, 0 ≤ b ∧ b ≤ 255 := by have := next_bytes (m := l) hb1; rw [← hp2] at this; exact this
  have hl2 : r2.1.length ≤ 1000000 := by have := next_len (m := l) hl1; rw [← hp2] at this; exact this
  have hv2 : 0 ≤ z2 ∧ z2 < l := by have := next_val (m := l) (by omega) hb1; rw [← hp2] at this; exact this
  rw [← hp2] at hc2
  refine ojs_call [] [] rfl rfl rfl rfl rfl rfl rfl (by simp) (fun _ => hc2) (by simp) (.inl rfl) ?_
  rintro e cs F1 _ ⟨a2, c2, rfl, rfl⟩
  refine brB_dec (fun g1 => ?_) (fun g1 => ?_)
  · obtain ⟨⟨r3, z3⟩, hp3⟩ : ∃ p, p = nextX 5 r2 := ⟨_, rfl⟩
    have hc3 := refNext_c a2 c2 r2 5 (by omega) (by omega) hl2 hb2
    have hb3 : ∀ b ∈ r3.1, 0 ≤ b ∧ b ≤ 255 := by have := next_bytes (m := 5) hb2; rw [← hp3] at this; exact this
    have hl3 : r3.1.length ≤ 1000000 := by have := next_len (m := 5) hl2; rw [← hp3] at this; exact this
    have hv3 : 0 ≤ z3 ∧ z3 < 5 := by have := next_val (m := 5) (by omega) hb2; rw [← hp3] at this; exact this
    rw [← hp3] at hc3
    refine ojs_call [] [] rfl rfl rfl rfl rfl rfl rfl (by simp) (fun _ => hc3) (by simp) (.inl rfl) ?_
    rintro e cs F1 _ ⟨a3, c3, rfl, rfl⟩
    refine ojs_arith (z := z3 + 1) (by rw [wrap_in] <;> omega) rfl rfl rfl rfl ?_
    obtain ⟨⟨r4, z4⟩, hp4⟩ : ∃ p, p = nextX 4 r3 := ⟨_, rfl⟩
    have hc4 := refNext_c a3 c3 r3 4 (by omega) (by omega) hl3 hb3
    have hb4 : ∀ b ∈ r4.1, 0 ≤ b ∧ b ≤ 255 := by have := next_bytes (m := 4) hb3; rw [← hp4] at this; exact this
    have hl4 : r4.1.length ≤ 1000000 := by have := next_len (m := 4) hl3; rw [← hp4] at this; exact this
    have hv4 : 0 ≤ z4 ∧ z4 < 4 := by have := next_val (m := 4) (by omega) hb3; rw [← hp4] at this; exact this
    rw [← hp4] at hc4
    refine ojs_call [] [] rfl rfl rfl rfl rfl rfl rfl (by simp) (fun _ => hc4) (by simp) (.inl rfl) ?_
    rintro e cs F1 _ ⟨a4, c4, rfl, rfl⟩
    refine brB_split (fun g2 => ?_) (fun g2 => ?_)
    · simp only [beq_iff_eq] at g2
      obtain ⟨⟨r5, z5⟩, hp5⟩ : ∃ p, p = nextX 256 r4 := ⟨_, rfl⟩
      have hc5 := refNext_c a4 c4 r4 256 (by omega) (by omega) hl4 hb4
      have hb5 : ∀ b ∈ r5.1, 0 ≤ b ∧ b ≤ 255 := by have := next_bytes (m := 256) hb4; rw [← hp5] at this; exact this
      have hl5 : r5.1.length ≤ 1000000 := by have := next_len (m := 256) hl4; rw [← hp5] at this; exact this
      have hv5 : 0 ≤ z5 ∧ z5 < 256 := by have := next_val (m := 256) (by omega) hb4; rw [← hp5] at this; exact this
      rw [← hp5] at hc5
      refine ojs_call [] [] rfl rfl rfl rfl rfl rfl rfl (by simp) (fun _ => hc5) (by simp) (.inl rfl) ?_
      rintro e cs F1 _ ⟨a5, c5, rfl, rfl⟩
      refine cjs_drawn [2, 3] (.op 0 <| .op 1 <| .op 2 <| .op 3 .z) [0, 4] [] [] [] (by kernel_rfl) (by kernel_rfl) rfl (by simp) (by simp) ?_
      intro N
      refine ⟨⟨(by repeat' (first | exact trivial | refine ⟨Or.inl rfl, ?_⟩ | refine ⟨Or.inr ⟨rfl, Nat.le_of_ble_eq_true rfl, _, rfl, rfl, rfl⟩, ?_⟩)), by simp⟩, ?_⟩
      refine ⟨⟨(by repeat' (first | exact trivial | refine ⟨Or.inl rfl, ?_⟩ | refine ⟨Or.inr ⟨rfl, Nat.le_of_ble_eq_true rfl, _, rfl, rfl, rfl⟩, ?_⟩)), by simp⟩, ?_⟩
      have hX : refAskX l s r0 = (r5, ⟨z1 + 1, z2, z3 + 1, z4, z5, 0, 0, 0⟩) := by
        simp only [refAskX, ← hp1, ← hp2, ← hp3, ← hp4, ← hp5, if_pos g1, if_pos g2]
      rw [hX]
      exact endR_ok [slF byE 1 (.slice a5 r5.1.length c5) r5.1] rfl rfl ⟨rfl, rfl⟩ rfl (fun _ => ⟨a5, c5, rfl, rfl⟩) (by simp)
    · simp only [beq_eq_false_iff_ne, ne_eq] at g2
      refine cjs_drawn [2, 3] (.op 0 <| .op 1 <| .op 2 <| .op 3 .z) [0, 4] [] [] [] (by kernel_rfl) (by kernel_rfl) rfl (by simp) (by simp) ?_
      intro N
      refine ⟨⟨(by repeat' (first | exact trivial | refine ⟨Or.inl rfl, ?_⟩ | refine ⟨Or.inr ⟨rfl, Nat.le_of_ble_eq_true rfl, _, rfl, rfl, rfl⟩, ?_⟩)), by simp⟩, ?_⟩
      refine ⟨⟨(by repeat' (first | exact trivial | refine ⟨Or.inl rfl, ?_⟩ | refine ⟨Or.inr ⟨rfl, Nat.le_of_ble_eq_true rfl, _, rfl, rfl, rfl⟩, ?_⟩)), by simp⟩, ?_⟩
      have hX : refAskX l s r0 = (r4, ⟨z1 + 1, z2, z3 + 1, z4, 0, 0, 0, 0⟩) := by
        simp only [refAskX, ← hp1, ← hp2, ← hp3, ← hp4, if_pos g1, if_neg g2]
      rw [hX]
      exact endR_ok [slF byE 1 (.slice a4 r4.1.length c4) r4.1] rfl rfl ⟨rfl, rfl⟩ rfl (fun _ => ⟨a4, c4, rfl, rfl⟩) (by simp)
  · obtain ⟨⟨r3, z3⟩, hp3⟩ : ∃ p, p = nextX s r2 := ⟨_, rfl⟩
    have hc3 := refNext_c a2 c2 r2 s (by omega) (by omega) hl2 hb2
    have hb3 : ∀ b ∈ r3.1, 0 ≤ b ∧ b ≤ 255 := by have := next_bytes (m := s) hb2; rw [← hp3] at this; exact this
    have hl3 : r3.1.length ≤ 1000000 := by have := next_len (m := s) hl2; rw [← hp3] at this; exact this
    have hv3 : 0 ≤ z3 ∧ z3 < s := by have := next_val (m := s) (by omega) hb2; rw [← hp3] at this; exact this
    rw [← hp3] at hc3
    refine ojs_call [] [] rfl rfl rfl rfl rfl rfl rfl (by simp) (fun _ => hc3) (by simp) (.inl rfl) ?_
    rintro e cs F1 _ ⟨a3, c3, rfl, rfl⟩
    obtain ⟨⟨r4, z4⟩, hp4⟩ : ∃ p, p = nextX 256 r3 := ⟨_, rfl⟩
    have hc4 := refNext_c a3 c3 r3 256 (by omega) (by omega) hl3 hb3
    have hb4 : ∀ b ∈ r4.1, 0 ≤ b ∧ b ≤ 255 := by have := next_bytes (m := 256) hb3; rw [← hp4] at this; exact this
    have hl4 : r4.1.length ≤ 1000000 := by have := next_len (m := 256) hl3; rw [← hp4] at this; exact this
    have hv4 : 0 ≤ z4 ∧ z4 < 256 := by have := next_val (m := 256) (by omega) hb3; rw [← hp4] at this; exact this
    rw [← hp4] at hc4
    refine ojs_call [] [] rfl rfl rfl rfl rfl rfl rfl (by simp) (fun _ => hc4) (by simp) (.inl rfl) ?_
    rintro e cs F1 _ ⟨a4, c4, rfl, rfl⟩
    refine ojs_arith (z := z4 + 1) (by rw [wrap_in] <;> omega) rfl rfl rfl rfl ?_
    refine brB_split (fun g2 => ?_) (fun g2 => ?_)
    · simp only [beq_iff_eq] at g2
      obtain ⟨⟨r5, z5⟩, hp5⟩ : ∃ p, p = nextX 256 r4 := ⟨_, rfl⟩
      have hc5 := refNext_c a4 c4 r4 256 (by omega) (by omega) hl4 hb4
      have hb5 : ∀ b ∈ r5.1, 0 ≤ b ∧ b ≤ 255 := by have := next_bytes (m := 256) hb4; rw [← hp5] at this; exact this
      have hl5 : r5.1.length ≤ 1000000 := by have := next_len (m := 256) hl4; rw [← hp5] at this; exact this
      have hv5 : 0 ≤ z5 ∧ z5 < 256 := by have := next_val (m := 256) (by omega) hb4; rw [← hp5] at this; exact this
      rw [← hp5] at hc5
      refine ojs_call [] [] rfl rfl rfl rfl rfl rfl rfl (by simp) (fun _ => hc5) (by simp) (.inl rfl) ?_
      rintro e cs F1 _ ⟨a5, c5, rfl, rfl⟩
      refine ojs_arith (z := z5 - 128) (by rw [wrap_in] <;> omega) rfl rfl rfl rfl ?_
      refine brB_dec (fun g3 => ?_) (fun g3 => ?_)
      · refine ojs_arith (z := z5 - 127) (by rw [wrap_in] <;> omega) rfl rfl rfl rfl ?_
        refine cjs_drawn [2, 3] (.op 0 <| .op 1 <| .op 2 <| .op 3 .z) [0, 4] [] [] [] (by kernel_rfl) (by kernel_rfl) rfl (by simp) (by simp) ?_
        intro N
        refine ⟨⟨(by repeat' (first | exact trivial | refine ⟨Or.inl rfl, ?_⟩ | refine ⟨Or.inr ⟨rfl, Nat.le_of_ble_eq_true rfl, _, rfl, rfl, rfl⟩, ?_⟩)), by simp⟩, ?_⟩
        refine ⟨⟨(by repeat' (first | exact trivial | refine ⟨Or.inl rfl, ?_⟩ | refine ⟨Or.inr ⟨rfl, Nat.le_of_ble_eq_true rfl, _, rfl, rfl, rfl⟩, ?_⟩)), by simp⟩, ?_⟩
        have hX : refAskX l s r0 = (r5, ⟨z1 + 1, z2, 0, 0, 0, z3, z4 + 1, z5 - 127⟩) := by
          simp only [refAskX, ← hp1, ← hp2, ← hp3, ← hp4, ← hp5, if_neg g1, if_pos g2, if_pos g3]
        rw [hX]
        exact endR_ok [slF byE 1 (.slice a5 r5.1.length c5) r5.1] rfl rfl ⟨rfl, rfl⟩ rfl (fun _ => ⟨a5, c5, rfl, rfl⟩) (by simp)
      · refine cjs_drawn [2, 3] (.op 0 <| .op 1 <| .op 2 <| .op 3 .z) [0, 4] [] [] [] (by kernel_rfl) (by kernel_rfl) rfl (by simp) (by simp) ?_
        intro N
        refine ⟨⟨(by repeat' (first | exact trivial | refine ⟨Or.inl rfl, ?_⟩ | refine ⟨Or.inr ⟨rfl, Nat.le_of_ble_eq_true rfl, _, rfl, rfl, rfl⟩, ?_⟩)), by simp⟩, ?_⟩
        refine ⟨⟨(by repeat' (first | exact trivial | refine ⟨Or.inl rfl, ?_⟩ | refine ⟨Or.inr ⟨rfl, Nat.le_of_ble_eq_true rfl, _, rfl, rfl, rfl⟩, ?_⟩)), by simp⟩, ?_⟩
        have hX : refAskX l s r0 = (r5, ⟨z1 + 1, z2, 0, 0, 0, z3, z4 + 1, z5 - 128⟩) := by
          simp only [refAskX, ← hp1, ← hp2, ← hp3, ← hp4, ← hp5, if_neg g1, if_pos g2, if_neg g3]
        rw [hX]
        exact endR_ok [slF byE 1 (.slice a5 r5.1.length c5) r5.1] rfl rfl ⟨rfl, rfl⟩ rfl (fun _ => ⟨a5, c5, rfl, rfl⟩) (by simp)
    · simp only [beq_eq_false_iff_ne, ne_eq] at g2
      refine cjs_drawn [2, 3] (.op 0 <| .op 1 <| .op 2 <| .op 3 .z) [0, 4] [] [] [] (by kernel_rfl) (by kernel_rfl) rfl (by simp) (by simp) ?_
      intro N
      refine ⟨⟨(by repeat' (first | exact trivial | refine ⟨Or.inl rfl, ?_⟩ | refine ⟨Or.inr ⟨rfl, Nat.le_of_ble_eq_true rfl, _, rfl, rfl, rfl⟩, ?_⟩)), by simp⟩, ?_⟩
      refine ⟨⟨(by repeat' (first | exact trivial | refine ⟨Or.inl rfl, ?_⟩ | refine ⟨Or.inr ⟨rfl, Nat.le_of_ble_eq_true rfl, _, rfl, rfl, rfl⟩, ?_⟩)), by simp⟩, ?_⟩
      have hX : refAskX l s r0 = (r4, ⟨z1 + 1, z2, 0, 0, 0, z3, z4 + 1, 0⟩) := by
        simp only [refAskX, ← hp1, ← hp2, ← hp3, ← hp4, if_neg g1, if_neg g2]
      rw [hX]
      exact endR_ok [slF byE 1 (.slice a4 r4.1.length c4) r4.1] rfl rfl ⟨rfl, rfl⟩ rfl (fun _ => ⟨a4, c4, rfl, rfl⟩) (by simp)

end Go.Proofs.YthnkjgffahkecaaGreat
