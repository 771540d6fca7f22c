/- Acts, by the symbolic run: the reference's reader, acts. -/
import Derived.Test.YthnkjgffahkecaaGreatScQ
namespace Go.Proofs.YthnkjgffahkecaaGreat
open Go.RowKit Go.Shelf

def refActX (n l s : Int) (r : Rd) : Rd × Ac :=
  let p0 := nextX 8 r
  if 2 ≤ p0.2 ∧ p0.2 ≤ 4 then
    let p1 := nextX 256 p0.1
    (p1.1, ⟨p0.2 + 1, 0, p1.2, 0, ask0 0, 0, 0⟩)
  else
    let p1 := nextX n p0.1
    if p0.2 = 0 then
      let q := refAskX l s p1.1
      (q.1, ⟨p0.2 + 1, p1.2, 0, 0, q.2, 0, 0⟩)
    else if p0.2 = 5 then
      let p2 := nextX 256 p1.1
      (p2.1, ⟨p0.2 + 1, p1.2, 0, p2.2, ask0 0, 0, 0⟩)
    else if p0.2 = 6 then
      let p2 := nextX 256 p1.1
      let p3 := nextX 256 p2.1
      (p3.1, ⟨p0.2 + 1, p1.2, 0, 0, ask0 0, p2.2, p3.2⟩)
    else (p1.1, ⟨p0.2 + 1, p1.2, 0, 0, ask0 0, 0, 0⟩)
def actO (x : Rd × Ac) : OutT := fun e _ F1 => ∃ a c, e = .returned (.tuple #[.agg (rdL a c x.1).toArray, .agg (actL x.2).toArray]) ∧ F1 = [slF byE 1 (.slice a x.1.1.length c) x.1.1]
set_option maxHeartbeats 4000000 in
theorem refReadAct_c (n l s : Int) (a0 : Option Addr) (c0 : Nat) (r0 : Rd) (hs : 1 ≤ n ∧ n ≤ 64 ∧ 1 ≤ l ∧ l ≤ 8 ∧ 1 ≤ s ∧ s ≤ 4) (hl0 : r0.1.length ≤ 1000000) (hb0 : ∀ b ∈ r0.1, 0 ≤ b ∧ b ≤ 255) :
    Cm Tryz.prog 22 [.agg (rdL a0 c0 r0).toArray, .agg (shL n l s).toArray] [] [slF byE 1 (.slice a0 r0.1.length c0) r0.1] (actO (refActX n l s r0)) := by
  refine cm_of (tab := tb) (ok := tbOk) [.g [.v (.slice a0 r0.1.length c0), .v (.bool r0.2)], .g [.v (.int .i64 n), .v (.int .i64 l), .v (.int .i64 s)]] Tryz.func22 Tryz.ntmps22 rfl rfl (fun _ _ => rfl) ?_
  intro w0 A0
  obtain ⟨⟨r1, z1⟩, hp1⟩ : ∃ p, p = nextX 8 r0 := ⟨_, rfl⟩
  have hc1 := refNext_c a0 c0 r0 8 (by omega) (by omega) hl0 hb0
  have hb1 : ∀ b ∈ r1.1, 0 ≤ b ∧ b ≤ 255 := by have := next_bytes (m := 8) hb0; rw [← hp1] at this; exact this
  have hl1 : r1.1.length ≤ 1000000 := by have := next_len (m := 8) hl0; rw [← hp1] at this; exact this
  have hv1 : 0 ≤ z1 ∧ z1 < 8 := by have := next_val (m := 8) (by omega) hb0; rw [← hp1] at this; exact this
  rw [← hp1] at hc1
  refine ojs_call [] [] rfl rfl rfl rfl rfl rfl rfl (by simp) (fun _ => hc1) (by simp) (.inl rfl) ?_
  rintro e cs F1 _ ⟨a1, c1, rfl, rfl⟩
  have hz : z1 = 0 ∨ z1 = 1 ∨ z1 = 2 ∨ z1 = 3 ∨ z1 = 4 ∨ z1 = 5 ∨ z1 = 6 ∨ z1 = 7 := by omega
  rcases hz with rfl | rfl | rfl | rfl | rfl | rfl | rfl | rfl
  · refine ojs_arith (z := 1) (by rfl) rfl rfl rfl rfl ?_
    obtain ⟨⟨r2, z2⟩, hp2⟩ : ∃ p, p = nextX n r1 := ⟨_, rfl⟩
    have hc2 := refNext_c a1 c1 r1 n (by omega) (by omega) hl1 hb1
    have hb2 : ∀ b ∈ r2.1, 0 ≤ b ∧ b ≤ 255 := by have := next_bytes (m := n) hb1; rw [← hp2] at this; exact this
    have hl2 : r2.1.length ≤ 1000000 := by have := next_len (m := n) hl1; rw [← hp2] at this; exact this
    have hv2 : 0 ≤ z2 ∧ z2 < n := by have := next_val (m := n) (by omega) hb1; rw [← hp2] at this; exact this
    rw [← hp2] at hc2
    refine ojs_call [] [] rfl rfl rfl rfl rfl rfl rfl (by simp) (fun _ => hc2) (by simp) (.inl rfl) ?_
    rintro e cs F1 _ ⟨a2, c2, rfl, rfl⟩
    obtain ⟨⟨r3, q⟩, hp3⟩ : ∃ p, p = refAskX l s r2 := ⟨_, rfl⟩
    have hc3 := refReadAsk_c n l s a2 c2 r2 hs hl2 hb2
    rw [← hp3] at hc3
    obtain ⟨qk, q1, q2, q3, q4, q5, q6, q7⟩ := q
    refine ojs_call [] [] rfl rfl rfl rfl rfl rfl rfl (by simp) (fun _ => hc3) (by simp) (.inl rfl) ?_
    rintro e cs F1 _ ⟨a3, c3, rfl, rfl⟩
    refine cjs_drawn [2, 3] (.op 0 <| .op 1 <| .op 2 <| .op 3 .z) [0, 4] [] [] [] (by kernel_rfl) (by kernel_rfl) rfl (by simp) (by simp) ?_
    intro N
    refine ⟨⟨(by repeat' (first | exact trivial | refine ⟨Or.inl rfl, ?_⟩ | refine ⟨Or.inr ⟨rfl, Nat.le_of_ble_eq_true rfl, _, rfl, rfl, rfl⟩, ?_⟩)), by simp⟩, ?_⟩
    refine ⟨⟨(by repeat' (first | exact trivial | refine ⟨Or.inl rfl, ?_⟩ | refine ⟨Or.inr ⟨rfl, Nat.le_of_ble_eq_true rfl, _, rfl, rfl, rfl⟩, ?_⟩)), by simp⟩, ?_⟩
    have hX : refActX n l s r0 = (r3, ⟨1, z2, 0, 0, ⟨qk, q1, q2, q3, q4, q5, q6, q7⟩, 0, 0⟩) := by
      simp [refActX, ← hp1, ← hp2, ← hp3]
    rw [hX]
    exact endR_ok [slF byE 1 (.slice a3 r3.1.length c3) r3.1] rfl rfl ⟨rfl, rfl⟩ rfl (fun _ => ⟨a3, c3, rfl, rfl⟩) (by simp)
  · refine ojs_arith (z := 2) (by rfl) rfl rfl rfl rfl ?_
    obtain ⟨⟨r2, z2⟩, hp2⟩ : ∃ p, p = nextX n r1 := ⟨_, rfl⟩
    have hc2 := refNext_c a1 c1 r1 n (by omega) (by omega) hl1 hb1
    have hb2 : ∀ b ∈ r2.1, 0 ≤ b ∧ b ≤ 255 := by have := next_bytes (m := n) hb1; rw [← hp2] at this; exact this
    have hl2 : r2.1.length ≤ 1000000 := by have := next_len (m := n) hl1; rw [← hp2] at this; exact this
    have hv2 : 0 ≤ z2 ∧ z2 < n := by have := next_val (m := n) (by omega) hb1; rw [← hp2] at this; exact this
    rw [← hp2] at hc2
    refine ojs_call [] [] rfl rfl rfl rfl rfl rfl rfl (by simp) (fun _ => hc2) (by simp) (.inl rfl) ?_
    rintro e cs F1 _ ⟨a2, c2, rfl, rfl⟩
    refine cjs_drawn [2, 3] (.op 0 <| .op 1 <| .op 2 <| .op 3 .z) [0, 4] [] [] [] (by kernel_rfl) (by kernel_rfl) rfl (by simp) (by simp) ?_
    intro N
    refine ⟨⟨(by repeat' (first | exact trivial | refine ⟨Or.inl rfl, ?_⟩ | refine ⟨Or.inr ⟨rfl, Nat.le_of_ble_eq_true rfl, _, rfl, rfl, rfl⟩, ?_⟩)), by simp⟩, ?_⟩
    refine ⟨⟨(by repeat' (first | exact trivial | refine ⟨Or.inl rfl, ?_⟩ | refine ⟨Or.inr ⟨rfl, Nat.le_of_ble_eq_true rfl, _, rfl, rfl, rfl⟩, ?_⟩)), by simp⟩, ?_⟩
    have hX : refActX n l s r0 = (r2, ⟨2, z2, 0, 0, ask0 0, 0, 0⟩) := by
      simp [refActX, ← hp1, ← hp2]
    rw [hX]
    exact endR_ok [slF byE 1 (.slice a2 r2.1.length c2) r2.1] rfl rfl ⟨rfl, rfl⟩ rfl (fun _ => ⟨a2, c2, rfl, rfl⟩) (by simp)
  · refine ojs_arith (z := 3) (by rfl) rfl rfl rfl rfl ?_
    obtain ⟨⟨r2, z2⟩, hp2⟩ : ∃ p, p = nextX 256 r1 := ⟨_, rfl⟩
    have hc2 := refNext_c a1 c1 r1 256 (by omega) (by omega) hl1 hb1
    have hb2 : ∀ b ∈ r2.1, 0 ≤ b ∧ b ≤ 255 := by have := next_bytes (m := 256) hb1; rw [← hp2] at this; exact this
    have hl2 : r2.1.length ≤ 1000000 := by have := next_len (m := 256) hl1; rw [← hp2] at this; exact this
    have hv2 : 0 ≤ z2 ∧ z2 < 256 := by have := next_val (m := 256) (by omega) hb1; rw [← hp2] at this; exact this
    rw [← hp2] at hc2
    refine ojs_call [] [] rfl rfl rfl rfl rfl rfl rfl (by simp) (fun _ => hc2) (by simp) (.inl rfl) ?_
    rintro e cs F1 _ ⟨a2, c2, rfl, rfl⟩
    refine cjs_drawn [2, 3] (.op 0 <| .op 1 <| .op 2 <| .op 3 .z) [0, 4] [] [] [] (by kernel_rfl) (by kernel_rfl) rfl (by simp) (by simp) ?_
    intro N
    refine ⟨⟨(by repeat' (first | exact trivial | refine ⟨Or.inl rfl, ?_⟩ | refine ⟨Or.inr ⟨rfl, Nat.le_of_ble_eq_true rfl, _, rfl, rfl, rfl⟩, ?_⟩)), by simp⟩, ?_⟩
    refine ⟨⟨(by repeat' (first | exact trivial | refine ⟨Or.inl rfl, ?_⟩ | refine ⟨Or.inr ⟨rfl, Nat.le_of_ble_eq_true rfl, _, rfl, rfl, rfl⟩, ?_⟩)), by simp⟩, ?_⟩
    have hX : refActX n l s r0 = (r2, ⟨3, 0, z2, 0, ask0 0, 0, 0⟩) := by
      simp [refActX, ← hp1, ← hp2]
    rw [hX]
    exact endR_ok [slF byE 1 (.slice a2 r2.1.length c2) r2.1] rfl rfl ⟨rfl, rfl⟩ rfl (fun _ => ⟨a2, c2, rfl, rfl⟩) (by simp)
  · refine ojs_arith (z := 4) (by rfl) rfl rfl rfl rfl ?_
    obtain ⟨⟨r2, z2⟩, hp2⟩ : ∃ p, p = nextX 256 r1 := ⟨_, rfl⟩
    have hc2 := refNext_c a1 c1 r1 256 (by omega) (by omega) hl1 hb1
    have hb2 : ∀ b ∈ r2.1, 0 ≤ b ∧ b ≤ 255 := by have := next_bytes (m := 256) hb1; rw [← hp2] at this; exact this
    have hl2 : r2.1.length ≤ 1000000 := by have := next_len (m := 256) hl1; rw [← hp2] at this; exact this
    have hv2 : 0 ≤ z2 ∧ z2 < 256 := by have := next_val (m := 256) (by omega) hb1; rw [← hp2] at this; exact this
    rw [← hp2] at hc2
    refine ojs_call [] [] rfl rfl rfl rfl rfl rfl rfl (by simp) (fun _ => hc2) (by simp) (.inl rfl) ?_
    rintro e cs F1 _ ⟨a2, c2, rfl, rfl⟩
    refine cjs_drawn [2, 3] (.op 0 <| .op 1 <| .op 2 <| .op 3 .z) [0, 4] [] [] [] (by kernel_rfl) (by kernel_rfl) rfl (by simp) (by simp) ?_
    intro N
    refine ⟨⟨(by repeat' (first | exact trivial | refine ⟨Or.inl rfl, ?_⟩ | refine ⟨Or.inr ⟨rfl, Nat.le_of_ble_eq_true rfl, _, rfl, rfl, rfl⟩, ?_⟩)), by simp⟩, ?_⟩
    refine ⟨⟨(by repeat' (first | exact trivial | refine ⟨Or.inl rfl, ?_⟩ | refine ⟨Or.inr ⟨rfl, Nat.le_of_ble_eq_true rfl, _, rfl, rfl, rfl⟩, ?_⟩)), by simp⟩, ?_⟩
    have hX : refActX n l s r0 = (r2, ⟨4, 0, z2, 0, ask0 0, 0, 0⟩) := by
      simp [refActX, ← hp1, ← hp2]
    rw [hX]
    exact endR_ok [slF byE 1 (.slice a2 r2.1.length c2) r2.1] rfl rfl ⟨rfl, rfl⟩ rfl (fun _ => ⟨a2, c2, rfl, rfl⟩) (by simp)
  · refine ojs_arith (z := 5) (by rfl) rfl rfl rfl rfl ?_
    obtain ⟨⟨r2, z2⟩, hp2⟩ : ∃ p, p = nextX 256 r1 := ⟨_, rfl⟩
    have hc2 := refNext_c a1 c1 r1 256 (by omega) (by omega) hl1 hb1
    have hb2 : ∀ b ∈ r2.1, 0 ≤ b ∧ b ≤ 255 := by have := next_bytes (m := 256) hb1; rw [← hp2] at this; exact this
    have hl2 : r2.1.length ≤ 1000000 := by have := next_len (m := 256) hl1; rw [← hp2] at this; exact this
    have hv2 : 0 ≤ z2 ∧ z2 < 256 := by have := next_val (m := 256) (by omega) hb1; rw [← hp2] at this; exact this
    rw [← hp2] at hc2
    refine ojs_call [] [] rfl rfl rfl rfl rfl rfl rfl (by simp) (fun _ => hc2) (by simp) (.inl rfl) ?_
    rintro e cs F1 _ ⟨a2, c2, rfl, rfl⟩
    refine cjs_drawn [2, 3] (.op 0 <| .op 1 <| .op 2 <| .op 3 .z) [0, 4] [] [] [] (by kernel_rfl) (by kernel_rfl) rfl (by simp) (by simp) ?_
    intro N
    refine ⟨⟨(by repeat' (first | exact trivial | refine ⟨Or.inl rfl, ?_⟩ | refine ⟨Or.inr ⟨rfl, Nat.le_of_ble_eq_true rfl, _, rfl, rfl, rfl⟩, ?_⟩)), by simp⟩, ?_⟩
    refine ⟨⟨(by repeat' (first | exact trivial | refine ⟨Or.inl rfl, ?_⟩ | refine ⟨Or.inr ⟨rfl, Nat.le_of_ble_eq_true rfl, _, rfl, rfl, rfl⟩, ?_⟩)), by simp⟩, ?_⟩
    have hX : refActX n l s r0 = (r2, ⟨5, 0, z2, 0, ask0 0, 0, 0⟩) := by
      simp [refActX, ← hp1, ← hp2]
    rw [hX]
    exact endR_ok [slF byE 1 (.slice a2 r2.1.length c2) r2.1] rfl rfl ⟨rfl, rfl⟩ rfl (fun _ => ⟨a2, c2, rfl, rfl⟩) (by simp)
  · refine ojs_arith (z := 6) (by rfl) rfl rfl rfl rfl ?_
    obtain ⟨⟨r2, z2⟩, hp2⟩ : ∃ p, p = nextX n r1 := ⟨_, rfl⟩
    have hc2 := refNext_c a1 c1 r1 n (by omega) (by omega) hl1 hb1
    have hb2 : ∀ b ∈ r2.1, 0 ≤ b ∧ b ≤ 255 := by have := next_bytes (m := n) hb1; rw [← hp2] at this; exact this
    have hl2 : r2.1.length ≤ 1000000 := by have := next_len (m := n) hl1; rw [← hp2] at this; exact this
    have hv2 : 0 ≤ z2 ∧ z2 < n := by have := next_val (m := n) (by omega) hb1; rw [← hp2] at this; exact this
    rw [← hp2] at hc2
    refine ojs_call [] [] rfl rfl rfl rfl rfl rfl rfl (by simp) (fun _ => hc2) (by simp) (.inl rfl) ?_
    rintro e cs F1 _ ⟨a2, c2, rfl, rfl⟩
    obtain ⟨⟨r3, z3⟩, hp3⟩ : ∃ p, p = nextX 256 r2 := ⟨_, rfl⟩
    have hc3 := refNext_c a2 c2 r2 256 (by omega) (by omega) hl2 hb2
    have hb3 : ∀ b ∈ r3.1, 0 ≤ b ∧ b ≤ 255 := by have := next_bytes (m := 256) hb2; rw [← hp3] at this; exact this
    have hl3 : r3.1.length ≤ 1000000 := by have := next_len (m := 256) hl2; rw [← hp3] at this; exact this
    have hv3 : 0 ≤ z3 ∧ z3 < 256 := by have := next_val (m := 256) (by omega) hb2; rw [← hp3] at this; exact this
    rw [← hp3] at hc3
    refine ojs_call [] [] rfl rfl rfl rfl rfl rfl rfl (by simp) (fun _ => hc3) (by simp) (.inl rfl) ?_
    rintro e cs F1 _ ⟨a3, c3, rfl, rfl⟩
    refine cjs_drawn [2, 3] (.op 0 <| .op 1 <| .op 2 <| .op 3 .z) [0, 4] [] [] [] (by kernel_rfl) (by kernel_rfl) rfl (by simp) (by simp) ?_
    intro N
    refine ⟨⟨(by repeat' (first | exact trivial | refine ⟨Or.inl rfl, ?_⟩ | refine ⟨Or.inr ⟨rfl, Nat.le_of_ble_eq_true rfl, _, rfl, rfl, rfl⟩, ?_⟩)), by simp⟩, ?_⟩
    refine ⟨⟨(by repeat' (first | exact trivial | refine ⟨Or.inl rfl, ?_⟩ | refine ⟨Or.inr ⟨rfl, Nat.le_of_ble_eq_true rfl, _, rfl, rfl, rfl⟩, ?_⟩)), by simp⟩, ?_⟩
    have hX : refActX n l s r0 = (r3, ⟨6, z2, 0, z3, ask0 0, 0, 0⟩) := by
      simp [refActX, ← hp1, ← hp2, ← hp3]
    rw [hX]
    exact endR_ok [slF byE 1 (.slice a3 r3.1.length c3) r3.1] rfl rfl ⟨rfl, rfl⟩ rfl (fun _ => ⟨a3, c3, rfl, rfl⟩) (by simp)
  · refine ojs_arith (z := 7) (by rfl) rfl rfl rfl rfl ?_
    obtain ⟨⟨r2, z2⟩, hp2⟩ : ∃ p, p = nextX n r1 := ⟨_, rfl⟩
    have hc2 := refNext_c a1 c1 r1 n (by omega) (by omega) hl1 hb1
    have hb2 : ∀ b ∈ r2.1, 0 ≤ b ∧ b ≤ 255 := by have := next_bytes (m := n) hb1; rw [← hp2] at this; exact this
    have hl2 : r2.1.length ≤ 1000000 := by have := next_len (m := n) hl1; rw [← hp2] at this; exact this
    have hv2 : 0 ≤ z2 ∧ z2 < n := by have := next_val (m := n) (by omega) hb1; rw [← hp2] at this; exact this
    rw [← hp2] at hc2
    refine ojs_call [] [] rfl rfl rfl rfl rfl rfl rfl (by simp) (fun _ => hc2) (by simp) (.inl rfl) ?_
    rintro e cs F1 _ ⟨a2, c2, rfl, rfl⟩
    obtain ⟨⟨r3, z3⟩, hp3⟩ : ∃ p, p = nextX 256 r2 := ⟨_, rfl⟩
    have hc3 := refNext_c a2 c2 r2 256 (by omega) (by omega) hl2 hb2
    have hb3 : ∀ b ∈ r3.1, 0 ≤ b ∧ b ≤ 255 := by have := next_bytes (m := 256) hb2; rw [← hp3] at this; exact this
    have hl3 : r3.1.length ≤ 1000000 := by have := next_len (m := 256) hl2; rw [← hp3] at this; exact this
    have hv3 : 0 ≤ z3 ∧ z3 < 256 := by have := next_val (m := 256) (by omega) hb2; rw [← hp3] at this; exact this
    rw [← hp3] at hc3
    refine ojs_call [] [] rfl rfl rfl rfl rfl rfl rfl (by simp) (fun _ => hc3) (by simp) (.inl rfl) ?_
    rintro e cs F1 _ ⟨a3, c3, rfl, rfl⟩
    refine ojs_indexA (i := 0) rfl (by decide) rfl rfl rfl rfl ?_
    obtain ⟨⟨r4, z4⟩, hp4⟩ : ∃ p, p = nextX 256 r3 := ⟨_, rfl⟩
    have hc4 := refNext_c a3 c3 r3 256 (by omega) (by omega) hl3 hb3
    have hb4 : ∀ b ∈ r4.1, 0 ≤ b ∧ b ≤ 255 := by have := next_bytes (m := 256) hb3; rw [← hp4] at this; exact this
    have hl4 : r4.1.length ≤ 1000000 := by have := next_len (m := 256) hl3; rw [← hp4] at this; exact this
    have hv4 : 0 ≤ z4 ∧ z4 < 256 := by have := next_val (m := 256) (by omega) hb3; rw [← hp4] at this; exact this
    rw [← hp4] at hc4
    refine ojs_call [] [] rfl rfl rfl rfl rfl rfl rfl (by simp) (fun _ => hc4) (by simp) (.inl rfl) ?_
    rintro e cs F1 _ ⟨a4, c4, rfl, rfl⟩
    refine ojs_indexA (i := 1) rfl (by decide) rfl rfl rfl rfl ?_
    refine cjs_drawn [2, 3] (.op 0 <| .op 1 <| .op 2 <| .op 3 .z) [0, 4] [] [] [] (by kernel_rfl) (by kernel_rfl) rfl (by simp) (by simp) ?_
    intro N
    refine ⟨⟨(by repeat' (first | exact trivial | refine ⟨Or.inl rfl, ?_⟩ | refine ⟨Or.inr ⟨rfl, Nat.le_of_ble_eq_true rfl, _, rfl, rfl, rfl⟩, ?_⟩)), by simp⟩, ?_⟩
    refine ⟨⟨(by repeat' (first | exact trivial | refine ⟨Or.inl rfl, ?_⟩ | refine ⟨Or.inr ⟨rfl, Nat.le_of_ble_eq_true rfl, _, rfl, rfl, rfl⟩, ?_⟩)), by simp⟩, ?_⟩
    have hX : refActX n l s r0 = (r4, ⟨7, z2, 0, 0, ask0 0, z3, z4⟩) := by
      simp [refActX, ← hp1, ← hp2, ← hp3, ← hp4]
    rw [hX]
    exact endR_ok [slF byE 1 (.slice a4 r4.1.length c4) r4.1] rfl rfl ⟨rfl, rfl⟩ rfl (fun _ => ⟨a4, c4, rfl, rfl⟩) (by simp)
  · refine ojs_arith (z := 8) (by rfl) rfl rfl rfl rfl ?_
    obtain ⟨⟨r2, z2⟩, hp2⟩ : ∃ p, p = nextX n r1 := ⟨_, rfl⟩
    have hc2 := refNext_c a1 c1 r1 n (by omega) (by omega) hl1 hb1
    have hb2 : ∀ b ∈ r2.1, 0 ≤ b ∧ b ≤ 255 := by have := next_bytes (m := n) hb1; rw [← hp2] at this; exact this
    have hl2 : r2.1.length ≤ 1000000 := by have := next_len (m := n) hl1; rw [← hp2] at this; exact this
    have hv2 : 0 ≤ z2 ∧ z2 < n := by have := next_val (m := n) (by omega) hb1; rw [← hp2] at this; exact this
    rw [← hp2] at hc2
    refine ojs_call [] [] rfl rfl rfl rfl rfl rfl rfl (by simp) (fun _ => hc2) (by simp) (.inl rfl) ?_
    rintro e cs F1 _ ⟨a2, c2, rfl, rfl⟩
    refine cjs_drawn [2, 3] (.op 0 <| .op 1 <| .op 2 <| .op 3 .z) [0, 4] [] [] [] (by kernel_rfl) (by kernel_rfl) rfl (by simp) (by simp) ?_
    intro N
    refine ⟨⟨(by repeat' (first | exact trivial | refine ⟨Or.inl rfl, ?_⟩ | refine ⟨Or.inr ⟨rfl, Nat.le_of_ble_eq_true rfl, _, rfl, rfl, rfl⟩, ?_⟩)), by simp⟩, ?_⟩
    refine ⟨⟨(by repeat' (first | exact trivial | refine ⟨Or.inl rfl, ?_⟩ | refine ⟨Or.inr ⟨rfl, Nat.le_of_ble_eq_true rfl, _, rfl, rfl, rfl⟩, ?_⟩)), by simp⟩, ?_⟩
    have hX : refActX n l s r0 = (r2, ⟨8, z2, 0, 0, ask0 0, 0, 0⟩) := by
      simp [refActX, ← hp1, ← hp2]
    rw [hX]
    exact endR_ok [slF byE 1 (.slice a2 r2.1.length c2) r2.1] rfl rfl ⟨rfl, rfl⟩ rfl (fun _ => ⟨a2, c2, rfl, rfl⟩) (by simp)

end Go.Proofs.YthnkjgffahkecaaGreat
