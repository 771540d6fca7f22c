/- Acts, by the symbolic run: read from bytes. -/
import Derived.Test.YthnkjgffahkecaaGreatScK
namespace Go.Proofs.YthnkjgffahkecaaGreat
open Go.RowKit Go.Shelf

theorem scriptMust_c (b : Bool) : Cm Tryz.prog 74 [.bool b] [] [] (mustE 30 b 350) := by
  refine cm_of (tab := tb) (ok := tbOk) [.o (.v (.bool b))] Tryz.func74 Tryz.ntmps74 rfl rfl (fun _ _ => rfl) ?_
  intro w0 A0
  cases b
  · refine ojs_yd (yd_iface (by kernel_rfl) rfl rfl) rfl ?_
    refine ojs_panic rfl rfl ?_
    exact endP_ok [] rfl ⟨rfl, rfl⟩ rfl (fun _ => ⟨.inr ⟨rfl, rfl⟩, rfl⟩) (by simp)
  · exact endR_ok [] rfl rfl ⟨rfl, rfl⟩ rfl (fun _ => ⟨.inl ⟨rfl, rfl⟩, rfl⟩) (by simp)
theorem left_c (a : Option Addr) (m cap : Nat) (at_ : Nat) (h1 : m ≤ 1000000) (h2 : at_ ≤ 1000000) : Cm Tryz.prog 25 [.slice a m cap, .int .i64 at_] [] [] (rets (.int .i64 ((m : Int) - at_))) := by
  refine cm_of (tab := tb) (ok := tbOk) [.o (.v (.slice a m cap)), .o (.v (.int .i64 at_))] Tryz.func25 Tryz.ntmps25 rfl rfl (fun _ _ => rfl) ?_
  intro w0 A0
  refine ojs_arith (z := (m : Int) - at_) (by rw [wrap_in] <;> omega) rfl rfl rfl rfl ?_
  exact endR_ok [] rfl rfl ⟨rfl, rfl⟩ rfl (fun _ => ⟨rfl, rfl⟩) (by simp)
abbrev upE (z : Int) : Ending := .panicked [{ v := .iface 30 (.int .i64 z), recovered := false }]
/-- The next byte, or one gives up. -/
def nextR (a : Option Addr) (cap : Nat) (bs : List Int) (at_ : Nat) : OutT := fun e cs F1 => ((∃ b, bs[at_]? = some b ∧ e = .returned (.int .i64 b) ∧ cs = [[.slice a bs.length cap, .int .i64 ((at_ + 1 : Nat) : Int)]]) ∨ (bs.length ≤ at_ ∧ e = upE 350 ∧ cs = [[.slice a bs.length cap, .int .i64 at_]])) ∧ F1 = []
set_option maxHeartbeats 1000000 in
theorem next_c (bt : Nat) (a : Option Addr) (cap : Nat) (bs : List Int) (at_ : Nat) (h1 : bs.length ≤ 1000000) (h2 : at_ ≤ bs.length) (hb : ∀ b ∈ bs, 0 ≤ b ∧ b ≤ 255) :
    Cm Tryz.prog 50 [.pointer (some ⟨bt, 0, none⟩)] [(bt, [.slice a bs.length cap, .int .i64 at_], 76)] [slF byE 1 (.slice a bs.length cap) bs] (nextR a cap bs at_) := by
  refine cm_of (tab := tb) (ok := tbOk) [.o (.p 0 0)] Tryz.func50 Tryz.ntmps50 rfl rfl (fun ρ h => by simp [TV.den, SV.den, h 0 bt rfl]) ?_
  intro w0 A0
  obtain ⟨r, hr⟩ : ∃ r : Bool, r = decide (0 < (bs.length : Int) - at_) := ⟨_, rfl⟩
  refine cjs_drawn [8, 10] (.op 0 <| .op 1 <| .op 2 <| .op 3 <| .op 4 <| .op 5 <| .op 6 <| .op 7 <| .op 8 <| .op 9 <| .op 10 .z) [0] [] [] [] (by kernel_rfl) (by kernel_rfl) rfl (by simp) (by simp) ?_
  intro N
  refine ojs_call [] [] rfl rfl rfl rfl rfl rfl rfl (by simp) (fun _ => left_c a bs.length cap at_ h1 (by omega)) (by simp) (.inl rfl) ?_
  rintro e cs F1 _ ⟨rfl, rfl⟩
  refine ⟨⟨(by repeat' (first | exact trivial | refine ⟨Or.inl rfl, ?_⟩ | refine ⟨Or.inr ⟨rfl, Nat.le_of_ble_eq_true rfl, _, rfl, rfl, rfl⟩, ?_⟩)), by simp⟩, ?_⟩
  refine ojs_call [] [] rfl rfl rfl rfl rfl rfl rfl (by simp) (fun _ => (by rw [← hr]; exact scriptMust_c r)) (by simp) (.inl rfl) ?_
  rintro e cs F1 _ ⟨⟨hp, rfl⟩ | ⟨hp, rfl⟩, rfl⟩
  rotate_left
  · have : bs.length ≤ at_ := by rw [hp] at hr; have := hr.symm; simp at this; omega
    refine ⟨trivial, ?_⟩
    exact endP_ok [] rfl ⟨rfl, rfl⟩ rfl (fun _ => ⟨.inr ⟨this, rfl, rfl⟩, rfl⟩) (by simp)
  have hlt : at_ < bs.length := by rw [hp] at hr; have := hr.symm; simp at this; omega
  refine ⟨⟨(by repeat' (first | exact trivial | refine ⟨Or.inl rfl, ?_⟩ | refine ⟨Or.inr ⟨rfl, Nat.le_of_ble_eq_true rfl, _, rfl, rfl, rfl⟩, ?_⟩)), by simp⟩, ?_⟩
  refine ojs_arith (z := ((at_ + 1 : Nat) : Int)) (by rw [wrap_in] <;> omega) rfl rfl rfl rfl ?_
  obtain ⟨b, hx⟩ := at_some (xs := bs) (k := at_) hlt
  have hbx := hb b (List.mem_of_getElem? hx)
  refine cjs_fact (slF byE 1 (.slice a bs.length cap) bs) (by simp) (slF_neE hx) ?_
  rintro ⟨ba, off, rfl⟩
  refine cjs_drawn [11] (.op 0 <| .op 1 <| .op 2 <| .op 3 <| .op 4 <| .op 5 <| .op 6 <| .op 7 <| .op 8 <| .op 9 <| .op 10 <| .op 11 <| .op 12 .z) [0] [] [] [slF byE 1 (.slice (some ⟨ba, off, none⟩) bs.length cap) bs] (by kernel_rfl) (by kernel_rfl) rfl (by simp) (by simp) ?_
  intro N
  refine ⟨_, yd_arith (z := (at_ : Int)) (by rw [wrap_in] <;> omega) rfl rfl rfl rfl, ?_⟩
  refine ⟨_, yd_index (i := at_) rfl hlt rfl rfl rfl rfl, ?_⟩
  refine ⟨_, yd_load1 (slF byE 1 (.slice (some ⟨ba, off, none⟩) bs.length cap) bs) (by simp) (slF_at hx (j := 0) rfl) rfl rfl rfl, ?_⟩
  refine ojs_yd (yd_conv (r := b) (by kernel_rfl) (by kernel_rfl) (by rw [wrap_in] <;> omega) rfl rfl) rfl ?_
  refine ⟨⟨(by repeat' (first | exact trivial | refine ⟨Or.inl rfl, ?_⟩ | refine ⟨Or.inr ⟨rfl, Nat.le_of_ble_eq_true rfl, _, rfl, rfl, rfl⟩, ?_⟩)), by simp⟩, ?_⟩
  exact endR_ok [] rfl rfl ⟨rfl, rfl⟩ rfl (fun _ => ⟨.inl ⟨b, hx, rfl, rfl⟩, rfl⟩) (by simp)

end Go.Proofs.YthnkjgffahkecaaGreat
