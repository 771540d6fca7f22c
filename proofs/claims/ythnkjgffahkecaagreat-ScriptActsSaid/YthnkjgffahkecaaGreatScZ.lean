/- Acts, by the symbolic run: are two rows of acts the same? -/
import Derived.Test.YthnkjgffahkecaaGreatScY
namespace Go.Proofs.YthnkjgffahkecaaGreat
open Go.RowKit Go.Shelf

theorem num_c (z : Int) : Cm Tryz.prog 6 [.int .i64 z] [] [] (rets (.int .i64 z)) := by
  refine cm_of (tab := tb) (ok := tbOk) [.o (.v (.int .i64 z))] Tryz.func6 Tryz.ntmps6 rfl rfl (fun _ _ => rfl) ?_
  intro w0 A0
  exact endR_ok [] rfl rfl ⟨rfl, rfl⟩ rfl (fun _ => ⟨rfl, rfl⟩) (by simp)
set_option maxHeartbeats 1000000 in
theorem sameActs_c (ax : Option Addr) (cx : Nat) (xs : List Ac) (ay : Option Addr) (cy : Nat) (ys : List Ac) (hx : xs.length ≤ 1000000) :
    Cm Tryz.prog 11 [.slice ax xs.length cx, .slice ay ys.length cy] [] [slF actL 14 (.slice ax xs.length cx) xs, slF actL 14 (.slice ay ys.length cy) ys] (retB (xs = ys)) := by
  refine cm_of (tab := tb) (ok := tbOk) [.o (.v (.slice ax xs.length cx)), .o (.v (.slice ay ys.length cy))] Tryz.func11 Tryz.ntmps11 rfl rfl (fun _ _ => rfl) ?_
  intro w0 A0
  refine brB_split (fun h => ?_) (fun h => ?_)
  · have : ¬ xs = ys := fun e => by rw [e] at h; simp at h
    exact endR_ok [] rfl rfl ⟨rfl, rfl⟩ rfl (fun _ => ⟨false, by simp [this], rfl, rfl⟩) (by simp)
  have hl : xs.length = ys.length := by simp at h; omega
  refine cjs_loopP (γ := Nat) (fun k => k ≤ xs.length ∧ xs.take k = ys.take k) (fun k => [(5, .o (.v (.int .i64 k)))]) (fun _ => []) (fun _ => []) (fun k => xs.length - k) 0 ⟨Nat.zero_le _, by simp⟩ (wk_patch (by repeat' (first | exact trivial | exact Or.inl rfl | refine Or.inr ⟨?_, ?_⟩ | rfl | refine ⟨?_, ?_⟩ | exact lt_all_v)) (by repeat' (first | exact trivial | exact Or.inl rfl | refine Or.inr ⟨?_, ?_⟩ | rfl | refine ⟨?_, ?_⟩ | exact lt_all_v)) (fun f hf => hf) (by simp) D_nil) ?_
  rintro k ⟨hk, hyes⟩
  refine brB_dec (fun g1 => ?_) (fun g1 => ?_)
  rotate_left
  · have hkl : k = xs.length := by omega
    have : xs = ys := by rw [hkl, List.take_length, hl, List.take_length] at hyes; exact hyes
    exact endR_ok [] rfl rfl ⟨rfl, rfl⟩ rfl (fun _ => ⟨true, by simp [this], rfl, rfl⟩) (by simp)
  have hkl : k < xs.length := by omega
  obtain ⟨x, hxk⟩ := at_some (xs := xs) (k := k) hkl
  obtain ⟨y, hyk⟩ := at_some (xs := ys) (k := k) (by omega)
  refine cjs_fact (slF actL 14 (.slice ax xs.length cx) xs) (by simp) (slF_neE hxk) ?_
  rintro ⟨bx, ox, rfl⟩
  refine cjs_fact (slF actL 14 (.slice ay ys.length cy) ys) (by simp) (slF_neE hyk) ?_
  rintro ⟨by_, oy, rfl⟩
  refine cjs_drawn [] (.op 0 <| .op 1 <| .op 2 <| .op 3 <| .op 4 <| .op 5 <| .op 6 <| .op 7 <| .op 8 .z) [] [] [] [slF actL 14 (.slice (some ⟨bx, ox, none⟩) xs.length cx) xs, slF actL 14 (.slice (some ⟨by_, oy, none⟩) ys.length cy) ys] (by kernel_rfl) (by kernel_rfl) rfl (by simp) (by simp) ?_
  intro N
  refine ⟨_, yd_index (i := k) rfl hkl rfl rfl rfl rfl, ?_⟩
  refine ⟨_, yd_loadN (vs := actL x) (slF actL 14 (.slice (some ⟨bx, ox, none⟩) xs.length cx) xs) (by simp) (slF_atN hxk) rfl rfl rfl, ?_⟩
  refine ⟨_, yd_index (i := k) rfl (by omega) rfl rfl rfl rfl, ?_⟩
  refine ⟨_, yd_loadN (vs := actL y) (slF actL 14 (.slice (some ⟨by_, oy, none⟩) ys.length cy) ys) (by simp) (slF_atN hyk) rfl rfl rfl, ?_⟩
  obtain ⟨E, hE⟩ : ∃ E, E = actEq x y := ⟨_, rfl⟩
  refine ⟨_, yd_neF (xs := actL x) (ys := actL y) (ks := [4, 4, 4, 4, 4, 4, 4, 4, 4, 4, 4, 4, 4, 4]) (r := E) (by kernel_rfl) (by kernel_rfl) rfl rfl rfl (fun _ => rfl) (fun _ => rfl) (by rw [hE]; rfl), ?_⟩
  cases E
  · have : ¬ xs = ys := fun e => by
      rw [e, hyk] at hxk
      cases hxk
      have := actEq_iff.2 (rfl : x = x)
      rw [← hE] at this; cases this
    exact endR_ok [] rfl rfl ⟨rfl, rfl⟩ rfl (fun _ => ⟨false, by simp [this], rfl, rfl⟩) (by simp)
  · have hxy : x = y := actEq_iff.1 hE.symm
    refine ojs_arith (z := ((k + 1 : Nat) : Int)) (by first | decide | (rw [wrap_in] <;> omega) | (dsimp only; rw [wrap_in] <;> omega)) rfl rfl rfl rfl ?_
    exact ⟨k + 1, ⟨hkl, by rw [take_snoc hxk, take_snoc hyk, hyes, hxy]⟩, (by first | omega | (dsimp only; omega)), wk_patch (by repeat' (first | exact trivial | exact Or.inl rfl | refine Or.inr ⟨?_, ?_⟩ | rfl | refine ⟨?_, ?_⟩ | exact lt_all_v)) (by repeat' (first | exact trivial | exact Or.inl rfl | refine Or.inr ⟨?_, ?_⟩ | rfl | refine ⟨?_, ?_⟩ | exact lt_all_v)) (by simp) (by simp) D_nil⟩

end Go.Proofs.YthnkjgffahkecaaGreat
