/- Reports, by the symbolic run: the law ReportDecides. -/
import Derived.Test.YtnkpmeplapkobaaRpG
namespace Go.Proofs.Ytnkpmeplapkobaa
open Go.RowKit Go.Shelf

theorem same_c (a : Option Addr) (cap : Nat) (b : Option Addr) (cap2 : Nat) (xs : List Bk) (hl : xs.length ≤ 1099511627776) :
    Cm Try.prog 16 [.slice a xs.length cap, .slice b xs.length cap2] [] [slF encB 3 (.slice a xs.length cap) xs, slF encB 3 (.slice b xs.length cap2) xs] (rets (.bool true)) :=
  cm_old fun A w hA hF => by
    have := same_any w _ _ xs xs hl hl (slF_sl (hF (slF encB 3 (.slice a xs.length cap) xs) (by simp)) hA) (slF_sl (hF (slF encB 3 (.slice b xs.length cap2) xs) (by simp)) hA)
    simpa using this
theorem decGo_len (t : List (List (Bool × Int))) : ∀ (g k : Nat) (xs : List Bk), decGo t g k = some xs → xs.length ≤ g
  | 0, k, xs, h => by simp [decGo] at h; simp [h]
  | g + 1, k, xs, h => by
    simp only [decGo] at h
    split at h
    · cases h
    · simp only [Option.map_eq_some_iff] at h
      obtain ⟨ys, hy, rfl⟩ := h
      have := decGo_len t g (k + 1) ys hy
      split
      · simp; omega
      · omega
theorem decX_len {n l s : Int} {t : List (List (Bool × Int))} : (decX n l s t).1.length ≤ 8 := by
  unfold decX
  split
  · simp
  · rename_i ht
    split
    · simp
    · have ht : tallyB n l s t = true := by simpa using ht
      have hsh := shapeB_is (show shapeB n l s = true by unfold tallyB at ht; simp only [Bool.and_eq_true] at ht; exact ht.1.1)
      cases h : decGo t l.toNat 0 with
      | none => simp [decEnd]
      | some xs => have := decGo_len t _ _ _ h; simp only [decEnd]; omega

set_option maxHeartbeats 1000000 in
theorem lawDecides_c (n l s : Int) (a : Option Addr) (cap : Nat) (t : List (List (Bool × Int))) (node : Int) :
    Cm Try.prog 6 [.agg #[.int .i64 n, .int .i64 l, .int .i64 s], .agg #[.slice a t.length cap], .int .i64 node] [] [rowsF (.slice a t.length cap) t] (rets (.bool true)) := by
  refine cm_of (tab := tb) (ok := tbOk) [.g [.v (.int .i64 n), .v (.int .i64 l), .v (.int .i64 s)], .g [.v (.slice a t.length cap)], .o (.v (.int .i64 node))] Try.func6 Try.ntmps6 rfl rfl (fun _ _ => rfl) ?_
  intro w0 A0
  refine ojs_call [] [] rfl rfl rfl rfl rfl rfl rfl (by simp) (fun _ => few_c a cap t) (by simp) (.inl rfl) ?_
  rintro e cs F1 _ ⟨rfl, rfl⟩
  cases hfew : fewB t
  · refine ojs_call [] [] rfl rfl rfl rfl rfl rfl rfl (by simp) (fun _ => works_c) (by simp) (.inl rfl) ?_
    rintro e cs F1 _ ⟨rfl, rfl⟩
    exact endR_ok [] rfl rfl ⟨rfl, rfl⟩ rfl (fun _ => ⟨rfl, rfl⟩) (by simp)
  have hf := fewB_is hfew
  have hlen : ∀ r ∈ t, r.length ≤ 1099511627776 := fun r hr => by have := hf.2 r hr; omega
  obtain ⟨x, hx⟩ : ∃ x, x = decX n l s t := ⟨_, rfl⟩
  have hxl : x.1.length ≤ 8 := by rw [hx]; exact decX_len
  refine ojs_call [] [] rfl rfl rfl rfl rfl rfl rfl (by simp) (fun _ => decide_c n l s a cap t hlen) (by simp) (.inl rfl) ?_
  rintro e cs F1 _ ⟨a1, c1, rfl, rfl⟩
  refine ojs_call [] [] rfl rfl rfl rfl rfl rfl rfl (by simp) (fun _ => refDecide_c n l s a cap t (by omega) hlen) (by simp) (.inl rfl) ?_
  rintro e cs F1 _ ⟨a2, c2, rfl, rfl⟩
  rw [← hx]
  obtain ⟨xs, z⟩ := x
  simp only at hxl
  refine ojs_call [] [] rfl rfl rfl rfl rfl rfl rfl (by simp) (fun _ => same_c a1 c1 a2 c2 xs (by omega)) (by simp) (.inl rfl) ?_
  rintro e cs F1 _ ⟨rfl, rfl⟩
  refine ojs_call [] [] rfl rfl rfl rfl rfl rfl rfl (by simp) (fun _ => num_c z) (by simp) (.inl rfl) ?_
  rintro e cs F1 _ ⟨rfl, rfl⟩
  refine brB_split (fun _ => ?_) (fun h => ?_)
  rotate_left
  · exfalso; simp at h
  refine ojs_call [] [] rfl rfl rfl rfl rfl rfl rfl (by simp) (fun _ => reportOf_c a1 c1 xs node (by omega)) (by simp) (.inl rfl) ?_
  rintro e cs F1 _ ⟨a3, c3, rfl, rfl⟩
  refine ojs_call [] [] rfl rfl rfl rfl rfl rfl rfl (by simp) (fun _ => refOf_c a2 c2 xs node (by omega)) (by simp) (.inl rfl) ?_
  rintro e cs F1 _ ⟨a4, c4, rfl, rfl⟩
  refine ojs_call [] [] rfl rfl rfl rfl rfl rfl rfl (by simp) (fun _ => same_c a3 c3 a4 c4 (xs.filter fun x => !notP node x) (Nat.le_trans (List.length_filter_le _ _) (by omega))) (by simp) (.inl rfl) ?_
  rintro e cs F1 _ ⟨rfl, rfl⟩
  refine ojs_call [] [] rfl rfl rfl rfl rfl rfl rfl (by simp) (fun _ => works_c) (by simp) (.inl rfl) ?_
  rintro e cs F1 _ ⟨rfl, rfl⟩
  exact endR_ok [] rfl rfl ⟨rfl, rfl⟩ rfl (fun _ => ⟨rfl, rfl⟩) (by simp)

end Go.Proofs.Ytnkpmeplapkobaa
