/- Sites, by the symbolic run: Parse. -/
import Derived.Test.YtehfodoocfpkoaaDoorStG
namespace Go.Proofs.YtehfodoocfpkoaaDoor
open Go.RowKit Go.Shelf

theorem splitL_le : ∀ (l p : Bs), p ∈ splitL l → p.length ≤ l.length
  | [], p, h => by simp [splitL] at h; subst h; simp
  | c :: r, p, h => by
    unfold splitL at h
    split at h
    · rcases List.mem_cons.1 h with rfl | h
      · simp
      · have := splitL_le r p h; simp; omega
    · split at h
      · rename_i e; exact absurd e (splitL_ne r)
      · rename_i q ps e
        rcases List.mem_cons.1 h with rfl | h
        · have := splitL_le r q (by rw [e]; simp); simp; omega
        · have := splitL_le r p (by rw [e]; simp [h]); simp; omega
theorem parX_len {n l s : Int} {text : Bs} (hs : shapeB n l s = true) (h : (splitL text).length ≠ 4) : parX n l s text = ((0, 0, 0, 0), 150) := by
  unfold parX
  rw [if_pos hs]
  split
  · rename_i a b c d e; rw [e] at h; simp at h
  · rfl
theorem parX_bad {n l s : Int} {text a b c d : Bs} (hs : shapeB n l s = true) (ht : splitL text = [a, b, c, d]) (h : numB a 0 (n - 1) = none ∨ numB b 0 (l - 1) = none ∨ numB c 0 (s - 1) = none ∨ numB d 1 1099511627776 = none) : parX n l s text = ((0, 0, 0, 0), 150) := by
  unfold parX
  rw [if_pos hs, ht]
  dsimp only
  split
  · rename_i h1 h2 h3 h4
    rw [h1, h2, h3, h4] at h
    simp at h
  · rfl
theorem parX_good {n l s : Int} {text a b c d : Bs} {x y z u : Int} (hs : shapeB n l s = true) (ht : splitL text = [a, b, c, d]) (h1 : numB a 0 (n - 1) = some x) (h2 : numB b 0 (l - 1) = some y) (h3 : numB c 0 (s - 1) = some z) (h4 : numB d 1 1099511627776 = some u) : parX n l s text = ((x, y, z, u), 0) := by
  unfold parX
  rw [if_pos hs, ht]
  dsimp only
  rw [h1, h2, h3, h4]
def parR (x : Tk × Int) : OutT := rets (.tuple #[.agg (encT x.1).toArray, .int .i64 x.2])

set_option maxRecDepth 20000 in
set_option maxHeartbeats 2000000 in
theorem parse_c (n l s : Int) (text : ByteArray) (hsz : text.size < 4294967281) : Cm Tryd.prog 20 [.agg #[.int .i64 n, .int .i64 l, .int .i64 s], .string text] [] [libF] (parR (parX n l s text.data.toList)) := by
  refine cm_of (tab := tb) (ok := tbOk) [.g [.v (.int .i64 n), .v (.int .i64 l), .v (.int .i64 s)], .o (.v (.string text))] Tryd.func20 Tryd.ntmps20 rfl rfl (fun _ _ => rfl) ?_
  intro w0 A0
  refine cjs_scopeF 0 rfl rfl ?_
  refine ojs_call [] [] rfl rfl rfl rfl rfl rfl rfl (by simp) (fun _ => check_c n l s) (by simp) (.inl rfl) ?_
  rintro e cs F1 _ ⟨rfl, rfl⟩
  cases hs : shapeB n l s
  · refine ⟨rfl, ?_⟩
    have hX : parX n l s text.data.toList = ((0, 0, 0, 0), 2) := by unfold parX; rw [if_neg (by rw [hs]; simp)]
    rw [hX]
    exact endR_ok [] rfl rfl ⟨rfl, rfl⟩ rfl (fun _ => ⟨rfl, rfl⟩) (by simp)
  refine ojs_call [] [] rfl rfl rfl rfl rfl rfl rfl (by simp) (fun _ => split_c text hsz) (by simp) (.inl rfl) ?_
  rintro e cs F1 _ ⟨xs, b, hxs, rfl, rfl⟩
  refine ojs_call [] [] rfl rfl rfl rfl rfl rfl rfl (by simp) (fun _ => parts_c n l s hs) (by simp) (.inl rfl) ?_
  rintro e cs F1 _ ⟨rfl, rfl⟩
  refine brB_split (fun h => ?_) (fun h => ?_)
  · refine ⟨rfl, ?_⟩
    have hX := parX_len (n := n) (l := l) (s := s) (text := text.data.toList) hs (by
      rw [← hxs, List.length_map]
      intro e
      rw [e] at h; simp at h)
    rw [hX]
    exact endR_ok [] rfl rfl ⟨rfl, rfl⟩ rfl (fun _ => ⟨rfl, rfl⟩) (by simp)
  have hlen : xs.length = 4 := by simp at h; omega
  match xs, hlen, hxs with
  | [x0, x1, x2, x3], _, hxs =>
    have ht : splitL text.data.toList = [x0.data.toList, x1.data.toList, x2.data.toList, x3.data.toList] := hxs.symm
    clear hxs h
    have hb := shapeB_is hs
    have hx : ∀ x ∈ [x0, x1, x2, x3], x.size < 4294967281 := fun x hx => by
      have hm : x.data.toList ∈ splitL text.data.toList := by
        rw [ht]
        simp only [List.mem_cons, List.not_mem_nil, or_false] at hx ⊢
        rcases hx with rfl | rfl | rfl | rfl <;> simp
      have := splitL_le _ _ hm
      rw [Array.length_toList, Array.length_toList] at this
      have e1 : x.size = x.data.size := rfl
      have e2 : text.size = text.data.size := rfl
      omega
    have z0 := hx x0 (by simp)
    have z1 := hx x1 (by simp)
    have z2 := hx x2 (by simp)
    have z3 := hx x3 (by simp)
    refine ojs_call [] [] rfl rfl rfl rfl rfl rfl rfl (by simp) (fun _ => parts_c n l s hs) (by simp) (.inl rfl) ?_
    rintro e cs F1 _ ⟨rfl, rfl⟩
    refine cjs_turns 5 ?_
    refine optK_of (yd_arrIdxV (i := 0) rfl (by decide) rfl rfl rfl rfl rfl rfl) ?_
    refine ojs_index (i := 0) rfl (by simp) rfl rfl rfl rfl ?_
    refine ojs_load1 (slF encS 1 (.slice (some ⟨b, 0, none⟩) 4 4) [x0, x1, x2, x3]) (by simp) (slF_at (x := x0) (i := 0) rfl (j := 0) rfl) rfl rfl rfl ?_
    by_cases p0 : ∀ v, Lib.parseIntB 64 x0.data.toList ≠ .ok v
    · refine ojs_call [] [] rfl rfl rfl rfl rfl rfl rfl (by simp) (fun _ => parseBad_c x0 z0 p0) (by simp) (.inl rfl) ?_
      rintro e cs F1 _ ⟨⟨z, N, rfl⟩, rfl⟩
      refine cjs_drawn [4, 17] (.op 0 <| .op 1 <| .op 2 <| .op 3 <| .op 5 <| .op 6 <| .op 7 <| .op 8 <| .op 4 <| .op 9 <| .op 10 <| .op 11 <| .op 12 <| .op 13 <| .op 14 <| .op 15 <| .op 16 <| .op 17 <| .op 18 <| .op 19 .z) [2] [] [] [] (by kernel_rfl) (by kernel_rfl) rfl (by simp) (by simp) ?_
      intro NN
      refine ⟨_, yd_binOp (u := .iface 118 (.pointer (some ⟨N, 0, none⟩))) (v := .nilIface) (r := .bool true) rfl rfl rfl (fun _ => rfl) (fun _ => rfl) (guard_nil N _) (ne_nil N), ?_⟩
      refine ⟨rfl, ?_⟩
      rw [parX_bad hs ht ((Or.inl) (numB_bad p0 _ _))]
      exact endR_ok [] rfl rfl ⟨rfl, rfl⟩ rfl (fun _ => ⟨rfl, rfl⟩) (by simp)
    obtain ⟨v0, p0⟩ : ∃ v, Lib.parseIntB 64 x0.data.toList = .ok v := Classical.byContradiction fun h => p0 fun v hv => h ⟨v, hv⟩
    have hbb := Lib.parseIntB_bounds p0
    simp only [Nat.reduceSub, Nat.reducePow] at hbb
    refine ojs_call [] [] rfl rfl rfl rfl rfl rfl rfl (by simp) (fun _ => parseOk_c x0 z0 v0 p0) (by simp) (.inl rfl) ?_
    rintro e cs F1 _ ⟨rfl, rfl⟩
    refine cjs_drawn [4, 17] (.op 0 <| .op 1 <| .op 2 <| .op 3 <| .op 5 <| .op 6 <| .op 7 <| .op 8 <| .op 4 <| .op 9 <| .op 10 <| .op 11 <| .op 12 <| .op 13 <| .op 14 <| .op 15 <| .op 16 <| .op 17 <| .op 18 <| .op 19 .z) [2] [] [] [slF encS 1 (.slice (some ⟨b, 0, none⟩) 4 4) [x0, x1, x2, x3], libF] (by kernel_rfl) (by kernel_rfl) rfl (by simp) (by simp) ?_
    intro NN
    refine ⟨_, yd_binOp (u := .nilIface) (v := .nilIface) (r := .bool false) rfl rfl rfl (fun _ => rfl) (fun _ => rfl) (guard_nil2 _) nil_nil, ?_⟩
    refine ⟨_, yd_index (i := 0) rfl (by simp) rfl rfl rfl rfl, ?_⟩
    refine ⟨_, yd_load1 (slF encS 1 (.slice (some ⟨b, 0, none⟩) 4 4) [x0, x1, x2, x3]) (by simp) (slF_at (x := x0) (i := 0) rfl (j := 0) rfl) rfl rfl rfl, ?_⟩
    refine ojs_call [] [] rfl rfl rfl rfl rfl rfl rfl (by simp) (fun _ => formatN_c v0 (by omega) (by omega) rfl) (by simp) (.inl rfl) ?_
    rintro e cs F1 _ ⟨rfl, rfl⟩
    refine ⟨⟨(by repeat' (first | exact trivial | refine ⟨Or.inl rfl, ?_⟩ | refine ⟨Or.inr ⟨rfl, Nat.le_of_ble_eq_true rfl, _, rfl, rfl, rfl⟩, ?_⟩)), by simp⟩, ?_⟩
    refine ⟨_, yd_strNe (s := itoaS v0) str_ne rfl rfl rfl, ?_⟩
    refine brB_dec (fun hne => ?_) (fun hne => ?_)
    · refine ⟨rfl, ?_⟩
      rw [parX_bad hs ht ((Or.inl) (by rw [numB_ok p0, if_neg fun e => hne e.1]))]
      exact endR_ok [] rfl rfl ⟨rfl, rfl⟩ rfl (fun _ => ⟨rfl, rfl⟩) (by simp)
    have hne := Classical.not_not.1 hne
    refine ojs_call [] [] rfl rfl rfl rfl rfl rfl rfl (by simp) (fun _ => withinL_c v0 (0) (n - 1)) (by simp) (.inl rfl) ?_
    rintro e cs F1 _ ⟨rfl, rfl⟩
    refine ⟨⟨(by repeat' (first | exact trivial | refine ⟨Or.inl rfl, ?_⟩ | refine ⟨Or.inr ⟨rfl, Nat.le_of_ble_eq_true rfl, _, rfl, rfl, rfl⟩, ?_⟩)), by simp⟩, ?_⟩
    refine brB_split (fun hin => ?_) (fun hin => ?_)
    · refine ⟨rfl, ?_⟩
      have hin := (Bool.not_eq_eq_eq_not.mp hin).trans Bool.not_true
      rw [parX_bad hs ht ((Or.inl) (by rw [numB_ok p0, if_neg fun e => by unfold inB at hin; simp only [Bool.and_eq_false_iff, decide_eq_false_iff_not] at hin; omega]))]
      exact endR_ok [] rfl rfl ⟨rfl, rfl⟩ rfl (fun _ => ⟨rfl, rfl⟩) (by simp)
    have hin := (Bool.not_eq_eq_eq_not.mp hin).trans Bool.not_false
    have q0 : numB x0.data.toList (0) (n - 1) = some v0 := by
      rw [numB_ok p0, if_pos]
      unfold inB at hin
      simp only [Bool.and_eq_true, decide_eq_true_eq] at hin
      exact ⟨hne, hin⟩
    refine ojs_call [] [1] rfl rfl rfl rfl rfl rfl rfl (by simp) (fun ρ => put2_c [.int .i64 0, .int .i64 0, .int .i64 0, .int .i64 0] rfl v0 (ρ 1)) (by simp) (.inl rfl) ?_
    rintro e cs F1 _ ⟨rfl, rfl, rfl⟩
    refine ojs_arith (z := (((0 + 1 : Nat)) : Int)) (by first | decide | (rw [wrap_in] <;> omega) | (dsimp only; rw [wrap_in] <;> omega)) rfl rfl rfl rfl ?_
    refine optK_of (yd_arrIdxV (i := 1) rfl (by decide) rfl rfl rfl rfl rfl rfl) ?_
    refine ojs_index (i := 1) rfl (by simp) rfl rfl rfl rfl ?_
    refine ojs_load1 (slF encS 1 (.slice (some ⟨b, 0, none⟩) 4 4) [x0, x1, x2, x3]) (by simp) (slF_at (x := x1) (i := 1) rfl (j := 0) rfl) rfl rfl rfl ?_
    by_cases p1 : ∀ v, Lib.parseIntB 64 x1.data.toList ≠ .ok v
    · refine ojs_call [] [] rfl rfl rfl rfl rfl rfl rfl (by simp) (fun _ => parseBad_c x1 z1 p1) (by simp) (.inl rfl) ?_
      rintro e cs F1 _ ⟨⟨z, N, rfl⟩, rfl⟩
      refine cjs_drawn [4, 17] (.op 0 <| .op 1 <| .op 2 <| .op 3 <| .op 5 <| .op 6 <| .op 7 <| .op 8 <| .op 4 <| .op 9 <| .op 10 <| .op 11 <| .op 12 <| .op 13 <| .op 14 <| .op 15 <| .op 16 <| .op 17 <| .op 18 <| .op 19 .z) [3] [] [] [] (by kernel_rfl) (by kernel_rfl) rfl (by simp) (by simp) ?_
      intro NN
      refine ⟨_, yd_binOp (u := .iface 118 (.pointer (some ⟨N, 0, none⟩))) (v := .nilIface) (r := .bool true) rfl rfl rfl (fun _ => rfl) (fun _ => rfl) (guard_nil N _) (ne_nil N), ?_⟩
      refine ⟨rfl, ?_⟩
      rw [parX_bad hs ht ((fun e => Or.inr (Or.inl e)) (numB_bad p1 _ _))]
      exact endR_ok [] rfl rfl ⟨rfl, rfl⟩ rfl (fun _ => ⟨rfl, rfl⟩) (by simp)
    obtain ⟨v1, p1⟩ : ∃ v, Lib.parseIntB 64 x1.data.toList = .ok v := Classical.byContradiction fun h => p1 fun v hv => h ⟨v, hv⟩
    have hbb := Lib.parseIntB_bounds p1
    simp only [Nat.reduceSub, Nat.reducePow] at hbb
    refine ojs_call [] [] rfl rfl rfl rfl rfl rfl rfl (by simp) (fun _ => parseOk_c x1 z1 v1 p1) (by simp) (.inl rfl) ?_
    rintro e cs F1 _ ⟨rfl, rfl⟩
    refine cjs_drawn [4, 17] (.op 0 <| .op 1 <| .op 2 <| .op 3 <| .op 5 <| .op 6 <| .op 7 <| .op 8 <| .op 4 <| .op 9 <| .op 10 <| .op 11 <| .op 12 <| .op 13 <| .op 14 <| .op 15 <| .op 16 <| .op 17 <| .op 18 <| .op 19 .z) [3] [] [] [slF encS 1 (.slice (some ⟨b, 0, none⟩) 4 4) [x0, x1, x2, x3], libF] (by kernel_rfl) (by kernel_rfl) rfl (by simp) (by simp) ?_
    intro NN
    refine ⟨_, yd_binOp (u := .nilIface) (v := .nilIface) (r := .bool false) rfl rfl rfl (fun _ => rfl) (fun _ => rfl) (guard_nil2 _) nil_nil, ?_⟩
    refine ⟨_, yd_index (i := 1) rfl (by simp) rfl rfl rfl rfl, ?_⟩
    refine ⟨_, yd_load1 (slF encS 1 (.slice (some ⟨b, 0, none⟩) 4 4) [x0, x1, x2, x3]) (by simp) (slF_at (x := x1) (i := 1) rfl (j := 0) rfl) rfl rfl rfl, ?_⟩
    refine ojs_call [] [] rfl rfl rfl rfl rfl rfl rfl (by simp) (fun _ => formatN_c v1 (by omega) (by omega) rfl) (by simp) (.inl rfl) ?_
    rintro e cs F1 _ ⟨rfl, rfl⟩
    refine ⟨⟨(by repeat' (first | exact trivial | refine ⟨Or.inl rfl, ?_⟩ | refine ⟨Or.inr ⟨rfl, Nat.le_of_ble_eq_true rfl, _, rfl, rfl, rfl⟩, ?_⟩)), by simp⟩, ?_⟩
    refine ⟨_, yd_strNe (s := itoaS v1) str_ne rfl rfl rfl, ?_⟩
    refine brB_dec (fun hne => ?_) (fun hne => ?_)
    · refine ⟨rfl, ?_⟩
      rw [parX_bad hs ht ((fun e => Or.inr (Or.inl e)) (by rw [numB_ok p1, if_neg fun e => hne e.1]))]
      exact endR_ok [] rfl rfl ⟨rfl, rfl⟩ rfl (fun _ => ⟨rfl, rfl⟩) (by simp)
    have hne := Classical.not_not.1 hne
    refine ojs_call [] [] rfl rfl rfl rfl rfl rfl rfl (by simp) (fun _ => withinL_c v1 (0) (l - 1)) (by simp) (.inl rfl) ?_
    rintro e cs F1 _ ⟨rfl, rfl⟩
    refine ⟨⟨(by repeat' (first | exact trivial | refine ⟨Or.inl rfl, ?_⟩ | refine ⟨Or.inr ⟨rfl, Nat.le_of_ble_eq_true rfl, _, rfl, rfl, rfl⟩, ?_⟩)), by simp⟩, ?_⟩
    refine brB_split (fun hin => ?_) (fun hin => ?_)
    · refine ⟨rfl, ?_⟩
      have hin := (Bool.not_eq_eq_eq_not.mp hin).trans Bool.not_true
      rw [parX_bad hs ht ((fun e => Or.inr (Or.inl e)) (by rw [numB_ok p1, if_neg fun e => by unfold inB at hin; simp only [Bool.and_eq_false_iff, decide_eq_false_iff_not] at hin; omega]))]
      exact endR_ok [] rfl rfl ⟨rfl, rfl⟩ rfl (fun _ => ⟨rfl, rfl⟩) (by simp)
    have hin := (Bool.not_eq_eq_eq_not.mp hin).trans Bool.not_false
    have q1 : numB x1.data.toList (0) (l - 1) = some v1 := by
      rw [numB_ok p1, if_pos]
      unfold inB at hin
      simp only [Bool.and_eq_true, decide_eq_true_eq] at hin
      exact ⟨hne, hin⟩
    refine ojs_call [] [1] rfl rfl rfl rfl rfl rfl rfl (by simp) (fun ρ => put4_c [.int .i64 v0, .int .i64 0, .int .i64 0, .int .i64 0] rfl v1 (ρ 1)) (by simp) (.inl rfl) ?_
    rintro e cs F1 _ ⟨rfl, rfl, rfl⟩
    refine ojs_arith (z := (((1 + 1 : Nat)) : Int)) (by first | decide | (rw [wrap_in] <;> omega) | (dsimp only; rw [wrap_in] <;> omega)) rfl rfl rfl rfl ?_
    refine optK_of (yd_arrIdxV (i := 2) rfl (by decide) rfl rfl rfl rfl rfl rfl) ?_
    refine ojs_index (i := 2) rfl (by simp) rfl rfl rfl rfl ?_
    refine ojs_load1 (slF encS 1 (.slice (some ⟨b, 0, none⟩) 4 4) [x0, x1, x2, x3]) (by simp) (slF_at (x := x2) (i := 2) rfl (j := 0) rfl) rfl rfl rfl ?_
    by_cases p2 : ∀ v, Lib.parseIntB 64 x2.data.toList ≠ .ok v
    · refine ojs_call [] [] rfl rfl rfl rfl rfl rfl rfl (by simp) (fun _ => parseBad_c x2 z2 p2) (by simp) (.inl rfl) ?_
      rintro e cs F1 _ ⟨⟨z, N, rfl⟩, rfl⟩
      refine cjs_drawn [4, 17] (.op 0 <| .op 1 <| .op 2 <| .op 3 <| .op 5 <| .op 6 <| .op 7 <| .op 8 <| .op 4 <| .op 9 <| .op 10 <| .op 11 <| .op 12 <| .op 13 <| .op 14 <| .op 15 <| .op 16 <| .op 17 <| .op 18 <| .op 19 .z) [4] [] [] [] (by kernel_rfl) (by kernel_rfl) rfl (by simp) (by simp) ?_
      intro NN
      refine ⟨_, yd_binOp (u := .iface 118 (.pointer (some ⟨N, 0, none⟩))) (v := .nilIface) (r := .bool true) rfl rfl rfl (fun _ => rfl) (fun _ => rfl) (guard_nil N _) (ne_nil N), ?_⟩
      refine ⟨rfl, ?_⟩
      rw [parX_bad hs ht ((fun e => Or.inr (Or.inr (Or.inl e))) (numB_bad p2 _ _))]
      exact endR_ok [] rfl rfl ⟨rfl, rfl⟩ rfl (fun _ => ⟨rfl, rfl⟩) (by simp)
    obtain ⟨v2, p2⟩ : ∃ v, Lib.parseIntB 64 x2.data.toList = .ok v := Classical.byContradiction fun h => p2 fun v hv => h ⟨v, hv⟩
    have hbb := Lib.parseIntB_bounds p2
    simp only [Nat.reduceSub, Nat.reducePow] at hbb
    refine ojs_call [] [] rfl rfl rfl rfl rfl rfl rfl (by simp) (fun _ => parseOk_c x2 z2 v2 p2) (by simp) (.inl rfl) ?_
    rintro e cs F1 _ ⟨rfl, rfl⟩
    refine cjs_drawn [4, 17] (.op 0 <| .op 1 <| .op 2 <| .op 3 <| .op 5 <| .op 6 <| .op 7 <| .op 8 <| .op 4 <| .op 9 <| .op 10 <| .op 11 <| .op 12 <| .op 13 <| .op 14 <| .op 15 <| .op 16 <| .op 17 <| .op 18 <| .op 19 .z) [4] [] [] [slF encS 1 (.slice (some ⟨b, 0, none⟩) 4 4) [x0, x1, x2, x3], libF] (by kernel_rfl) (by kernel_rfl) rfl (by simp) (by simp) ?_
    intro NN
    refine ⟨_, yd_binOp (u := .nilIface) (v := .nilIface) (r := .bool false) rfl rfl rfl (fun _ => rfl) (fun _ => rfl) (guard_nil2 _) nil_nil, ?_⟩
    refine ⟨_, yd_index (i := 2) rfl (by simp) rfl rfl rfl rfl, ?_⟩
    refine ⟨_, yd_load1 (slF encS 1 (.slice (some ⟨b, 0, none⟩) 4 4) [x0, x1, x2, x3]) (by simp) (slF_at (x := x2) (i := 2) rfl (j := 0) rfl) rfl rfl rfl, ?_⟩
    refine ojs_call [] [] rfl rfl rfl rfl rfl rfl rfl (by simp) (fun _ => formatN_c v2 (by omega) (by omega) rfl) (by simp) (.inl rfl) ?_
    rintro e cs F1 _ ⟨rfl, rfl⟩
    refine ⟨⟨(by repeat' (first | exact trivial | refine ⟨Or.inl rfl, ?_⟩ | refine ⟨Or.inr ⟨rfl, Nat.le_of_ble_eq_true rfl, _, rfl, rfl, rfl⟩, ?_⟩)), by simp⟩, ?_⟩
    refine ⟨_, yd_strNe (s := itoaS v2) str_ne rfl rfl rfl, ?_⟩
    refine brB_dec (fun hne => ?_) (fun hne => ?_)
    · refine ⟨rfl, ?_⟩
      rw [parX_bad hs ht ((fun e => Or.inr (Or.inr (Or.inl e))) (by rw [numB_ok p2, if_neg fun e => hne e.1]))]
      exact endR_ok [] rfl rfl ⟨rfl, rfl⟩ rfl (fun _ => ⟨rfl, rfl⟩) (by simp)
    have hne := Classical.not_not.1 hne
    refine ojs_call [] [] rfl rfl rfl rfl rfl rfl rfl (by simp) (fun _ => withinL_c v2 (0) (s - 1)) (by simp) (.inl rfl) ?_
    rintro e cs F1 _ ⟨rfl, rfl⟩
    refine ⟨⟨(by repeat' (first | exact trivial | refine ⟨Or.inl rfl, ?_⟩ | refine ⟨Or.inr ⟨rfl, Nat.le_of_ble_eq_true rfl, _, rfl, rfl, rfl⟩, ?_⟩)), by simp⟩, ?_⟩
    refine brB_split (fun hin => ?_) (fun hin => ?_)
    · refine ⟨rfl, ?_⟩
      have hin := (Bool.not_eq_eq_eq_not.mp hin).trans Bool.not_true
      rw [parX_bad hs ht ((fun e => Or.inr (Or.inr (Or.inl e))) (by rw [numB_ok p2, if_neg fun e => by unfold inB at hin; simp only [Bool.and_eq_false_iff, decide_eq_false_iff_not] at hin; omega]))]
      exact endR_ok [] rfl rfl ⟨rfl, rfl⟩ rfl (fun _ => ⟨rfl, rfl⟩) (by simp)
    have hin := (Bool.not_eq_eq_eq_not.mp hin).trans Bool.not_false
    have q2 : numB x2.data.toList (0) (s - 1) = some v2 := by
      rw [numB_ok p2, if_pos]
      unfold inB at hin
      simp only [Bool.and_eq_true, decide_eq_true_eq] at hin
      exact ⟨hne, hin⟩
    refine ojs_call [] [1] rfl rfl rfl rfl rfl rfl rfl (by simp) (fun ρ => put6_c [.int .i64 v0, .int .i64 v1, .int .i64 0, .int .i64 0] rfl v2 (ρ 1)) (by simp) (.inl rfl) ?_
    rintro e cs F1 _ ⟨rfl, rfl, rfl⟩
    refine ojs_arith (z := (((2 + 1 : Nat)) : Int)) (by first | decide | (rw [wrap_in] <;> omega) | (dsimp only; rw [wrap_in] <;> omega)) rfl rfl rfl rfl ?_
    refine optK_of (yd_arrIdxV (i := 3) rfl (by decide) rfl rfl rfl rfl rfl rfl) ?_
    refine ojs_index (i := 3) rfl (by simp) rfl rfl rfl rfl ?_
    refine ojs_load1 (slF encS 1 (.slice (some ⟨b, 0, none⟩) 4 4) [x0, x1, x2, x3]) (by simp) (slF_at (x := x3) (i := 3) rfl (j := 0) rfl) rfl rfl rfl ?_
    by_cases p3 : ∀ v, Lib.parseIntB 64 x3.data.toList ≠ .ok v
    · refine ojs_call [] [] rfl rfl rfl rfl rfl rfl rfl (by simp) (fun _ => parseBad_c x3 z3 p3) (by simp) (.inl rfl) ?_
      rintro e cs F1 _ ⟨⟨z, N, rfl⟩, rfl⟩
      refine cjs_drawn [4, 17] (.op 0 <| .op 1 <| .op 2 <| .op 3 <| .op 5 <| .op 6 <| .op 7 <| .op 8 <| .op 4 <| .op 9 <| .op 10 <| .op 11 <| .op 12 <| .op 13 <| .op 14 <| .op 15 <| .op 16 <| .op 17 <| .op 18 <| .op 19 .z) [5] [] [] [] (by kernel_rfl) (by kernel_rfl) rfl (by simp) (by simp) ?_
      intro NN
      refine ⟨_, yd_binOp (u := .iface 118 (.pointer (some ⟨N, 0, none⟩))) (v := .nilIface) (r := .bool true) rfl rfl rfl (fun _ => rfl) (fun _ => rfl) (guard_nil N _) (ne_nil N), ?_⟩
      refine ⟨rfl, ?_⟩
      rw [parX_bad hs ht ((fun e => Or.inr (Or.inr (Or.inr e))) (numB_bad p3 _ _))]
      exact endR_ok [] rfl rfl ⟨rfl, rfl⟩ rfl (fun _ => ⟨rfl, rfl⟩) (by simp)
    obtain ⟨v3, p3⟩ : ∃ v, Lib.parseIntB 64 x3.data.toList = .ok v := Classical.byContradiction fun h => p3 fun v hv => h ⟨v, hv⟩
    have hbb := Lib.parseIntB_bounds p3
    simp only [Nat.reduceSub, Nat.reducePow] at hbb
    refine ojs_call [] [] rfl rfl rfl rfl rfl rfl rfl (by simp) (fun _ => parseOk_c x3 z3 v3 p3) (by simp) (.inl rfl) ?_
    rintro e cs F1 _ ⟨rfl, rfl⟩
    refine cjs_drawn [4, 17] (.op 0 <| .op 1 <| .op 2 <| .op 3 <| .op 5 <| .op 6 <| .op 7 <| .op 8 <| .op 4 <| .op 9 <| .op 10 <| .op 11 <| .op 12 <| .op 13 <| .op 14 <| .op 15 <| .op 16 <| .op 17 <| .op 18 <| .op 19 .z) [5] [] [] [slF encS 1 (.slice (some ⟨b, 0, none⟩) 4 4) [x0, x1, x2, x3], libF] (by kernel_rfl) (by kernel_rfl) rfl (by simp) (by simp) ?_
    intro NN
    refine ⟨_, yd_binOp (u := .nilIface) (v := .nilIface) (r := .bool false) rfl rfl rfl (fun _ => rfl) (fun _ => rfl) (guard_nil2 _) nil_nil, ?_⟩
    refine ⟨_, yd_index (i := 3) rfl (by simp) rfl rfl rfl rfl, ?_⟩
    refine ⟨_, yd_load1 (slF encS 1 (.slice (some ⟨b, 0, none⟩) 4 4) [x0, x1, x2, x3]) (by simp) (slF_at (x := x3) (i := 3) rfl (j := 0) rfl) rfl rfl rfl, ?_⟩
    refine ojs_call [] [] rfl rfl rfl rfl rfl rfl rfl (by simp) (fun _ => formatN_c v3 (by omega) (by omega) rfl) (by simp) (.inl rfl) ?_
    rintro e cs F1 _ ⟨rfl, rfl⟩
    refine ⟨⟨(by repeat' (first | exact trivial | refine ⟨Or.inl rfl, ?_⟩ | refine ⟨Or.inr ⟨rfl, Nat.le_of_ble_eq_true rfl, _, rfl, rfl, rfl⟩, ?_⟩)), by simp⟩, ?_⟩
    refine ⟨_, yd_strNe (s := itoaS v3) str_ne rfl rfl rfl, ?_⟩
    refine brB_dec (fun hne => ?_) (fun hne => ?_)
    · refine ⟨rfl, ?_⟩
      rw [parX_bad hs ht ((fun e => Or.inr (Or.inr (Or.inr e))) (by rw [numB_ok p3, if_neg fun e => hne e.1]))]
      exact endR_ok [] rfl rfl ⟨rfl, rfl⟩ rfl (fun _ => ⟨rfl, rfl⟩) (by simp)
    have hne := Classical.not_not.1 hne
    refine ojs_call [] [] rfl rfl rfl rfl rfl rfl rfl (by simp) (fun _ => withinL_c v3 (1) (1099511627776)) (by simp) (.inl rfl) ?_
    rintro e cs F1 _ ⟨rfl, rfl⟩
    refine ⟨⟨(by repeat' (first | exact trivial | refine ⟨Or.inl rfl, ?_⟩ | refine ⟨Or.inr ⟨rfl, Nat.le_of_ble_eq_true rfl, _, rfl, rfl, rfl⟩, ?_⟩)), by simp⟩, ?_⟩
    refine brB_split (fun hin => ?_) (fun hin => ?_)
    · refine ⟨rfl, ?_⟩
      have hin := (Bool.not_eq_eq_eq_not.mp hin).trans Bool.not_true
      rw [parX_bad hs ht ((fun e => Or.inr (Or.inr (Or.inr e))) (by rw [numB_ok p3, if_neg fun e => by unfold inB at hin; simp only [Bool.and_eq_false_iff, decide_eq_false_iff_not] at hin; omega]))]
      exact endR_ok [] rfl rfl ⟨rfl, rfl⟩ rfl (fun _ => ⟨rfl, rfl⟩) (by simp)
    have hin := (Bool.not_eq_eq_eq_not.mp hin).trans Bool.not_false
    have q3 : numB x3.data.toList (1) (1099511627776) = some v3 := by
      rw [numB_ok p3, if_pos]
      unfold inB at hin
      simp only [Bool.and_eq_true, decide_eq_true_eq] at hin
      exact ⟨hne, hin⟩
    refine ojs_call [] [1] rfl rfl rfl rfl rfl rfl rfl (by simp) (fun ρ => put8_c [.int .i64 v0, .int .i64 v1, .int .i64 v2, .int .i64 0] rfl v3 (ρ 1)) (by simp) (.inl rfl) ?_
    rintro e cs F1 _ ⟨rfl, rfl, rfl⟩
    refine ojs_arith (z := (((3 + 1 : Nat)) : Int)) (by first | decide | (rw [wrap_in] <;> omega) | (dsimp only; rw [wrap_in] <;> omega)) rfl rfl rfl rfl ?_
    have hX := parX_good hs ht q0 q1 q2 q3
    rw [hX]
    exact endR_ok [] rfl rfl ⟨rfl, rfl⟩ rfl (fun _ => ⟨rfl, rfl⟩) (by simp)

end Go.Proofs.YtehfodoocfpkoaaDoor
