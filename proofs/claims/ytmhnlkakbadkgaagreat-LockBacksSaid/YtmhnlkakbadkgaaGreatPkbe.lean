/- Part 31 of the proof of LockBacks: contracts of functions that the law reaches, or the rules by which they are walked. No condition. -/
import Derived.Test.YtmhnlkakbadkgaaGreatPkbd
namespace Go.Proofs.YtmhnlkakbadkgaaGreat
open Go.RowKit Go.Shelf
set_option maxRecDepth 100000
deriving instance DecidableEq for Hd
deriving instance DecidableEq for Wt
theorem flatHd : flatK Tryz.prog 9 140 = some [4, 4, 4] := by kernel_rfl
theorem okHd : eqOk Tryz.prog 140 = true := by kernel_rfl
theorem flatWt : flatK Tryz.prog 9 137 = some [4, 4, 4, 4, 4] := by kernel_rfl
theorem okWt : eqOk Tryz.prog 137 = true := by kernel_rfl
theorem fitHd (x y : Hd) : fitL [4, 4, 4] (hdL x) (hdL y) = some (decide (x = y)) := by
  obtain ⟨a, b, c⟩ := x
  obtain ⟨d, e, f⟩ := y
  have h : fitL [4, 4, 4] (hdL ⟨a, b, c⟩) (hdL ⟨d, e, f⟩) = some (a == d && (b == e && (c == f && true))) := rfl
  rw [h]
  congr 1
  rw [Bool.eq_iff_iff]
  simp
theorem fitWt (x y : Wt) : fitL [4, 4, 4, 4, 4] (wtL x) (wtL y) = some (decide (x = y)) := by
  obtain ⟨a, b, c, p, q⟩ := x
  obtain ⟨d, e, f, r, s⟩ := y
  have h : fitL [4, 4, 4, 4, 4] (wtL ⟨a, b, c, p, q⟩) (wtL ⟨d, e, f, r, s⟩) = some (a == d && (b == e && (c == f && (p == r && (q == s && true))))) := rfl
  rw [h]
  congr 1
  rw [Bool.eq_iff_iff]
  simp
theorem neAtE {α : Type} {xs ys : List α} {k : Nat} {x y : α} (hx : xs[k]? = some x) (hy : ys[k]? = some y) (h : x ≠ y) : xs ≠ ys := by
  rintro rfl
  rw [hx] at hy
  exact h (Option.some.inj hy)
set_option maxHeartbeats 1000000 in
theorem eqHd_c (a a2 : Option Addr) (cap cap2 : Nat) (xs ys : List Hd) (hl : xs.length ≤ 1000000) (hl2 : ys.length ≤ 1000000) : Cm Tryz.prog 178 [.slice a xs.length cap, .slice a2 ys.length cap2] [] [slF hdL 3 (.slice a xs.length cap) xs, slF hdL 3 (.slice a2 ys.length cap2) ys] (rets (.bool (decide (xs = ys)))) := by
  refine cm_of (tab := tb) (ok := tbOk) [.o (.v (.slice a xs.length cap)), .o (.v (.slice a2 ys.length cap2))] Tryz.func178 Tryz.ntmps178 rfl rfl (fun _ _ => rfl) ?_
  intro w0 A0
  refine brB_split (fun h0 => ?_) (fun h0 => ?_)
  · have e : decide (xs = ys) = false := by simp at h0; simp; rintro rfl; exact h0 rfl
    rw [e]
    exact endR_ok [] rfl rfl ⟨rfl, rfl⟩ rfl (fun _ => ⟨rfl, rfl⟩) (by simp)
  have hlen : xs.length = ys.length := by simp at h0; omega
  refine cjs_loopP (γ := Nat) (fun k => k ≤ xs.length ∧ ∀ j, j < k → xs[j]? = ys[j]?) (fun k => [(13, .o (.v (.int .i64 k)))]) (fun _ => []) (fun _ => []) (fun k => xs.length - k) 0 ⟨Nat.zero_le _, fun j hj => by omega⟩ (wk_patch (by repeat' (first | exact trivial | exact Or.inl rfl | refine Or.inr ⟨?_, ?_⟩ | rfl | refine ⟨?_, ?_⟩ | exact lt_all_v)) (by repeat' (first | exact trivial | exact Or.inl rfl | refine Or.inr ⟨?_, ?_⟩ | rfl | refine ⟨?_, ?_⟩ | exact lt_all_v)) (fun f hf => hf) (by simp) D_nil) ?_
  rintro k ⟨hk, heq⟩
  refine brB_dec (fun h1 => ?_) (fun h1 => ?_)
  rotate_left
  · have e : decide (xs = ys) = true := by
      simp only [decide_eq_true_eq]
      refine List.ext_getElem? fun j => ?_
      by_cases hj : j < k
      · exact heq j hj
      · rw [List.getElem?_eq_none (by omega), List.getElem?_eq_none (by omega)]
    rw [e]
    exact endR_ok [] rfl rfl ⟨rfl, rfl⟩ rfl (fun _ => ⟨rfl, rfl⟩) (by simp)
  obtain ⟨x, hx⟩ := at_some (xs := xs) (k := k) (by omega)
  obtain ⟨y, hy⟩ := at_some (xs := ys) (k := k) (by omega)
  refine cjs_fact (slF hdL 3 (.slice a xs.length cap) xs) (by simp) (slF_neE hx) ?_
  rintro ⟨b, off, rfl⟩
  refine cjs_fact (slF hdL 3 (.slice a2 ys.length cap2) ys) (by simp) (slF_neE hy) ?_
  rintro ⟨b2, off2, rfl⟩
  refine cjs_drawn [] (.op 0 <| .op 1 <| .op 2 <| .op 3 <| .op 4 <| .op 5 <| .op 6 <| .op 7 <| .op 8 .z) [] [] [] [slF hdL 3 (.slice (some ⟨b, off, none⟩) xs.length cap) xs, slF hdL 3 (.slice (some ⟨b2, off2, none⟩) ys.length cap2) ys] (by kernel_rfl) (by kernel_rfl) rfl (by simp) (by simp) ?_
  intro N
  refine ⟨_, yd_index (i := k) rfl (by omega) rfl rfl rfl rfl, ?_⟩
  refine ⟨_, yd_loadN (vs := hdL x) (slF hdL 3 (.slice (some ⟨b, off, none⟩) xs.length cap) xs) (by simp) (slF_atN hx) rfl rfl rfl, ?_⟩
  refine ⟨_, yd_index (i := k) rfl (by omega) rfl rfl rfl rfl, ?_⟩
  refine ⟨_, yd_loadN (vs := hdL y) (slF hdL 3 (.slice (some ⟨b2, off2, none⟩) ys.length cap2) ys) (by simp) (slF_atN hy) rfl rfl rfl, ?_⟩
  refine ⟨_, yd_neF (xs := hdL x) (ys := hdL y) (r := decide (x = y)) (ks := [4, 4, 4]) flatHd okHd rfl rfl rfl (fun _ => rfl) (fun _ => rfl) (fitHd x y), ?_⟩
  by_cases hxy : x = y
  · rw [show decide (x = y) = true by simpa using hxy]
    refine ojs_arith (z := ((k + 1 : Nat) : Int)) (by first | decide | (rw [wrap_in] <;> omega) | (dsimp only; rw [wrap_in] <;> omega)) rfl rfl rfl rfl ?_
    refine ⟨k + 1, ⟨by omega, fun j hj => ?_⟩, (by first | omega | (dsimp only; omega)), wk_patch (by repeat' (first | exact trivial | exact Or.inl rfl | refine Or.inr ⟨?_, ?_⟩ | rfl | refine ⟨?_, ?_⟩ | exact lt_all_v)) (by repeat' (first | exact trivial | exact Or.inl rfl | refine Or.inr ⟨?_, ?_⟩ | rfl | refine ⟨?_, ?_⟩ | exact lt_all_v)) (fun f hf => hf) (by simp) D_nil⟩
    rcases Nat.lt_succ_iff_lt_or_eq.1 hj with h | rfl
    · exact heq j h
    · rw [hx, hy, hxy]
  · rw [show decide (x = y) = false by simpa using hxy, show decide (xs = ys) = false by simpa using neAtE hx hy hxy]
    exact endR_ok [] rfl rfl ⟨rfl, rfl⟩ rfl (fun _ => ⟨rfl, rfl⟩) (by simp)
set_option maxHeartbeats 1000000 in
theorem refSameH_c (a a2 : Option Addr) (cap cap2 : Nat) (xs ys : List Hd) (hl : xs.length ≤ 1000000) (hl2 : ys.length ≤ 1000000) : Cm Tryz.prog 66 [.slice a xs.length cap, .slice a2 ys.length cap2] [] [slF hdL 3 (.slice a xs.length cap) xs, slF hdL 3 (.slice a2 ys.length cap2) ys] (rets (.bool (decide (xs = ys)))) := by
  refine cm_of (tab := tb) (ok := tbOk) [.o (.v (.slice a xs.length cap)), .o (.v (.slice a2 ys.length cap2))] Tryz.func66 Tryz.ntmps66 rfl rfl (fun _ _ => rfl) ?_
  intro w0 A0
  refine brB_split (fun h0 => ?_) (fun h0 => ?_)
  · have e : decide (xs = ys) = false := by simp at h0; simp; rintro rfl; exact h0 rfl
    rw [e]
    exact endR_ok [] rfl rfl ⟨rfl, rfl⟩ rfl (fun _ => ⟨rfl, rfl⟩) (by simp)
  have hlen : xs.length = ys.length := by simp at h0; omega
  refine cjs_loopP (γ := Nat) (fun k => k ≤ xs.length ∧ ∀ j, j < k → xs[j]? = ys[j]?) (fun k => [(5, .o (.v (.int .i64 k)))]) (fun _ => []) (fun _ => []) (fun k => xs.length - k) 0 ⟨Nat.zero_le _, fun j hj => by omega⟩ (wk_patch (by repeat' (first | exact trivial | exact Or.inl rfl | refine Or.inr ⟨?_, ?_⟩ | rfl | refine ⟨?_, ?_⟩ | exact lt_all_v)) (by repeat' (first | exact trivial | exact Or.inl rfl | refine Or.inr ⟨?_, ?_⟩ | rfl | refine ⟨?_, ?_⟩ | exact lt_all_v)) (fun f hf => hf) (by simp) D_nil) ?_
  rintro k ⟨hk, heq⟩
  refine brB_dec (fun h1 => ?_) (fun h1 => ?_)
  rotate_left
  · have e : decide (xs = ys) = true := by
      simp only [decide_eq_true_eq]
      refine List.ext_getElem? fun j => ?_
      by_cases hj : j < k
      · exact heq j hj
      · rw [List.getElem?_eq_none (by omega), List.getElem?_eq_none (by omega)]
    rw [e]
    exact endR_ok [] rfl rfl ⟨rfl, rfl⟩ rfl (fun _ => ⟨rfl, rfl⟩) (by simp)
  obtain ⟨x, hx⟩ := at_some (xs := xs) (k := k) (by omega)
  obtain ⟨y, hy⟩ := at_some (xs := ys) (k := k) (by omega)
  refine cjs_fact (slF hdL 3 (.slice a xs.length cap) xs) (by simp) (slF_neE hx) ?_
  rintro ⟨b, off, rfl⟩
  refine cjs_fact (slF hdL 3 (.slice a2 ys.length cap2) ys) (by simp) (slF_neE hy) ?_
  rintro ⟨b2, off2, rfl⟩
  refine cjs_drawn [] (.op 0 <| .op 1 <| .op 2 <| .op 3 <| .op 4 <| .op 5 <| .op 6 <| .op 7 <| .op 8 .z) [] [] [] [slF hdL 3 (.slice (some ⟨b, off, none⟩) xs.length cap) xs, slF hdL 3 (.slice (some ⟨b2, off2, none⟩) ys.length cap2) ys] (by kernel_rfl) (by kernel_rfl) rfl (by simp) (by simp) ?_
  intro N
  refine ⟨_, yd_index (i := k) rfl (by omega) rfl rfl rfl rfl, ?_⟩
  refine ⟨_, yd_loadN (vs := hdL x) (slF hdL 3 (.slice (some ⟨b, off, none⟩) xs.length cap) xs) (by simp) (slF_atN hx) rfl rfl rfl, ?_⟩
  refine ⟨_, yd_index (i := k) rfl (by omega) rfl rfl rfl rfl, ?_⟩
  refine ⟨_, yd_loadN (vs := hdL y) (slF hdL 3 (.slice (some ⟨b2, off2, none⟩) ys.length cap2) ys) (by simp) (slF_atN hy) rfl rfl rfl, ?_⟩
  refine ⟨_, yd_neF (xs := hdL x) (ys := hdL y) (r := decide (x = y)) (ks := [4, 4, 4]) flatHd okHd rfl rfl rfl (fun _ => rfl) (fun _ => rfl) (fitHd x y), ?_⟩
  by_cases hxy : x = y
  · rw [show decide (x = y) = true by simpa using hxy]
    refine ojs_arith (z := ((k + 1 : Nat) : Int)) (by first | decide | (rw [wrap_in] <;> omega) | (dsimp only; rw [wrap_in] <;> omega)) rfl rfl rfl rfl ?_
    refine ⟨k + 1, ⟨by omega, fun j hj => ?_⟩, (by first | omega | (dsimp only; omega)), wk_patch (by repeat' (first | exact trivial | exact Or.inl rfl | refine Or.inr ⟨?_, ?_⟩ | rfl | refine ⟨?_, ?_⟩ | exact lt_all_v)) (by repeat' (first | exact trivial | exact Or.inl rfl | refine Or.inr ⟨?_, ?_⟩ | rfl | refine ⟨?_, ?_⟩ | exact lt_all_v)) (fun f hf => hf) (by simp) D_nil⟩
    rcases Nat.lt_succ_iff_lt_or_eq.1 hj with h | rfl
    · exact heq j h
    · rw [hx, hy, hxy]
  · rw [show decide (x = y) = false by simpa using hxy, show decide (xs = ys) = false by simpa using neAtE hx hy hxy]
    exact endR_ok [] rfl rfl ⟨rfl, rfl⟩ rfl (fun _ => ⟨rfl, rfl⟩) (by simp)
set_option maxHeartbeats 1000000 in
theorem eqWt_c (a a2 : Option Addr) (cap cap2 : Nat) (xs ys : List Wt) (hl : xs.length ≤ 1000000) (hl2 : ys.length ≤ 1000000) : Cm Tryz.prog 177 [.slice a xs.length cap, .slice a2 ys.length cap2] [] [slF wtL 5 (.slice a xs.length cap) xs, slF wtL 5 (.slice a2 ys.length cap2) ys] (rets (.bool (decide (xs = ys)))) := by
  refine cm_of (tab := tb) (ok := tbOk) [.o (.v (.slice a xs.length cap)), .o (.v (.slice a2 ys.length cap2))] Tryz.func177 Tryz.ntmps177 rfl rfl (fun _ _ => rfl) ?_
  intro w0 A0
  refine brB_split (fun h0 => ?_) (fun h0 => ?_)
  · have e : decide (xs = ys) = false := by simp at h0; simp; rintro rfl; exact h0 rfl
    rw [e]
    exact endR_ok [] rfl rfl ⟨rfl, rfl⟩ rfl (fun _ => ⟨rfl, rfl⟩) (by simp)
  have hlen : xs.length = ys.length := by simp at h0; omega
  refine cjs_loopP (γ := Nat) (fun k => k ≤ xs.length ∧ ∀ j, j < k → xs[j]? = ys[j]?) (fun k => [(13, .o (.v (.int .i64 k)))]) (fun _ => []) (fun _ => []) (fun k => xs.length - k) 0 ⟨Nat.zero_le _, fun j hj => by omega⟩ (wk_patch (by repeat' (first | exact trivial | exact Or.inl rfl | refine Or.inr ⟨?_, ?_⟩ | rfl | refine ⟨?_, ?_⟩ | exact lt_all_v)) (by repeat' (first | exact trivial | exact Or.inl rfl | refine Or.inr ⟨?_, ?_⟩ | rfl | refine ⟨?_, ?_⟩ | exact lt_all_v)) (fun f hf => hf) (by simp) D_nil) ?_
  rintro k ⟨hk, heq⟩
  refine brB_dec (fun h1 => ?_) (fun h1 => ?_)
  rotate_left
  · have e : decide (xs = ys) = true := by
      simp only [decide_eq_true_eq]
      refine List.ext_getElem? fun j => ?_
      by_cases hj : j < k
      · exact heq j hj
      · rw [List.getElem?_eq_none (by omega), List.getElem?_eq_none (by omega)]
    rw [e]
    exact endR_ok [] rfl rfl ⟨rfl, rfl⟩ rfl (fun _ => ⟨rfl, rfl⟩) (by simp)
  obtain ⟨x, hx⟩ := at_some (xs := xs) (k := k) (by omega)
  obtain ⟨y, hy⟩ := at_some (xs := ys) (k := k) (by omega)
  refine cjs_fact (slF wtL 5 (.slice a xs.length cap) xs) (by simp) (slF_neE hx) ?_
  rintro ⟨b, off, rfl⟩
  refine cjs_fact (slF wtL 5 (.slice a2 ys.length cap2) ys) (by simp) (slF_neE hy) ?_
  rintro ⟨b2, off2, rfl⟩
  refine cjs_drawn [] (.op 0 <| .op 1 <| .op 2 <| .op 3 <| .op 4 <| .op 5 <| .op 6 <| .op 7 <| .op 8 .z) [] [] [] [slF wtL 5 (.slice (some ⟨b, off, none⟩) xs.length cap) xs, slF wtL 5 (.slice (some ⟨b2, off2, none⟩) ys.length cap2) ys] (by kernel_rfl) (by kernel_rfl) rfl (by simp) (by simp) ?_
  intro N
  refine ⟨_, yd_index (i := k) rfl (by omega) rfl rfl rfl rfl, ?_⟩
  refine ⟨_, yd_loadN (vs := wtL x) (slF wtL 5 (.slice (some ⟨b, off, none⟩) xs.length cap) xs) (by simp) (slF_atN hx) rfl rfl rfl, ?_⟩
  refine ⟨_, yd_index (i := k) rfl (by omega) rfl rfl rfl rfl, ?_⟩
  refine ⟨_, yd_loadN (vs := wtL y) (slF wtL 5 (.slice (some ⟨b2, off2, none⟩) ys.length cap2) ys) (by simp) (slF_atN hy) rfl rfl rfl, ?_⟩
  refine ⟨_, yd_neF (xs := wtL x) (ys := wtL y) (r := decide (x = y)) (ks := [4, 4, 4, 4, 4]) flatWt okWt rfl rfl rfl (fun _ => rfl) (fun _ => rfl) (fitWt x y), ?_⟩
  by_cases hxy : x = y
  · rw [show decide (x = y) = true by simpa using hxy]
    refine ojs_arith (z := ((k + 1 : Nat) : Int)) (by first | decide | (rw [wrap_in] <;> omega) | (dsimp only; rw [wrap_in] <;> omega)) rfl rfl rfl rfl ?_
    refine ⟨k + 1, ⟨by omega, fun j hj => ?_⟩, (by first | omega | (dsimp only; omega)), wk_patch (by repeat' (first | exact trivial | exact Or.inl rfl | refine Or.inr ⟨?_, ?_⟩ | rfl | refine ⟨?_, ?_⟩ | exact lt_all_v)) (by repeat' (first | exact trivial | exact Or.inl rfl | refine Or.inr ⟨?_, ?_⟩ | rfl | refine ⟨?_, ?_⟩ | exact lt_all_v)) (fun f hf => hf) (by simp) D_nil⟩
    rcases Nat.lt_succ_iff_lt_or_eq.1 hj with h | rfl
    · exact heq j h
    · rw [hx, hy, hxy]
  · rw [show decide (x = y) = false by simpa using hxy, show decide (xs = ys) = false by simpa using neAtE hx hy hxy]
    exact endR_ok [] rfl rfl ⟨rfl, rfl⟩ rfl (fun _ => ⟨rfl, rfl⟩) (by simp)
set_option maxHeartbeats 1000000 in
theorem refSameW_c (a a2 : Option Addr) (cap cap2 : Nat) (xs ys : List Wt) (hl : xs.length ≤ 1000000) (hl2 : ys.length ≤ 1000000) : Cm Tryz.prog 65 [.slice a xs.length cap, .slice a2 ys.length cap2] [] [slF wtL 5 (.slice a xs.length cap) xs, slF wtL 5 (.slice a2 ys.length cap2) ys] (rets (.bool (decide (xs = ys)))) := by
  refine cm_of (tab := tb) (ok := tbOk) [.o (.v (.slice a xs.length cap)), .o (.v (.slice a2 ys.length cap2))] Tryz.func65 Tryz.ntmps65 rfl rfl (fun _ _ => rfl) ?_
  intro w0 A0
  refine brB_split (fun h0 => ?_) (fun h0 => ?_)
  · have e : decide (xs = ys) = false := by simp at h0; simp; rintro rfl; exact h0 rfl
    rw [e]
    exact endR_ok [] rfl rfl ⟨rfl, rfl⟩ rfl (fun _ => ⟨rfl, rfl⟩) (by simp)
  have hlen : xs.length = ys.length := by simp at h0; omega
  refine cjs_loopP (γ := Nat) (fun k => k ≤ xs.length ∧ ∀ j, j < k → xs[j]? = ys[j]?) (fun k => [(5, .o (.v (.int .i64 k)))]) (fun _ => []) (fun _ => []) (fun k => xs.length - k) 0 ⟨Nat.zero_le _, fun j hj => by omega⟩ (wk_patch (by repeat' (first | exact trivial | exact Or.inl rfl | refine Or.inr ⟨?_, ?_⟩ | rfl | refine ⟨?_, ?_⟩ | exact lt_all_v)) (by repeat' (first | exact trivial | exact Or.inl rfl | refine Or.inr ⟨?_, ?_⟩ | rfl | refine ⟨?_, ?_⟩ | exact lt_all_v)) (fun f hf => hf) (by simp) D_nil) ?_
  rintro k ⟨hk, heq⟩
  refine brB_dec (fun h1 => ?_) (fun h1 => ?_)
  rotate_left
  · have e : decide (xs = ys) = true := by
      simp only [decide_eq_true_eq]
      refine List.ext_getElem? fun j => ?_
      by_cases hj : j < k
      · exact heq j hj
      · rw [List.getElem?_eq_none (by omega), List.getElem?_eq_none (by omega)]
    rw [e]
    exact endR_ok [] rfl rfl ⟨rfl, rfl⟩ rfl (fun _ => ⟨rfl, rfl⟩) (by simp)
  obtain ⟨x, hx⟩ := at_some (xs := xs) (k := k) (by omega)
  obtain ⟨y, hy⟩ := at_some (xs := ys) (k := k) (by omega)
  refine cjs_fact (slF wtL 5 (.slice a xs.length cap) xs) (by simp) (slF_neE hx) ?_
  rintro ⟨b, off, rfl⟩
  refine cjs_fact (slF wtL 5 (.slice a2 ys.length cap2) ys) (by simp) (slF_neE hy) ?_
  rintro ⟨b2, off2, rfl⟩
  refine cjs_drawn [] (.op 0 <| .op 1 <| .op 2 <| .op 3 <| .op 4 <| .op 5 <| .op 6 <| .op 7 <| .op 8 .z) [] [] [] [slF wtL 5 (.slice (some ⟨b, off, none⟩) xs.length cap) xs, slF wtL 5 (.slice (some ⟨b2, off2, none⟩) ys.length cap2) ys] (by kernel_rfl) (by kernel_rfl) rfl (by simp) (by simp) ?_
  intro N
  refine ⟨_, yd_index (i := k) rfl (by omega) rfl rfl rfl rfl, ?_⟩
  refine ⟨_, yd_loadN (vs := wtL x) (slF wtL 5 (.slice (some ⟨b, off, none⟩) xs.length cap) xs) (by simp) (slF_atN hx) rfl rfl rfl, ?_⟩
  refine ⟨_, yd_index (i := k) rfl (by omega) rfl rfl rfl rfl, ?_⟩
  refine ⟨_, yd_loadN (vs := wtL y) (slF wtL 5 (.slice (some ⟨b2, off2, none⟩) ys.length cap2) ys) (by simp) (slF_atN hy) rfl rfl rfl, ?_⟩
  refine ⟨_, yd_neF (xs := wtL x) (ys := wtL y) (r := decide (x = y)) (ks := [4, 4, 4, 4, 4]) flatWt okWt rfl rfl rfl (fun _ => rfl) (fun _ => rfl) (fitWt x y), ?_⟩
  by_cases hxy : x = y
  · rw [show decide (x = y) = true by simpa using hxy]
    refine ojs_arith (z := ((k + 1 : Nat) : Int)) (by first | decide | (rw [wrap_in] <;> omega) | (dsimp only; rw [wrap_in] <;> omega)) rfl rfl rfl rfl ?_
    refine ⟨k + 1, ⟨by omega, fun j hj => ?_⟩, (by first | omega | (dsimp only; omega)), wk_patch (by repeat' (first | exact trivial | exact Or.inl rfl | refine Or.inr ⟨?_, ?_⟩ | rfl | refine ⟨?_, ?_⟩ | exact lt_all_v)) (by repeat' (first | exact trivial | exact Or.inl rfl | refine Or.inr ⟨?_, ?_⟩ | rfl | refine ⟨?_, ?_⟩ | exact lt_all_v)) (fun f hf => hf) (by simp) D_nil⟩
    rcases Nat.lt_succ_iff_lt_or_eq.1 hj with h | rfl
    · exact heq j h
    · rw [hx, hy, hxy]
  · rw [show decide (x = y) = false by simpa using hxy, show decide (xs = ys) = false by simpa using neAtE hx hy hxy]
    exact endR_ok [] rfl rfl ⟨rfl, rfl⟩ rfl (fun _ => ⟨rfl, rfl⟩) (by simp)
set_option maxHeartbeats 1000000 in
theorem eqJ_c (a a2 : Option Addr) (cap cap2 : Nat) (xs ys : List Int) (hl : xs.length ≤ 1000000) (hl2 : ys.length ≤ 1000000) : Cm Tryz.prog 176 [.slice a xs.length cap, .slice a2 ys.length cap2] [] [slF encI 1 (.slice a xs.length cap) xs, slF encI 1 (.slice a2 ys.length cap2) ys] (rets (.bool (decide (xs = ys)))) := by
  refine cm_of (tab := tb) (ok := tbOk) [.o (.v (.slice a xs.length cap)), .o (.v (.slice a2 ys.length cap2))] Tryz.func176 Tryz.ntmps176 rfl rfl (fun _ _ => rfl) ?_
  intro w0 A0
  refine brB_split (fun h0 => ?_) (fun h0 => ?_)
  · have e : decide (xs = ys) = false := by simp at h0; simp; rintro rfl; exact h0 rfl
    rw [e]
    exact endR_ok [] rfl rfl ⟨rfl, rfl⟩ rfl (fun _ => ⟨rfl, rfl⟩) (by simp)
  have hlen : xs.length = ys.length := by simp at h0; omega
  refine cjs_loopP (γ := Nat) (fun k => k ≤ xs.length ∧ ∀ j, j < k → xs[j]? = ys[j]?) (fun k => [(13, .o (.v (.int .i64 k)))]) (fun _ => []) (fun _ => []) (fun k => xs.length - k) 0 ⟨Nat.zero_le _, fun j hj => by omega⟩ (wk_patch (by repeat' (first | exact trivial | exact Or.inl rfl | refine Or.inr ⟨?_, ?_⟩ | rfl | refine ⟨?_, ?_⟩ | exact lt_all_v)) (by repeat' (first | exact trivial | exact Or.inl rfl | refine Or.inr ⟨?_, ?_⟩ | rfl | refine ⟨?_, ?_⟩ | exact lt_all_v)) (fun f hf => hf) (by simp) D_nil) ?_
  rintro k ⟨hk, heq⟩
  refine brB_dec (fun h1 => ?_) (fun h1 => ?_)
  rotate_left
  · have e : decide (xs = ys) = true := by
      simp only [decide_eq_true_eq]
      refine List.ext_getElem? fun j => ?_
      by_cases hj : j < k
      · exact heq j hj
      · rw [List.getElem?_eq_none (by omega), List.getElem?_eq_none (by omega)]
    rw [e]
    exact endR_ok [] rfl rfl ⟨rfl, rfl⟩ rfl (fun _ => ⟨rfl, rfl⟩) (by simp)
  obtain ⟨x, hx⟩ := at_some (xs := xs) (k := k) (by omega)
  obtain ⟨y, hy⟩ := at_some (xs := ys) (k := k) (by omega)
  refine cjs_fact (slF encI 1 (.slice a xs.length cap) xs) (by simp) (slF_neE hx) ?_
  rintro ⟨b, off, rfl⟩
  refine cjs_fact (slF encI 1 (.slice a2 ys.length cap2) ys) (by simp) (slF_neE hy) ?_
  rintro ⟨b2, off2, rfl⟩
  refine cjs_drawn [] (.op 0 <| .op 1 <| .op 2 <| .op 3 <| .op 4 <| .op 5 <| .op 6 <| .op 7 <| .op 8 .z) [] [] [] [slF encI 1 (.slice (some ⟨b, off, none⟩) xs.length cap) xs, slF encI 1 (.slice (some ⟨b2, off2, none⟩) ys.length cap2) ys] (by kernel_rfl) (by kernel_rfl) rfl (by simp) (by simp) ?_
  intro N
  refine ⟨_, yd_index (i := k) rfl (by omega) rfl rfl rfl rfl, ?_⟩
  refine ⟨_, yd_load1 (slF encI 1 (.slice (some ⟨b, off, none⟩) xs.length cap) xs) (by simp) (slF_at hx (j := 0) rfl) rfl rfl rfl, ?_⟩
  refine ⟨_, yd_index (i := k) rfl (by omega) rfl rfl rfl rfl, ?_⟩
  refine ⟨_, yd_load1 (slF encI 1 (.slice (some ⟨b2, off2, none⟩) ys.length cap2) ys) (by simp) (slF_at hy (j := 0) rfl) rfl rfl rfl, ?_⟩
  refine brB_split (fun hxy => ?_) (fun hxy => ?_)
  rotate_left
  · have hxy : x = y := by simpa using hxy
    refine ojs_arith (z := ((k + 1 : Nat) : Int)) (by first | decide | (rw [wrap_in] <;> omega) | (dsimp only; rw [wrap_in] <;> omega)) rfl rfl rfl rfl ?_
    refine ⟨k + 1, ⟨by omega, fun j hj => ?_⟩, (by first | omega | (dsimp only; omega)), wk_patch (by repeat' (first | exact trivial | exact Or.inl rfl | refine Or.inr ⟨?_, ?_⟩ | rfl | refine ⟨?_, ?_⟩ | exact lt_all_v)) (by repeat' (first | exact trivial | exact Or.inl rfl | refine Or.inr ⟨?_, ?_⟩ | rfl | refine ⟨?_, ?_⟩ | exact lt_all_v)) (fun f hf => hf) (by simp) D_nil⟩
    rcases Nat.lt_succ_iff_lt_or_eq.1 hj with h | rfl
    · exact heq j h
    · rw [hx, hy, hxy]
  · have hxy : x ≠ y := by simpa using hxy
    rw [show decide (xs = ys) = false by simpa using neAtE hx hy hxy]
    exact endR_ok [] rfl rfl ⟨rfl, rfl⟩ rfl (fun _ => ⟨rfl, rfl⟩) (by simp)
end Go.Proofs.YtmhnlkakbadkgaaGreat
namespace Go.Proofs.YtmhnlkakbadkgaaGreat
open Go.RowKit Go.Shelf
set_option maxRecDepth 100000
deriving instance DecidableEq for Ctr
theorem fitCtr (x y : Ctr) : fitL [4, 4, 8] (ctrL x) (ctrL y) = some (decide (x = y)) := by
  obtain ⟨a, b, c⟩ := x
  obtain ⟨d, e, f⟩ := y
  have h : fitL [4, 4, 8] (ctrL ⟨a, b, c⟩) (ctrL ⟨d, e, f⟩) = some (a == d && (b == e && (c == f && true))) := rfl
  rw [h]
  congr 1
  rw [Bool.eq_iff_iff]
  simp
theorem isNaNJ_c (a : Int) : Cm Tryz.prog 227 [.int .i64 a] [] [] (rets (.bool false)) := by
  refine cm_of (tab := tb) (ok := tbOk) [.o (.v (.int .i64 a))] Tryz.func227 Tryz.ntmps227 rfl rfl (fun _ _ => rfl) ?_
  intro w0 A0
  exact endR_ok [] rfl rfl ⟨rfl, rfl⟩ rfl (fun _ => ⟨ret_bool (by (simp)), rfl⟩) (by simp)
theorem compareJ_c (a b : Int) : Cm Tryz.prog 175 [.int .i64 a, .int .i64 b] [] [] (rets (.int .i64 (cmpI a b))) := by
  refine cm_of (tab := tb) (ok := tbOk) [.o (.v (.int .i64 a)), .o (.v (.int .i64 b))] Tryz.func175 Tryz.ntmps175 rfl rfl (fun _ _ => rfl) ?_
  intro w0 A0
  refine ojs_call [] [] rfl rfl rfl rfl rfl rfl rfl (by simp) (fun _ => isNaNJ_c a) (by simp) (.inl rfl) ?_
  rintro e cs F1 _ ⟨rfl, rfl⟩
  refine ojs_call [] [] rfl rfl rfl rfl rfl rfl rfl (by simp) (fun _ => isNaNJ_c b) (by simp) (.inl rfl) ?_
  rintro e cs F1 _ ⟨rfl, rfl⟩
  unfold cmpI
  refine brB_dec (fun h1 => ?_) (fun h1 => ?_)
  · rw [if_pos h1]
    exact endR_ok [] rfl rfl ⟨rfl, rfl⟩ rfl (fun _ => ⟨rfl, rfl⟩) (by simp)
  rw [if_neg h1]
  refine brB_dec (fun h2 => ?_) (fun h2 => ?_)
  · rw [if_pos h2]
    exact endR_ok [] rfl rfl ⟨rfl, rfl⟩ rfl (fun _ => ⟨rfl, rfl⟩) (by simp)
  rw [if_neg h2]
  exact endR_ok [] rfl rfl ⟨rfl, rfl⟩ rfl (fun _ => ⟨rfl, rfl⟩) (by simp)
structure Tok where
  age : Int
  seq : List Int
  q : List Wt
  hs : List Hd
  c : Ctr
  deriving DecidableEq
structure Sls where
  a1 : Option Addr
  c1 : Nat
  a2 : Option Addr
  c2 : Nat
  a3 : Option Addr
  c3 : Nat
def Tok.s1 (x : Tok) (s : Sls) : Value := .slice s.a1 x.seq.length s.c1
def Tok.s2 (x : Tok) (s : Sls) : Value := .slice s.a2 x.q.length s.c2
def Tok.s3 (x : Tok) (s : Sls) : Value := .slice s.a3 x.hs.length s.c3
def tokV (x : Tok) (s : Sls) : List Value := [.int .i64 x.age, .slice s.a1 x.seq.length s.c1, .slice s.a2 x.q.length s.c2, .slice s.a3 x.hs.length s.c3, .int .i64 x.c.value, .int .i64 x.c.floor, .int .u64 x.c.version]
def tokF (x : Tok) (s : Sls) : List Fact := [slF encI 1 (.slice s.a1 x.seq.length s.c1) x.seq, slF wtL 5 (.slice s.a2 x.q.length s.c2) x.q, slF hdL 3 (.slice s.a3 x.hs.length s.c3) x.hs]
def Tok.small (x : Tok) : Prop := x.seq.length ≤ 1000000 ∧ x.q.length ≤ 1000000 ∧ x.hs.length ≤ 1000000
set_option maxHeartbeats 2000000 in
theorem tokSame_c (x y : Tok) (s r : Sls) (hx : x.small) (hy : y.small) : Cm Tryz.prog 108 [.agg (tokV x s).toArray, .agg (tokV y r).toArray] [] (tokF x s ++ tokF y r) (rets (.bool (decide (x = y)))) := by
  obtain ⟨hx1, hx2, hx3⟩ := hx
  obtain ⟨hy1, hy2, hy3⟩ := hy
  obtain ⟨age, seq, q, hs, ⟨v, f, n⟩⟩ := x
  obtain ⟨age', seq', q', hs', ⟨v', f', n'⟩⟩ := y
  refine cm_of (tab := tb) (ok := tbOk) [.g [.v (.int .i64 age), .v (.slice s.a1 seq.length s.c1), .v (.slice s.a2 q.length s.c2), .v (.slice s.a3 hs.length s.c3), .v (.int .i64 v), .v (.int .i64 f), .v (.int .u64 n)], .g [.v (.int .i64 age'), .v (.slice r.a1 seq'.length r.c1), .v (.slice r.a2 q'.length r.c2), .v (.slice r.a3 hs'.length r.c3), .v (.int .i64 v'), .v (.int .i64 f'), .v (.int .u64 n')]] Tryz.func108 Tryz.ntmps108 rfl rfl (fun _ _ => rfl) ?_
  intro w0 A0
  refine ojs_call [] [] rfl rfl rfl rfl rfl rfl rfl (by simp) (fun _ => compareJ_c age age') (by simp) (.inl rfl) ?_
  rintro e cs F1 _ ⟨rfl, rfl⟩
  by_cases ha : age = age'
  rotate_left
  · rw [show decide ((⟨age, seq, q, hs, ⟨v, f, n⟩⟩ : Tok) = ⟨age', seq', q', hs', ⟨v', f', n'⟩⟩) = false by simp [ha]]
    have e : cmpI age age' = -1 ∨ cmpI age age' = 1 := by
      unfold cmpI
      by_cases h : age < age'
      · exact .inl (if_pos h)
      · right
        rw [if_neg h, if_pos (by omega)]
    rcases e with e | e
    · rw [e]
      exact endR_ok [] rfl rfl ⟨rfl, rfl⟩ rfl (fun _ => ⟨rfl, rfl⟩) (by simp)
    · rw [e]
      exact endR_ok [] rfl rfl ⟨rfl, rfl⟩ rfl (fun _ => ⟨rfl, rfl⟩) (by simp)
  rw [show cmpI age age' = 0 by unfold cmpI; rw [if_neg (by omega), if_neg (by omega)]]
  refine ojs_call [] [] rfl rfl rfl rfl rfl rfl rfl (by simp) (fun _ => eqJ_c s.a1 r.a1 s.c1 r.c1 seq seq' hx1 hy1) (by simp [tokF]) (.inl rfl) ?_
  rintro e cs F1 _ ⟨rfl, rfl⟩
  cases h1 : decide (seq = seq')
  · rw [show decide ((⟨age, seq, q, hs, ⟨v, f, n⟩⟩ : Tok) = ⟨age', seq', q', hs', ⟨v', f', n'⟩⟩) = false by simp at h1; simp [h1]]
    exact endR_ok [] rfl rfl ⟨rfl, rfl⟩ rfl (fun _ => ⟨rfl, rfl⟩) (by simp)
  refine ojs_call [] [] rfl rfl rfl rfl rfl rfl rfl (by simp) (fun _ => eqWt_c s.a2 r.a2 s.c2 r.c2 q q' hx2 hy2) (by simp [tokF]) (.inl rfl) ?_
  rintro e cs F1 _ ⟨rfl, rfl⟩
  cases h2 : decide (q = q')
  · rw [show decide ((⟨age, seq, q, hs, ⟨v, f, n⟩⟩ : Tok) = ⟨age', seq', q', hs', ⟨v', f', n'⟩⟩) = false by simp at h2; simp [h2]]
    exact endR_ok [] rfl rfl ⟨rfl, rfl⟩ rfl (fun _ => ⟨rfl, rfl⟩) (by simp)
  refine ojs_call [] [] rfl rfl rfl rfl rfl rfl rfl (by simp) (fun _ => eqHd_c s.a3 r.a3 s.c3 r.c3 hs hs' hx3 hy3) (by simp [tokF]) (.inl rfl) ?_
  rintro e cs F1 _ ⟨rfl, rfl⟩
  cases h3 : decide (hs = hs')
  · rw [show decide ((⟨age, seq, q, hs, ⟨v, f, n⟩⟩ : Tok) = ⟨age', seq', q', hs', ⟨v', f', n'⟩⟩) = false by simp at h3; simp [h3]]
    exact endR_ok [] rfl rfl ⟨rfl, rfl⟩ rfl (fun _ => ⟨rfl, rfl⟩) (by simp)
  refine ojs_yd (yd_eqF (xs := ctrL ⟨v, f, n⟩) (ys := ctrL ⟨v', f', n'⟩) (r := decide ((⟨v, f, n⟩ : Ctr) = ⟨v', f', n'⟩)) (ks := [4, 4, 8]) flatCtr okCtr rfl rfl rfl (fun _ => rfl) (fun _ => rfl) (fitCtr _ _)) rfl ?_
  rw [show decide ((⟨age, seq, q, hs, ⟨v, f, n⟩⟩ : Tok) = ⟨age', seq', q', hs', ⟨v', f', n'⟩⟩) = decide ((⟨v, f, n⟩ : Ctr) = ⟨v', f', n'⟩) by simp at h1 h2 h3; simp [ha, h1, h2, h3]]
  exact endR_ok [] rfl rfl ⟨rfl, rfl⟩ rfl (fun _ => ⟨rfl, rfl⟩) (by simp)
set_option maxHeartbeats 2000000 in
theorem refTokSame_c (x y : Tok) (s r : Sls) (hx : x.small) (hy : y.small) : Cm Tryz.prog 24 [.agg (tokV x s).toArray, .agg (tokV y r).toArray] [] (tokF x s ++ tokF y r) (rets (.bool (decide (x = y)))) := by
  obtain ⟨hx1, hx2, hx3⟩ := hx
  obtain ⟨hy1, hy2, hy3⟩ := hy
  obtain ⟨age, seq, q, hs, ⟨v, f, n⟩⟩ := x
  obtain ⟨age', seq', q', hs', ⟨v', f', n'⟩⟩ := y
  dsimp only at hx1 hx2 hx3 hy1 hy2 hy3
  obtain ⟨a1, c1, a2, c2, a3, c3⟩ := s
  obtain ⟨d1, e1, d2, e2, d3, e3⟩ := r
  unfold tokF
  dsimp only
  refine cm_of (tab := tb) (ok := tbOk) [.g [.v (.int .i64 age), .v (.slice a1 seq.length c1), .v (.slice a2 q.length c2), .v (.slice a3 hs.length c3), .v (.int .i64 v), .v (.int .i64 f), .v (.int .u64 n)], .g [.v (.int .i64 age'), .v (.slice d1 seq'.length e1), .v (.slice d2 q'.length e2), .v (.slice d3 hs'.length e3), .v (.int .i64 v'), .v (.int .i64 f'), .v (.int .u64 n')]] Tryz.func24 Tryz.ntmps24 rfl rfl (fun _ _ => rfl) ?_
  intro w0 A0
  obtain ⟨Z, hZ⟩ : ∃ Z : Bool, Z = decide ((⟨age, seq, q, hs, ⟨v, f, n⟩⟩ : Tok) = ⟨age', seq', q', hs', ⟨v', f', n'⟩⟩) := ⟨_, rfl⟩
  rw [← hZ]
  refine brB_split (fun ha => ?_) (fun ha => ?_)
  · have ha : age ≠ age' := by simpa using ha
    rw [show Z = false by rw [hZ]; simp [ha]]
    exact endR_ok [] rfl rfl ⟨rfl, rfl⟩ rfl (fun _ => ⟨rfl, rfl⟩) (by simp)
  have ha : age = age' := by simpa using ha
  refine brB_split (fun h1 => ?_) (fun h1 => ?_)
  · have h1 : seq ≠ seq' := by rintro rfl; simp at h1
    rw [show Z = false by rw [hZ]; simp [h1]]
    exact endR_ok [] rfl rfl ⟨rfl, rfl⟩ rfl (fun _ => ⟨rfl, rfl⟩) (by simp)
  have hlen : seq.length = seq'.length := by simp at h1; omega
  refine ojs_yd (yd_neF (xs := ctrL ⟨v, f, n⟩) (ys := ctrL ⟨v', f', n'⟩) (r := decide ((⟨v, f, n⟩ : Ctr) = ⟨v', f', n'⟩)) (ks := [4, 4, 8]) flatCtr okCtr rfl rfl rfl (fun _ => rfl) (fun _ => rfl) (fitCtr _ _)) rfl ?_
  cases hc : decide ((⟨v, f, n⟩ : Ctr) = ⟨v', f', n'⟩)
  · rw [show Z = false by simp only [decide_eq_false_iff_not] at hc; rw [hZ]; simp only [decide_eq_false_iff_not]; intro h; injection h with _ _ _ _ h5; exact hc h5]
    exact endR_ok [] rfl rfl ⟨rfl, rfl⟩ rfl (fun _ => ⟨rfl, rfl⟩) (by simp)
  simp only [decide_eq_true_eq] at hc
  refine cjs_loopP (γ := Nat) (fun k => k ≤ seq.length ∧ ∀ j, j < k → seq[j]? = seq'[j]?) (fun k => [(5, .o (.v (.int .i64 k)))]) (fun _ => []) (fun _ => []) (fun k => seq.length - k) 0 ⟨Nat.zero_le _, fun j hj => by omega⟩ (wk_patch (by repeat' (first | exact trivial | exact Or.inl rfl | refine Or.inr ⟨?_, ?_⟩ | rfl | refine ⟨?_, ?_⟩ | exact lt_all_v)) (by repeat' (first | exact trivial | exact Or.inl rfl | refine Or.inr ⟨?_, ?_⟩ | rfl | refine ⟨?_, ?_⟩ | exact lt_all_v)) (fun f hf => hf) (by simp) D_nil) ?_
  rintro k ⟨hk, heq⟩
  refine brB_dec (fun h2 => ?_) (fun h2 => ?_)
  rotate_left
  · have hseq : seq = seq' := by
      refine List.ext_getElem? fun j => ?_
      by_cases hj : j < k
      · exact heq j hj
      · rw [List.getElem?_eq_none (by omega), List.getElem?_eq_none (by omega)]
    refine ojs_call [] [] rfl rfl rfl rfl rfl rfl rfl (by simp) (fun _ => refSameW_c a2 d2 c2 e2 q q' hx2 hy2) (by simp) (.inl rfl) ?_
    rintro e cs F1 _ ⟨rfl, rfl⟩
    cases h3 : decide (q = q')
    · rw [show Z = false by simp at h3; rw [hZ]; simp [h3]]
      exact endR_ok [] rfl rfl ⟨rfl, rfl⟩ rfl (fun _ => ⟨rfl, rfl⟩) (by simp)
    refine ojs_call [] [] rfl rfl rfl rfl rfl rfl rfl (by simp) (fun _ => refSameH_c a3 d3 c3 e3 hs hs' hx3 hy3) (by simp) (.inl rfl) ?_
    rintro e cs F1 _ ⟨rfl, rfl⟩
    rw [show Z = decide (hs = hs') by simp at h3; rw [hZ, ha, hseq, h3, hc]; simp]
    exact endR_ok [] rfl rfl ⟨rfl, rfl⟩ rfl (fun _ => ⟨rfl, rfl⟩) (by simp)
  obtain ⟨x, hx⟩ := at_some (xs := seq) (k := k) (by omega)
  obtain ⟨y, hy⟩ := at_some (xs := seq') (k := k) (by omega)
  refine cjs_fact (slF encI 1 (.slice a1 seq.length c1) seq) (by simp) (slF_neE hx) ?_
  rintro ⟨b, off, rfl⟩
  refine cjs_fact (slF encI 1 (.slice d1 seq'.length e1) seq') (by simp) (slF_neE hy) ?_
  rintro ⟨b2, off2, rfl⟩
  refine cjs_drawn [] (.op 0 <| .op 1 <| .op 2 <| .op 3 <| .op 4 <| .op 5 <| .op 6 <| .op 7 <| .op 8 <| .op 9 <| .op 10 .z) [0, 1] [] [] [slF encI 1 (.slice (some ⟨b, off, none⟩) seq.length c1) seq, slF encI 1 (.slice (some ⟨b2, off2, none⟩) seq'.length e1) seq'] (by kernel_rfl) (by kernel_rfl) rfl (by simp) (by simp) ?_
  intro N
  refine ⟨_, yd_index (i := k) rfl (by omega) rfl rfl rfl rfl, ?_⟩
  refine ⟨_, yd_load1 (slF encI 1 (.slice (some ⟨b, off, none⟩) seq.length c1) seq) (by simp) (slF_at hx (j := 0) rfl) rfl rfl rfl, ?_⟩
  refine ⟨_, yd_index (i := k) rfl (by omega) rfl rfl rfl rfl, ?_⟩
  refine ⟨_, yd_load1 (slF encI 1 (.slice (some ⟨b2, off2, none⟩) seq'.length e1) seq') (by simp) (slF_at hy (j := 0) rfl) rfl rfl rfl, ?_⟩
  refine brB_split (fun hxy => ?_) (fun hxy => ?_)
  rotate_left
  · have hxy : x = y := by simpa using hxy
    refine ojs_arith (z := ((k + 1 : Nat) : Int)) (by first | decide | (rw [wrap_in] <;> omega) | (dsimp only; rw [wrap_in] <;> omega)) rfl rfl rfl rfl ?_
    refine ⟨k + 1, ⟨by omega, fun j hj => ?_⟩, (by first | omega | (dsimp only; omega)), wk_patch (by repeat' (first | exact trivial | exact Or.inl rfl | refine Or.inr ⟨?_, ?_⟩ | rfl | refine ⟨?_, ?_⟩ | exact lt_all_v)) (by repeat' (first | exact trivial | exact Or.inl rfl | refine Or.inr ⟨?_, ?_⟩ | rfl | refine ⟨?_, ?_⟩ | exact lt_all_v)) (fun f hf => hf) (by simp) D_nil⟩
    rcases Nat.lt_succ_iff_lt_or_eq.1 hj with h | rfl
    · exact heq j h
    · rw [hx, hy, hxy]
  · have hxy : x ≠ y := by simpa using hxy
    have hne := neAtE hx hy hxy
    rw [show Z = false by rw [hZ]; simp [hne]]
    exact endR_ok [] rfl rfl ⟨rfl, rfl⟩ rfl (fun _ => ⟨rfl, rfl⟩) (by simp)
end Go.Proofs.YtmhnlkakbadkgaaGreat
