/- Sites, by the symbolic run: the reference's number and Parse. -/
import Derived.Test.YtehfodoocfpkoaaDoorStH
namespace Go.Proofs.YtehfodoocfpkoaaDoor
open Go.RowKit Go.Shelf

theorem take_all {l : Bs} {i : Nat} {b : UInt8} (h : l[i]? = some b) (ha : (l.take i).all isD = true) (hb : isD b = true) : (l.take (i + 1)).all isD = true := by
  rw [take_snoc h, List.all_append, ha]
  simp [hb]
theorem numN_no {l : Bs} (h : ¬ (l.all isD = true ∧ l.length ≤ 13)) : numN l = -1 := by unfold numN; rw [if_neg h]
theorem u8_wrap {b : UInt8} (h1 : 48 ≤ b.toNat) : IntKind.u8.wrap ((b.toNat : Int) - 48) = ((b.toNat - 48 : Nat) : Int) := by
  have := b.toNat_lt
  simp only [IntKind.wrap, IntKind.bits, IntKind.signed]
  simp
  omega

set_option maxHeartbeats 1000000 in
theorem refNumber_c (s : ByteArray) (hsz : s.size ≤ 1000) : Cm Tryd.prog 41 [.string s] [] [libF] (rets (.int .i64 (numN s.data.toList))) := by
  refine cm_of (tab := tb) (ok := tbOk) [.o (.v (.string s))] Tryd.func41 Tryd.ntmps41 rfl rfl (fun _ _ => rfl) ?_
  intro w0 A0
  obtain ⟨p, hp⟩ : ∃ p, p = s.data.toList := ⟨_, rfl⟩
  have hpl : p.length = s.size := by rw [hp, Array.length_toList]; rfl
  have hat : ∀ i b, p[i]? = some b → s.data[i]? = some b := fun i b h => by rw [hp, Array.getElem?_toList] at h; exact h
  rw [← hp]
  refine cjs_loopP (γ := Nat) (fun i => i ≤ p.length ∧ i ≤ 13 ∧ (p.take i).all isD = true) (fun i => [(3, .o (.v (.int .i64 (digF 0 (p.take i) : Nat)))), (4, .o (.v (.int .i64 i)))]) (fun _ => []) (fun _ => []) (fun i => p.length - i) 0 ⟨Nat.zero_le _, by omega, rfl⟩ (wk_patch (by repeat' (first | exact trivial | exact Or.inl rfl | refine Or.inr ⟨?_, ?_⟩ | rfl | refine ⟨?_, ?_⟩ | exact lt_all_v)) (by repeat' (first | exact trivial | exact Or.inl rfl | refine Or.inr ⟨?_, ?_⟩ | rfl | refine ⟨?_, ?_⟩ | exact lt_all_v)) (by simp) (by simp) D_nil) ?_
  rintro i ⟨hi, h13, hal⟩
  refine optK_of (yd_strLen (by kernel_rfl) rfl rfl rfl rfl rfl) ?_
  refine brB_dec (fun h => ?_) (fun h => ?_)
  · have hil : i < p.length := by omega
    obtain ⟨b, hb⟩ := at_some (xs := p) (k := i) hil
    have bad : ¬ (isD b = true ∧ i ≤ 12) → numN p = -1 := fun hn => numN_no fun ⟨ha, hl⟩ => hn ⟨List.all_eq_true.1 ha b (List.mem_of_getElem? hb), by omega⟩
    refine optK_of (yd_strIdx (by kernel_rfl) rfl (hat i b hb) rfl rfl rfl) ?_
    refine brB_dec (fun h1 => ?_) (fun h1 => ?_)
    · rw [bad fun e => by have := e.1; simp [isD] at this; omega]
      exact endR_ok [] rfl rfl ⟨rfl, rfl⟩ rfl (fun _ => ⟨rfl, rfl⟩) (by simp)
    refine optK_of (yd_strIdx (by kernel_rfl) rfl (hat i b hb) rfl rfl rfl) ?_
    refine brB_dec (fun h2 => ?_) (fun h2 => ?_)
    · rw [bad fun e => by have := e.1; simp [isD] at this; omega]
      exact endR_ok [] rfl rfl ⟨rfl, rfl⟩ rfl (fun _ => ⟨rfl, rfl⟩) (by simp)
    refine brB_dec (fun h3 => ?_) (fun h3 => ?_)
    · rw [bad fun e => by omega]
      exact endR_ok [] rfl rfl ⟨rfl, rfl⟩ rfl (fun _ => ⟨rfl, rfl⟩) (by simp)
    have hd : isD b = true := by simp [isD]; omega
    have hlt := digF_lt (p.take i) 0 hal
    have hpow : 10 ^ (p.take i).length ≤ 10 ^ 13 := Nat.pow_le_pow_right (by omega) (by rw [List.length_take]; omega)
    have hst : digF 0 (p.take (i + 1)) = digF 0 (p.take i) * 10 + (b.toNat - 48) := by rw [take_snoc hb, digF_snoc]
    have hbl := b.toNat_lt
    refine ojs_arith (z := ((digF 0 (p.take i) * 10 : Nat) : Int)) (by rw [wrap_in] <;> omega) rfl rfl rfl rfl ?_
    refine optK_of (yd_strIdx (by kernel_rfl) rfl (hat i b hb) rfl rfl rfl) ?_
    refine ojs_arith (z := ((b.toNat - 48 : Nat) : Int)) (u8_wrap (by omega)) rfl rfl rfl rfl ?_
    refine optK_of (yd_conv (r := ((b.toNat - 48 : Nat) : Int)) (by kernel_rfl) (by kernel_rfl) (by rw [wrap_in] <;> omega) rfl rfl) ?_
    refine ojs_arith (z := ((digF 0 (p.take (i + 1)) : Nat) : Int)) (by rw [hst, wrap_in] <;> omega) rfl rfl rfl rfl ?_
    refine ojs_arith (z := ((i + 1 : Nat) : Int)) (by first | decide | (rw [wrap_in] <;> omega) | (dsimp only; rw [wrap_in] <;> omega)) rfl rfl rfl rfl ?_
    exact ⟨i + 1, ⟨by omega, by omega, take_all hb hal hd⟩, (by first | omega | (dsimp only; omega)), (wk_patch (by repeat' (first | exact trivial | exact Or.inl rfl | refine Or.inr ⟨?_, ?_⟩ | rfl | refine ⟨?_, ?_⟩ | exact lt_all_v)) (by repeat' (first | exact trivial | exact Or.inl rfl | refine Or.inr ⟨?_, ?_⟩ | rfl | refine ⟨?_, ?_⟩ | exact lt_all_v)) (by simp) (by simp) D_nil)⟩
  · obtain rfl : i = p.length := by omega
    rw [List.take_length] at hal ⊢
    have hlt := digF_lt p 0 hal
    have hpow : 10 ^ p.length ≤ 10 ^ 13 := Nat.pow_le_pow_right (by omega) h13
    refine ojs_call [] [] rfl rfl rfl rfl rfl rfl rfl (by simp) (fun _ => formatN_c ((digF 0 p : Nat) : Int) (by omega) (by omega) rfl) (by simp) (.inl rfl) ?_
    rintro e cs F1 _ ⟨rfl, rfl⟩
    refine optK_of (yd_strNe (s := itoaS ((digF 0 p : Nat) : Int)) str_ne rfl rfl rfl) ?_
    rw [← hp]
    refine brB_dec (fun h1 => ?_) (fun h1 => ?_)
    · have : numN p = -1 := by unfold numN; rw [if_pos ⟨hal, h13⟩, if_neg h1]
      rw [this]
      exact endR_ok [] rfl rfl ⟨rfl, rfl⟩ rfl (fun _ => ⟨rfl, rfl⟩) (by simp)
    · have : numN p = ((digF 0 p : Nat) : Int) := by unfold numN; rw [if_pos ⟨hal, h13⟩, if_pos (Classical.not_not.1 h1)]
      rw [this]
      exact endR_ok [] rfl rfl ⟨rfl, rfl⟩ rfl (fun _ => ⟨rfl, rfl⟩) (by simp)

theorem appHead_ne (pre : Bs) (l : List Bs) : appHead pre l ≠ [] := by cases l <;> simp [appHead]
theorem appHead_nil {l : List Bs} (h : l ≠ []) : appHead [] l = l := by cases l with | nil => exact absurd rfl h | cons p ps => rfl
theorem splitL_dot {pre r : Bs} : appHead pre (splitL (46 :: r)) = pre :: splitL r := by
  rw [splitL, if_pos rfl]; simp [appHead]
theorem splitL_step {pre r : Bs} {c : UInt8} (hc : ¬ c = 46) : appHead pre (splitL (c :: r)) = appHead (pre ++ [c]) (splitL r) := by
  rw [splitL, if_neg hc]
  cases h : splitL r with
  | nil => exact absurd h (splitL_ne r)
  | cons p ps => simp [appHead]
/-- What the pieces' loop keeps. -/
structure SpI (t : Bs) (i frm : Nat) (done : List ByteArray) : Prop where
  fi : frm ≤ i
  li : i ≤ t.length + 1
  dl : done.length ≤ i
  go : i ≤ t.length → splitL t = done.map (·.data.toList) ++ appHead ((t.drop frm).take (i - frm)) (splitL (t.drop i))
  fin : i = t.length + 1 → splitL t = done.map (·.data.toList)
theorem SpI.piece {t : Bs} {i frm : Nat} {done : List ByteArray} {x : ByteArray} (h : SpI t i frm done) (hi : i < t.length → t[i]? = some 46) (hl : i ≤ t.length) (hx : x.data.toList = (t.drop frm).take (i - frm)) : SpI t (i + 1) (i + 1) (done ++ [x]) := by
  have hf := h.fi
  have hd := h.dl
  have hg := h.go hl
  refine ⟨Nat.le_refl _, by omega, by simp; omega, fun h1 => ?_, fun h1 => ?_⟩
  · have h46 := hi (by omega)
    obtain ⟨hlt, he⟩ := List.getElem?_eq_some_iff.1 h46
    rw [List.drop_eq_getElem_cons hlt, he, splitL_dot] at hg
    rw [hg, List.map_append, List.append_assoc, Nat.sub_self, List.take_zero, appHead_nil (splitL_ne _), ← hx]
    rfl
  · have : i = t.length := by omega
    subst this
    rw [List.drop_length] at hg
    rw [hg, List.map_append, ← hx]
    simp [splitL, appHead]
theorem SpI.on {t : Bs} {i frm : Nat} {done : List ByteArray} {c : UInt8} (h : SpI t i frm done) (hc : t[i]? = some c) (hn : ¬ c = 46) : SpI t (i + 1) frm done := by
  have hf := h.fi
  have hd := h.dl
  obtain ⟨hlt, he⟩ := List.getElem?_eq_some_iff.1 hc
  have hg := h.go (by omega)
  refine ⟨by omega, by omega, by omega, fun h1 => ?_, fun h1 => by omega⟩
  rw [List.drop_eq_getElem_cons hlt, he, splitL_step hn] at hg
  rw [hg]
  congr 2
  have e1 : i + 1 - frm = (i - frm) + 1 := by omega
  have e2 : (t.drop frm)[i - frm]? = some c := by rw [List.getElem?_drop, show frm + (i - frm) = i by omega]; exact hc
  rw [e1, take_snoc e2]
theorem encS_one {xs : List ByteArray} : ∀ u ∈ xs.flatMap encS, u.oneCell' = true := by
  intro u hu
  obtain ⟨x, _, hx⟩ := List.mem_flatMap.1 hu
  cases List.mem_singleton.1 hx
  rfl

set_option maxRecDepth 20000 in
set_option maxHeartbeats 2000000 in
theorem refParse_c (n l s : Int) (text : ByteArray) (hsz : text.size ≤ 200) : Cm Tryd.prog 22 [.agg #[.int .i64 n, .int .i64 l, .int .i64 s], .string text] [] [libF] (parR (parX n l s text.data.toList)) := by
  refine cm_of (tab := tb) (ok := tbOk) [.g [.v (.int .i64 n), .v (.int .i64 l), .v (.int .i64 s)], .o (.v (.string text))] Tryd.func22 Tryd.ntmps22 rfl rfl (fun _ _ => rfl) ?_
  intro w0 A0
  refine ojs_call [] [] rfl rfl rfl rfl rfl rfl rfl (by simp) (fun _ => refShape_c n l s) (by simp) (.inl rfl) ?_
  rintro e cs F1 _ ⟨rfl, rfl⟩
  cases hs : shapeB n l s
  · have hX : parX n l s text.data.toList = ((0, 0, 0, 0), 2) := by unfold parX; rw [if_neg (by rw [hs]; simp)]
    rw [hX]
    exact endR_ok [] rfl rfl ⟨rfl, rfl⟩ rfl (fun _ => ⟨rfl, rfl⟩) (by simp)
  have hb := shapeB_is hs
  obtain ⟨p, hp⟩ : ∃ p, p = text.data.toList := ⟨_, rfl⟩
  have hpl : p.length = text.size := by rw [hp, Array.length_toList]; rfl
  have hat : ∀ i b, p[i]? = some b → text.data[i]? = some b := fun i b h => by rw [hp, Array.getElem?_toList] at h; exact h
  rw [← hp]
  refine cjs_weak (wk_own 9 1) ?_
  refine cjs_loopP (γ := Nat × Nat × List ByteArray × Option Addr × Nat) (fun g => SpI p g.1 g.2.1 g.2.2.1) (fun g => [(6, .o (.v (.slice g.2.2.2.1 g.2.2.1.length g.2.2.2.2))), (7, .o (.v (.int .i64 g.2.1))), (8, .o (.v (.int .i64 g.1)))])
    (fun g => [(2, .own (.slice g.2.2.2.1 g.2.2.1.length g.2.2.2.2) 9 1 g.2.2.1.length (g.2.2.1.flatMap encS))]) (fun _ => []) (fun g => p.length + 1 - g.1) (0, 0, [], none, 0) ⟨Nat.le_refl _, Nat.zero_le _, Nat.le_refl _, fun _ => by simp [appHead_nil (splitL_ne p)], fun h => by omega⟩ (wk_patch (by repeat' (first | exact trivial | exact Or.inl rfl | refine Or.inr ⟨?_, ?_⟩ | rfl | refine ⟨?_, ?_⟩ | exact lt_all_v)) (by repeat' (first | exact trivial | exact Or.inl rfl | refine Or.inr ⟨?_, ?_⟩ | rfl | refine ⟨?_, ?_⟩ | exact lt_all_v)) (by simp) (by simp) D_nil) ?_
  rintro ⟨i, frm, done, a1, c1⟩ hI
  have hfi := hI.fi
  have hli := hI.li
  have hdl := hI.dl
  simp only at hfi hli hdl hI
  refine optK_of (yd_strLen (by kernel_rfl) rfl rfl rfl rfl rfl) ?_
  refine brB_dec (fun h => ?_) (fun h => ?_)
  · have hil : i ≤ p.length := by dsimp only at h; omega
    refine optK_of (yd_strLen (by kernel_rfl) rfl rfl rfl rfl rfl) ?_
    refine brB_split (fun h1 => ?_) (fun h1 => ?_)
    · have hie : i = p.length := by simp at h1; omega
      have h46 : i < p.length → p[i]? = some 46 := fun h => by omega
      have hext : (text.extract frm i).data.toList = (p.drop frm).take (i - frm) := by rw [Lib.extract_data, hp]
      refine optK_of (yd_strSlice (l := frm) (h := i) (by kernel_rfl) rfl rfl hfi (by omega) rfl rfl rfl rfl) ?_
      refine ojs_append 2 rfl rfl rfl rfl rfl rfl rfl rfl rfl (by omega) rfl rfl rfl (srcL (news := [.string (text.extract frm i)]) rfl rfl) rfl (by simp [Value.oneCell']) (by dsimp only; omega) (by dsimp only; simp [maxLen]; omega) ?_
      intro a3 c3
      refine ojs_arith (z := ((i + 1 : Nat) : Int)) (by dsimp only; rw [wrap_in] <;> omega) rfl rfl rfl rfl ?_
      refine ojs_arith (z := ((i + 1 : Nat) : Int)) (by dsimp only; rw [wrap_in] <;> omega) rfl rfl rfl rfl ?_
      have e1 : (done ++ [text.extract frm i]).length = done.length + 1 := by simp
      have e2 : (done ++ [text.extract frm i]).flatMap encS = done.flatMap encS ++ [.string (text.extract frm i)] := by simp [encS]
      refine ⟨(i + 1, i + 1, done ++ [text.extract frm i], a3, c3), hI.piece h46 hil hext, (by first | omega | (dsimp only; omega)), ?_⟩
      dsimp only
      rw [e1, e2]
      exact (wk_patch (by repeat' (first | exact trivial | exact Or.inl rfl | refine Or.inr ⟨?_, ?_⟩ | rfl | refine ⟨?_, ?_⟩ | exact lt_all_v)) (by repeat' (first | exact trivial | exact Or.inl rfl | refine Or.inr ⟨?_, ?_⟩ | rfl | refine ⟨?_, ?_⟩ | exact lt_all_v)) (by simp) (by simp) D_nil)
    · have hlt : i < p.length := by simp at h1; omega
      obtain ⟨b, hb1⟩ := at_some (xs := p) (k := i) hlt
      refine optK_of (yd_strIdx (by kernel_rfl) rfl (hat i b hb1) rfl rfl rfl) ?_
      refine brB_split (fun h2 => ?_) (fun h2 => ?_)
      · have hb46 : b = 46 := by
          have : b.toNat = 46 := by simp at h2; omega
          exact UInt8.toNat_inj.1 this
        have h46 : i < p.length → p[i]? = some 46 := fun _ => by rw [hb1, hb46]
        have hext : (text.extract frm i).data.toList = (p.drop frm).take (i - frm) := by rw [Lib.extract_data, hp]
        refine optK_of (yd_strSlice (l := frm) (h := i) (by kernel_rfl) rfl rfl hfi (by omega) rfl rfl rfl rfl) ?_
        refine ojs_append 2 rfl rfl rfl rfl rfl rfl rfl rfl rfl (by omega) rfl rfl rfl (srcL (news := [.string (text.extract frm i)]) rfl rfl) rfl (by simp [Value.oneCell']) (by dsimp only; omega) (by dsimp only; simp [maxLen]; omega) ?_
        intro a3 c3
        refine ojs_arith (z := ((i + 1 : Nat) : Int)) (by dsimp only; rw [wrap_in] <;> omega) rfl rfl rfl rfl ?_
        refine ojs_arith (z := ((i + 1 : Nat) : Int)) (by dsimp only; rw [wrap_in] <;> omega) rfl rfl rfl rfl ?_
        have e1 : (done ++ [text.extract frm i]).length = done.length + 1 := by simp
        have e2 : (done ++ [text.extract frm i]).flatMap encS = done.flatMap encS ++ [.string (text.extract frm i)] := by simp [encS]
        refine ⟨(i + 1, i + 1, done ++ [text.extract frm i], a3, c3), hI.piece h46 hil hext, (by first | omega | (dsimp only; omega)), ?_⟩
        dsimp only
        rw [e1, e2]
        exact (wk_patch (by repeat' (first | exact trivial | exact Or.inl rfl | refine Or.inr ⟨?_, ?_⟩ | rfl | refine ⟨?_, ?_⟩ | exact lt_all_v)) (by repeat' (first | exact trivial | exact Or.inl rfl | refine Or.inr ⟨?_, ?_⟩ | rfl | refine ⟨?_, ?_⟩ | exact lt_all_v)) (by simp) (by simp) D_nil)
      · have hb46 : ¬ b = 46 := fun e => by subst e; simp at h2
        refine ojs_arith (z := ((i + 1 : Nat) : Int)) (by first | decide | (rw [wrap_in] <;> omega) | (dsimp only; rw [wrap_in] <;> omega)) rfl rfl rfl rfl ?_
        exact ⟨(i + 1, frm, done, a1, c1), hI.on hb1 hb46, (by first | omega | (dsimp only; omega)), (wk_patch (by repeat' (first | exact trivial | exact Or.inl rfl | refine Or.inr ⟨?_, ?_⟩ | rfl | refine ⟨?_, ?_⟩ | exact lt_all_v)) (by repeat' (first | exact trivial | exact Or.inl rfl | refine Or.inr ⟨?_, ?_⟩ | rfl | refine ⟨?_, ?_⟩ | exact lt_all_v)) (by simp) (by simp) D_nil)⟩
  · obtain rfl : i = p.length + 1 := by dsimp only at h; omega
    have hfin := hI.fin rfl
    refine brB_split (fun h1 => ?_) (fun h1 => ?_)
    · have hX := parX_len (n := n) (l := l) (s := s) (text := p) hs (by
        rw [hfin, List.length_map]
        intro e
        rw [e] at h1; simp at h1)
      rw [hX]
      exact endR_ok [] rfl rfl ⟨rfl, rfl⟩ rfl (fun _ => ⟨rfl, rfl⟩) (by simp)
    have hlen : done.length = 4 := by simp at h1; omega
    match done, hlen, hfin with
    | [x0, x1, x2, x3], _, hfin =>
      have ht : splitL p = [x0.data.toList, x1.data.toList, x2.data.toList, x3.data.toList] := hfin
      have hx : ∀ x ∈ [x0, x1, x2, x3], x.size ≤ 1000 := fun x hx => by
        have hm : x.data.toList ∈ splitL p := by
          rw [ht]
          simp only [List.mem_cons, List.not_mem_nil, or_false] at hx ⊢
          rcases hx with rfl | rfl | rfl | rfl <;> simp
        have := splitL_le _ _ hm
        rw [Array.length_toList] at this
        have e1 : x.size = x.data.size := rfl
        omega
      have z0 := hx x0 (by simp)
      have z1 := hx x1 (by simp)
      have z2 := hx x2 (by simp)
      have z3 := hx x3 (by simp)
      have ref : ∀ (x : ByteArray) (lo hi : Int), 0 ≤ lo → hi ≤ 1099511627776 → (numN x.data.toList < lo ∨ hi < numN x.data.toList) → numB x.data.toList lo hi = none := fun x lo hi h0 h1 h2 => by
        rw [numB_ref h0 h1, if_neg (by omega)]
      have c0 := refNumber_c x0 z0
      have c1' := refNumber_c x1 z1
      have c2' := refNumber_c x2 z2
      have c3' := refNumber_c x3 z3
      have B0 : (numN x0.data.toList < 0 ∨ n - 1 < numN x0.data.toList) → parX n l s p = ((0, 0, 0, 0), 150) := fun h => parX_bad hs ht (Or.inl (ref x0 _ (n - 1) (by omega) (by omega) h))
      have B1 : (numN x1.data.toList < 0 ∨ l - 1 < numN x1.data.toList) → parX n l s p = ((0, 0, 0, 0), 150) := fun h => parX_bad hs ht (Or.inr (Or.inl (ref x1 _ (l - 1) (by omega) (by omega) h)))
      have B2 : (numN x2.data.toList < 0 ∨ s - 1 < numN x2.data.toList) → parX n l s p = ((0, 0, 0, 0), 150) := fun h => parX_bad hs ht (Or.inr (Or.inr (Or.inl (ref x2 _ (s - 1) (by omega) (by omega) h))))
      have B3 : (numN x3.data.toList < 1 ∨ 1099511627776 < numN x3.data.toList) → parX n l s p = ((0, 0, 0, 0), 150) := fun h => parX_bad hs ht (Or.inr (Or.inr (Or.inr (ref x3 _ 1099511627776 (by omega) (by omega) h))))
      have r0 := numB_ref (p := x0.data.toList) (lo := 0) (hi := n - 1) (by omega) (by omega)
      have r1 := numB_ref (p := x1.data.toList) (lo := 0) (hi := l - 1) (by omega) (by omega)
      have r2 := numB_ref (p := x2.data.toList) (lo := 0) (hi := s - 1) (by omega) (by omega)
      have r3 := numB_ref (p := x3.data.toList) (lo := 1) (hi := 1099511627776) (by omega) (by omega)
      have G : (0 ≤ numN x0.data.toList ∧ numN x0.data.toList ≤ n - 1) → (0 ≤ numN x1.data.toList ∧ numN x1.data.toList ≤ l - 1) → (0 ≤ numN x2.data.toList ∧ numN x2.data.toList ≤ s - 1) → (1 ≤ numN x3.data.toList ∧ numN x3.data.toList ≤ 1099511627776) → parX n l s p = ((numN x0.data.toList, numN x1.data.toList, numN x2.data.toList, numN x3.data.toList), 0) := fun g0 g1 g2 g3 =>
        parX_good (n := n) (l := l) (s := s) hs ht (r0.trans (if_pos g0)) (r1.trans (if_pos g1)) (r2.trans (if_pos g2)) (r3.trans (if_pos g3))
      clear ref r0 r1 r2 r3
      generalize numN x0.data.toList = n0 at *
      generalize numN x1.data.toList = n1 at *
      generalize numN x2.data.toList = n2 at *
      generalize numN x3.data.toList = n3 at *
      generalize parX n l s p = R at *
      refine cjs_weak (wk_seal (m := 4) (j := 2) (enc := encS) (xs := [x0, x1, x2, x3]) (.inl rfl) encS_len rfl rfl) ?_
      refine cjs_fact (slF encS 1 (.slice a1 4 c1) [x0, x1, x2, x3]) (by simp) (slF_ne (x := x0) (i := 0) rfl) ?_
      rintro ⟨ba, oa, rfl⟩
      refine cjs_turns 5 ?_
      refine ojs_index (i := 0) rfl (by simp) rfl rfl rfl rfl ?_
      refine ojs_load1 (slF encS 1 (.slice (some ⟨ba, oa, none⟩) 4 c1) [x0, x1, x2, x3]) (by simp) (slF_at (x := x0) (i := 0) rfl (j := 0) rfl) rfl rfl rfl ?_
      refine ojs_call [] [] rfl rfl rfl rfl rfl rfl rfl (by simp) (fun _ => c0) (by simp) (.inl rfl) ?_
      rintro e cs F1 _ ⟨rfl, rfl⟩
      refine ojs_indexA (i := 0) rfl (by decide) rfl rfl rfl rfl ?_
      refine ojs_indexA (i := 0) rfl (by decide) rfl rfl rfl rfl ?_
      refine brB_dec (fun v0 => ?_) (fun v0 => ?_)
      · rw [B0 (.inl (by omega))]
        exact endR_ok [] rfl rfl ⟨rfl, rfl⟩ rfl (fun _ => ⟨rfl, rfl⟩) (by simp)
      refine ojs_indexA (i := 0) rfl (by decide) rfl rfl rfl rfl ?_
      refine brB_dec (fun hbig => ?_) (fun hbig => ?_)
      · rw [B0 (.inr (by omega))]
        exact endR_ok [] rfl rfl ⟨rfl, rfl⟩ rfl (fun _ => ⟨rfl, rfl⟩) (by simp)
      refine ojs_arith (z := (((0 + 1 : Nat)) : Int)) (by first | decide | (rw [wrap_in] <;> omega) | (dsimp only; rw [wrap_in] <;> omega)) rfl rfl rfl rfl ?_
      refine ojs_index (i := 1) rfl (by simp) rfl rfl rfl rfl ?_
      refine ojs_load1 (slF encS 1 (.slice (some ⟨ba, oa, none⟩) 4 c1) [x0, x1, x2, x3]) (by simp) (slF_at (x := x1) (i := 1) rfl (j := 0) rfl) rfl rfl rfl ?_
      refine ojs_call [] [] rfl rfl rfl rfl rfl rfl rfl (by simp) (fun _ => c1') (by simp) (.inl rfl) ?_
      rintro e cs F1 _ ⟨rfl, rfl⟩
      refine ojs_indexA (i := 1) rfl (by decide) rfl rfl rfl rfl ?_
      refine ojs_indexA (i := 1) rfl (by decide) rfl rfl rfl rfl ?_
      refine brB_dec (fun v1 => ?_) (fun v1 => ?_)
      · rw [B1 (.inl (by omega))]
        exact endR_ok [] rfl rfl ⟨rfl, rfl⟩ rfl (fun _ => ⟨rfl, rfl⟩) (by simp)
      refine ojs_indexA (i := 1) rfl (by decide) rfl rfl rfl rfl ?_
      refine brB_dec (fun hbig => ?_) (fun hbig => ?_)
      · rw [B1 (.inr (by omega))]
        exact endR_ok [] rfl rfl ⟨rfl, rfl⟩ rfl (fun _ => ⟨rfl, rfl⟩) (by simp)
      refine ojs_arith (z := (((1 + 1 : Nat)) : Int)) (by first | decide | (rw [wrap_in] <;> omega) | (dsimp only; rw [wrap_in] <;> omega)) rfl rfl rfl rfl ?_
      refine ojs_index (i := 2) rfl (by simp) rfl rfl rfl rfl ?_
      refine ojs_load1 (slF encS 1 (.slice (some ⟨ba, oa, none⟩) 4 c1) [x0, x1, x2, x3]) (by simp) (slF_at (x := x2) (i := 2) rfl (j := 0) rfl) rfl rfl rfl ?_
      refine ojs_call [] [] rfl rfl rfl rfl rfl rfl rfl (by simp) (fun _ => c2') (by simp) (.inl rfl) ?_
      rintro e cs F1 _ ⟨rfl, rfl⟩
      refine ojs_indexA (i := 2) rfl (by decide) rfl rfl rfl rfl ?_
      refine ojs_indexA (i := 2) rfl (by decide) rfl rfl rfl rfl ?_
      refine brB_dec (fun v2 => ?_) (fun v2 => ?_)
      · rw [B2 (.inl (by omega))]
        exact endR_ok [] rfl rfl ⟨rfl, rfl⟩ rfl (fun _ => ⟨rfl, rfl⟩) (by simp)
      refine ojs_indexA (i := 2) rfl (by decide) rfl rfl rfl rfl ?_
      refine brB_dec (fun hbig => ?_) (fun hbig => ?_)
      · rw [B2 (.inr (by omega))]
        exact endR_ok [] rfl rfl ⟨rfl, rfl⟩ rfl (fun _ => ⟨rfl, rfl⟩) (by simp)
      refine ojs_arith (z := (((2 + 1 : Nat)) : Int)) (by first | decide | (rw [wrap_in] <;> omega) | (dsimp only; rw [wrap_in] <;> omega)) rfl rfl rfl rfl ?_
      refine ojs_index (i := 3) rfl (by simp) rfl rfl rfl rfl ?_
      refine ojs_load1 (slF encS 1 (.slice (some ⟨ba, oa, none⟩) 4 c1) [x0, x1, x2, x3]) (by simp) (slF_at (x := x3) (i := 3) rfl (j := 0) rfl) rfl rfl rfl ?_
      refine ojs_call [] [] rfl rfl rfl rfl rfl rfl rfl (by simp) (fun _ => c3') (by simp) (.inl rfl) ?_
      rintro e cs F1 _ ⟨rfl, rfl⟩
      refine ojs_indexA (i := 3) rfl (by decide) rfl rfl rfl rfl ?_
      refine ojs_indexA (i := 3) rfl (by decide) rfl rfl rfl rfl ?_
      refine brB_dec (fun v3 => ?_) (fun v3 => ?_)
      · rw [B3 (.inl (by omega))]
        exact endR_ok [] rfl rfl ⟨rfl, rfl⟩ rfl (fun _ => ⟨rfl, rfl⟩) (by simp)
      refine ojs_arith (z := 4) (by decide) rfl rfl rfl rfl ?_
      refine ojs_indexA (i := 0) rfl (by decide) rfl rfl rfl rfl ?_
      refine ojs_indexA (i := 1) rfl (by decide) rfl rfl rfl rfl ?_
      refine ojs_indexA (i := 2) rfl (by decide) rfl rfl rfl rfl ?_
      refine ojs_indexA (i := 3) rfl (by decide) rfl rfl rfl rfl ?_
      refine ojs_call [] [] rfl rfl rfl rfl rfl rfl rfl (by simp) (fun _ => refRight_c n l s (n0, n1, n2, n3)) (by simp) (.inl rfl) ?_
      rintro e cs F1 _ ⟨rfl, rfl⟩
      rw [hs]
      have hT : tkB n l s (n0, n1, n2, n3) = (inB n0 0 (n - 1) && inB n1 0 (l - 1) && inB n2 0 (s - 1) && inB n3 1 1099511627776) := rfl
      rw [hT]
      cases hok : (inB n0 0 (n - 1) && inB n1 0 (l - 1) && inB n2 0 (s - 1) && inB n3 1 1099511627776)
      · have hX : R = ((0, 0, 0, 0), 150) := by
          unfold inB at hok
          simp only [Bool.and_eq_false_iff, decide_eq_false_iff_not] at hok
          by_cases g0 : 0 ≤ n0 ∧ n0 ≤ n - 1
          · by_cases g1 : 0 ≤ n1 ∧ n1 ≤ l - 1
            · by_cases g2 : 0 ≤ n2 ∧ n2 ≤ s - 1
              · exact B3 (by omega)
              · exact B2 (by omega)
            · exact B1 (by omega)
          · exact B0 (by omega)
        rw [hX]
        exact endR_ok [] rfl rfl ⟨rfl, rfl⟩ rfl (fun _ => ⟨rfl, rfl⟩) (by simp)
      · unfold inB at hok
        simp only [Bool.and_eq_true, decide_eq_true_eq] at hok
        rw [G hok.1.1.1 hok.1.1.2 hok.1.2 hok.2]
        exact endR_ok [] rfl rfl ⟨rfl, rfl⟩ rfl (fun _ => ⟨rfl, rfl⟩) (by simp)

end Go.Proofs.YtehfodoocfpkoaaDoor
