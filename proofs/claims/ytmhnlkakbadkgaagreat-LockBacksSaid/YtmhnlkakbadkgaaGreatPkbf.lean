/- Part 32 of the proof of LockBacks: contracts of functions that the law reaches, or the rules by which they are walked. No condition. -/
import Derived.Test.YtmhnlkakbadkgaaGreatPkbe
namespace Go.Proofs.YtmhnlkakbadkgaaGreat
open Go.RowKit Go.Shelf
set_option maxRecDepth 100000
theorem refHas_c (a : Option Addr) (cap : Nat) (xs : List Hd) (z : Int) (hl : xs.length ≤ 1000000) : Cm Tryz.prog 120 [.slice a xs.length cap, .int .i64 z] [] [slF hdL 3 (.slice a xs.length cap) xs] (rets (.bool (xs.any (siteP z)))) := by
  refine cm_of (tab := tb) (ok := tbOk) [.o (.v (.slice a xs.length cap)), .o (.v (.int .i64 z))] Tryz.func120 Tryz.ntmps120 rfl rfl (fun _ _ => rfl) ?_
  intro w0 A0
  refine ojs_call [] [] rfl rfl rfl rfl rfl rfl rfl (by simp) (fun _ => refFindH_c a cap xs z hl) (by simp) (.inl rfl) ?_
  rintro e cs F1 _ ⟨rfl, rfl⟩
  rw [← idxI_any]
  exact endR_ok [] rfl rfl ⟨rfl, rfl⟩ rfl (fun _ => ⟨rfl, rfl⟩) (by simp)
def useB (n : Int) : Bool := decide (0 ≤ n) && decide (n ≤ 1099511627776)
def nextAt (seq : List Int) (site use : Int) : Bool := decide (site < seq.length) && (use - 1 == seq.getD site.toNat 0)
def tokB (n l s : Int) (x : Tok) : Bool := shapeB n l s && useB x.age && ((x.seq.length : Int) == n * s) && waitB x.q && decide (x.hs.length ≤ 256) && holdB x.hs && ctrB x.c && x.seq.all useB && x.q.all (fun w => nextAt x.seq w.site w.use && !x.hs.any (siteP w.site)) && x.hs.all (fun h => nextAt x.seq h.site h.use)
theorem nextAt_at {seq : List Int} {i : Nat} {use v : Int} (hv : seq[i]? = some v) : nextAt seq i use = (use - 1 == v) := by
  unfold nextAt
  have := (List.getElem?_eq_some_iff.1 hv).1
  rw [show decide (((i : Nat) : Int) < seq.length) = true by simp; omega]
  simp [List.getD_eq_getElem?_getD, hv]
set_option maxHeartbeats 4000000 in
theorem refTok_c (n l s : Int) (x : Tok) (p : Sls) (hx : x.small) : Cm Tryz.prog 64 [.agg #[.int .i64 n, .int .i64 l, .int .i64 s], .agg (tokV x p).toArray] [] (tokF x p) (rets (.bool (tokB n l s x))) := by
  obtain ⟨hx1, hx2, hx3⟩ := hx
  obtain ⟨age, seq, q, hs, ⟨cv, cf, cn⟩⟩ := x
  dsimp only at hx1 hx2 hx3
  obtain ⟨a1, c1, a2, c2, a3, c3⟩ := p
  unfold tokF
  dsimp only
  refine cm_of (tab := tb) (ok := tbOk) [.g [.v (.int .i64 n), .v (.int .i64 l), .v (.int .i64 s)], .g [.v (.int .i64 age), .v (.slice a1 seq.length c1), .v (.slice a2 q.length c2), .v (.slice a3 hs.length c3), .v (.int .i64 cv), .v (.int .i64 cf), .v (.int .u64 cn)]] Tryz.func64 Tryz.ntmps64 rfl rfl (fun _ _ => rfl) ?_
  intro w0 A0
  obtain ⟨Z, hZ⟩ : ∃ Z : Bool, Z = tokB n l s ⟨age, seq, q, hs, ⟨cv, cf, cn⟩⟩ := ⟨_, rfl⟩
  rw [← hZ]
  unfold tokB at hZ
  dsimp only at hZ
  refine ojs_call [] [] rfl rfl rfl rfl rfl rfl rfl (by simp) (fun _ => refShape_c n l s) (by simp) (.inl rfl) ?_
  rintro e cs F1 _ ⟨rfl, rfl⟩
  cases hS : shapeB n l s
  · rw [hS] at hZ
    rw [show Z = false by rw [hZ]; simp]
    exact endR_ok [] rfl rfl ⟨rfl, rfl⟩ rfl (fun _ => ⟨rfl, rfl⟩) (by simp)
  rw [hS] at hZ
  have hsh := shapeB_is hS
  refine brB_dec (fun h1 => ?_) (fun h1 => ?_)
  · rw [show Z = false by rw [hZ, show useB age = false by simp [useB]; omega]; simp]
    exact endR_ok [] rfl rfl ⟨rfl, rfl⟩ rfl (fun _ => ⟨rfl, rfl⟩) (by simp)
  refine brB_dec (fun h2 => ?_) (fun h2 => ?_)
  · rw [show Z = false by rw [hZ, show useB age = false by simp [useB]; omega]; simp]
    exact endR_ok [] rfl rfl ⟨rfl, rfl⟩ rfl (fun _ => ⟨rfl, rfl⟩) (by simp)
  rw [show useB age = true by simp [useB]; omega] at hZ
  refine ojs_arith (wrap_in ?_ ?_) rfl rfl rfl rfl ?_
  · have : 0 ≤ n * s := Int.mul_nonneg (by omega) (by omega); omega
  · have : n * s ≤ 64 * 4 := Int.mul_le_mul (by omega) (by omega) (by omega) (by omega); omega
  refine brB_split (fun h3 => ?_) (fun h3 => ?_)
  · rw [show Z = false by rw [hZ, show ((seq.length : Int) == n * s) = false by simpa using h3]; simp]
    exact endR_ok [] rfl rfl ⟨rfl, rfl⟩ rfl (fun _ => ⟨rfl, rfl⟩) (by simp)
  rw [show ((seq.length : Int) == n * s) = true by simpa using h3] at hZ
  refine ojs_call [] [] rfl rfl rfl rfl rfl rfl rfl (by simp) (fun _ => refWait_c a2 c2 q hx2) (by simp) (.inl rfl) ?_
  rintro e cs F1 _ ⟨rfl, rfl⟩
  cases hW : waitB q
  · rw [hW] at hZ
    rw [show Z = false by rw [hZ]; simp]
    exact endR_ok [] rfl rfl ⟨rfl, rfl⟩ rfl (fun _ => ⟨rfl, rfl⟩) (by simp)
  rw [hW] at hZ
  refine brB_dec (fun h4 => ?_) (fun h4 => ?_)
  · rw [show Z = false by rw [hZ, show decide (hs.length ≤ 256) = false by simp; omega]; simp]
    exact endR_ok [] rfl rfl ⟨rfl, rfl⟩ rfl (fun _ => ⟨rfl, rfl⟩) (by simp)
  rw [show decide (hs.length ≤ 256) = true by simp; omega] at hZ
  refine ojs_call [] [] rfl rfl rfl rfl rfl rfl rfl (by simp) (fun _ => refHolds_c a3 c3 hs hx3) (by simp) (.inl rfl) ?_
  rintro e cs F1 _ ⟨rfl, rfl⟩
  cases hH : holdB hs
  · rw [hH] at hZ
    rw [show Z = false by rw [hZ]; simp]
    exact endR_ok [] rfl rfl ⟨rfl, rfl⟩ rfl (fun _ => ⟨rfl, rfl⟩) (by simp)
  rw [hH] at hZ
  refine ojs_call [] [] rfl rfl rfl rfl rfl rfl rfl (by simp) (fun _ => refCtr_c ⟨cv, cf, cn⟩) (by simp) (.inl rfl) ?_
  rintro e cs F1 _ ⟨rfl, rfl⟩
  cases hC : ctrB ⟨cv, cf, cn⟩
  · rw [hC] at hZ
    rw [show Z = false by rw [hZ]; simp]
    exact endR_ok [] rfl rfl ⟨rfl, rfl⟩ rfl (fun _ => ⟨rfl, rfl⟩) (by simp)
  rw [hC] at hZ
  simp only [Bool.true_and] at hZ
  refine cjs_loopP (γ := Nat) (fun k => k ≤ seq.length ∧ (seq.take k).all useB = true) (fun k => [(5, .o (.v (.int .i64 k)))]) (fun _ => []) (fun _ => []) (fun k => seq.length - k) 0 ⟨Nat.zero_le _, rfl⟩ (wk_patch (by repeat' (first | exact trivial | exact Or.inl rfl | refine Or.inr ⟨?_, ?_⟩ | rfl | refine ⟨?_, ?_⟩ | exact lt_all_v)) (by repeat' (first | exact trivial | exact Or.inl rfl | refine Or.inr ⟨?_, ?_⟩ | rfl | refine ⟨?_, ?_⟩ | exact lt_all_v)) (fun f hf => hf) (by simp) D_nil) ?_
  rintro k ⟨hk, hall⟩
  refine brB_dec (fun h5 => ?_) (fun h5 => ?_)
  · obtain ⟨v, hv⟩ := at_some (xs := seq) (k := k) (by omega)
    refine ojs_fact (slF encI 1 (.slice a1 seq.length c1) seq) (by simp) (slF_neE hv) ?_
    rintro ⟨b, off, rfl⟩
    refine ojs_index (i := k) rfl (by omega) rfl rfl rfl rfl ?_
    refine ojs_load1 (slF encI 1 (.slice (some ⟨b, off, none⟩) seq.length c1) seq) (by simp) (slF_at hv (j := 0) rfl) rfl rfl rfl ?_
    have bad : useB v = false → Z = false := fun h => by rw [hZ, all_noE hv h]; simp
    refine brB_dec (fun h6 => ?_) (fun h6 => ?_)
    · rw [bad (by simp [useB]; omega)]
      exact endR_ok [] rfl rfl ⟨rfl, rfl⟩ rfl (fun _ => ⟨rfl, rfl⟩) (by simp)
    refine ojs_index (i := k) rfl (by omega) rfl rfl rfl rfl ?_
    refine ojs_load1 (slF encI 1 (.slice (some ⟨b, off, none⟩) seq.length c1) seq) (by simp) (slF_at hv (j := 0) rfl) rfl rfl rfl ?_
    refine brB_dec (fun h7 => ?_) (fun h7 => ?_)
    · rw [bad (by simp [useB]; omega)]
      exact endR_ok [] rfl rfl ⟨rfl, rfl⟩ rfl (fun _ => ⟨rfl, rfl⟩) (by simp)
    refine ojs_arith (z := ((k + 1 : Nat) : Int)) (by first | decide | (rw [wrap_in] <;> omega) | (dsimp only; rw [wrap_in] <;> omega)) rfl rfl rfl rfl ?_
    exact ⟨k + 1, ⟨by omega, by rw [List.take_add_one, hv]; simp only [List.all_append, hall, Bool.true_and]; simp [useB]; omega⟩, (by first | omega | (dsimp only; omega)), wk_patch (by repeat' (first | exact trivial | exact Or.inl rfl | refine Or.inr ⟨?_, ?_⟩ | rfl | refine ⟨?_, ?_⟩ | exact lt_all_v)) (by repeat' (first | exact trivial | exact Or.inl rfl | refine Or.inr ⟨?_, ?_⟩ | rfl | refine ⟨?_, ?_⟩ | exact lt_all_v)) (fun f hf => hf) (by simp) D_nil⟩
  obtain rfl : k = seq.length := by omega
  rw [List.take_length] at hall
  rw [hall] at hZ
  simp only [Bool.true_and] at hZ
  refine cjs_loopP (γ := Nat) (fun k => k ≤ q.length ∧ (q.take k).all (fun w => nextAt seq w.site w.use && !hs.any (siteP w.site)) = true) (fun k => [(6, .o (.v (.int .i64 k)))]) (fun _ => []) (fun _ => []) (fun k => q.length - k) 0 ⟨Nat.zero_le _, rfl⟩ (wk_patch (by repeat' (first | exact trivial | exact Or.inl rfl | refine Or.inr ⟨?_, ?_⟩ | rfl | refine ⟨?_, ?_⟩ | exact lt_all_v)) (by repeat' (first | exact trivial | exact Or.inl rfl | refine Or.inr ⟨?_, ?_⟩ | rfl | refine ⟨?_, ?_⟩ | exact lt_all_v)) (fun f hf => hf) (by simp) D_nil) ?_
  rintro k ⟨hk, hallq⟩
  refine brB_dec (fun h5 => ?_) (fun h5 => ?_)
  · have hQBa2 : q.all wtB = true := by simp only [waitB, Bool.and_eq_true] at hW; exact hW.1.2
    obtain ⟨w, hw⟩ := at_some (xs := q) (k := k) (by omega)
    have hwB : wtB w = true := List.all_eq_true.1 hQBa2 w (List.mem_of_getElem? hw)
    have hwI : 0 ≤ w.site ∧ 1 ≤ w.use ∧ w.use ≤ 1099511627776 := by simp [wtB] at hwB; omega
    obtain ⟨i, hi⟩ := Int.eq_ofNat_of_zero_le hwI.1
    refine ojs_fact (slF wtL 5 (.slice a2 q.length c2) q) (by simp) (slF_neE hw) ?_
    rintro ⟨b, off, rfl⟩
    refine ojs_index (i := k) rfl (by omega) rfl rfl rfl rfl ?_
    refine ojs_loadN (vs := wtL w) (slF wtL 5 (.slice (some ⟨b, off, none⟩) q.length c2) q) (by simp) (slF_atN hw) rfl rfl rfl ?_
    have bad : (nextAt seq w.site w.use && !hs.any (siteP w.site)) = false → Z = false := fun h => by rw [hZ, all_noE hw h]; simp
    by_cases hlt : w.site < seq.length
    rotate_left
    · refine cjs_drawn [23] (.op 0 <| .op 1 <| .op 2 <| .op 3 <| .op 4 <| .op 5 <| .op 6 <| .op 7 <| .op 8 <| .op 9 <| .op 10 <| .op 11 <| .op 12 <| .op 13 <| .op 14 <| .op 15 <| .op 16 <| .op 17 <| .op 18 <| .op 19 <| .op 20 <| .op 21 <| .op 22 <| .op 23 <| .op 24 .z) [0, 1, 2] [] [] [] (by kernel_rfl) (by kernel_rfl) rfl (by simp) (by simp) ?_
      intro N
      refine brB_dec (fun h6 => ?_) (fun h6 => (absurd h6 (by omega)))
      rw [bad (by simp [nextAt]; omega)]
      exact endR_ok [] rfl rfl ⟨rfl, rfl⟩ rfl (fun _ => ⟨rfl, rfl⟩) (by simp)
    obtain ⟨v, hv⟩ := at_some (xs := seq) (k := i) (by omega)
    refine cjs_fact (slF encI 1 (.slice a1 seq.length c1) seq) (by simp) (slF_neE hv) ?_
    rintro ⟨b1, off1, rfl⟩
    have hnx : nextAt seq w.site w.use = (w.use - 1 == v) := by rw [hi]; exact nextAt_at hv
    refine cjs_drawn [23] (.op 0 <| .op 1 <| .op 2 <| .op 3 <| .op 4 <| .op 5 <| .op 6 <| .op 7 <| .op 8 <| .op 9 <| .op 10 <| .op 11 <| .op 12 <| .op 13 <| .op 14 <| .op 15 <| .op 16 <| .op 17 <| .op 18 <| .op 19 <| .op 20 <| .op 21 <| .op 22 <| .op 23 <| .op 24 .z) [0, 1, 2] [] [] [slF encI 1 (.slice (some ⟨b1, off1, none⟩) seq.length c1) seq, slF hdL 3 (.slice a3 hs.length c3) hs] (by kernel_rfl) (by kernel_rfl) rfl (by simp) (by simp) ?_
    intro N
    refine brB_dec (fun h6 => (absurd hlt (by omega))) (fun h6 => ?_)
    refine ⟨_, yd_arith (z := w.use - 1) (by rw [wrap_in] <;> omega) rfl rfl rfl rfl, ?_⟩
    refine ⟨_, yd_index (i := i) hi (by omega) rfl rfl rfl rfl, ?_⟩
    refine ⟨_, yd_load1 (slF encI 1 (.slice (some ⟨b1, off1, none⟩) seq.length c1) seq) (by simp) (slF_at hv (j := 0) rfl) rfl rfl rfl, ?_⟩
    refine brB_split (fun h7 => ?_) (fun h7 => ?_)
    · rw [bad (by rw [hnx, show (w.use - 1 == v) = false by simpa using h7]; rfl)]
      exact endR_ok [] rfl rfl ⟨rfl, rfl⟩ rfl (fun _ => ⟨rfl, rfl⟩) (by simp)
    have hne : (w.use - 1 == v) = true := by simpa using h7
    refine ojs_call [] [] rfl rfl rfl rfl rfl rfl rfl (by simp) (fun _ => refHas_c a3 c3 hs w.site hx3) (by simp) (.inl rfl) ?_
    rintro e cs F1 _ ⟨rfl, rfl⟩
    refine ⟨⟨(by repeat' (first | exact trivial | refine ⟨Or.inl rfl, ?_⟩ | refine ⟨Or.inr ⟨rfl, Nat.le_of_ble_eq_true rfl, _, rfl, rfl, rfl⟩, ?_⟩)), by simp⟩, ?_⟩
    cases hA : hs.any (siteP w.site)
    rotate_left
    · rw [bad (by rw [hA]; simp)]
      exact endR_ok [] rfl rfl ⟨rfl, rfl⟩ rfl (fun _ => ⟨rfl, rfl⟩) (by simp)
    refine ojs_arith (z := ((k + 1 : Nat) : Int)) (by first | decide | (rw [wrap_in] <;> omega) | (dsimp only; rw [wrap_in] <;> omega)) rfl rfl rfl rfl ?_
    exact ⟨k + 1, ⟨by omega, by rw [List.take_add_one, hw]; simp only [List.all_append, hallq, Bool.true_and]; simp [hnx, hne, hA]⟩, (by first | omega | (dsimp only; omega)), wk_patch (by repeat' (first | exact trivial | exact Or.inl rfl | refine Or.inr ⟨?_, ?_⟩ | rfl | refine ⟨?_, ?_⟩ | exact lt_all_v)) (by repeat' (first | exact trivial | exact Or.inl rfl | refine Or.inr ⟨?_, ?_⟩ | rfl | refine ⟨?_, ?_⟩ | exact lt_all_v)) (fun f hf => hf) (by simp) D_nil⟩
  obtain rfl : k = q.length := by omega
  rw [List.take_length] at hallq
  rw [hallq] at hZ
  simp only [Bool.true_and] at hZ
  clear hallq
  refine cjs_loopP (γ := Nat) (fun k => k ≤ hs.length ∧ (hs.take k).all (fun w => nextAt seq w.site w.use) = true) (fun k => [(8, .o (.v (.int .i64 k)))]) (fun _ => []) (fun _ => []) (fun k => hs.length - k) 0 ⟨Nat.zero_le _, rfl⟩ (wk_patch (by repeat' (first | exact trivial | exact Or.inl rfl | refine Or.inr ⟨?_, ?_⟩ | rfl | refine ⟨?_, ?_⟩ | exact lt_all_v)) (by repeat' (first | exact trivial | exact Or.inl rfl | refine Or.inr ⟨?_, ?_⟩ | rfl | refine ⟨?_, ?_⟩ | exact lt_all_v)) (fun f hf => hf) (by simp) D_nil) ?_
  rintro k ⟨hk, hallq⟩
  refine brB_dec (fun h5 => ?_) (fun h5 => ?_)
  · have hQBa3 : hs.all hdB = true := by simp only [holdB, Bool.and_eq_true] at hH; exact hH.1.1
    obtain ⟨w, hw⟩ := at_some (xs := hs) (k := k) (by omega)
    have hwB : hdB w = true := List.all_eq_true.1 hQBa3 w (List.mem_of_getElem? hw)
    have hwI : 0 ≤ w.site ∧ 1 ≤ w.use ∧ w.use ≤ 1099511627776 := by simp [hdB] at hwB; omega
    obtain ⟨i, hi⟩ := Int.eq_ofNat_of_zero_le hwI.1
    refine ojs_fact (slF hdL 3 (.slice a3 hs.length c3) hs) (by simp) (slF_neE hw) ?_
    rintro ⟨b, off, rfl⟩
    refine ojs_index (i := k) rfl (by omega) rfl rfl rfl rfl ?_
    refine ojs_loadN (vs := hdL w) (slF hdL 3 (.slice (some ⟨b, off, none⟩) hs.length c3) hs) (by simp) (slF_atN hw) rfl rfl rfl ?_
    have bad : nextAt seq w.site w.use = false → Z = false := fun h => by rw [hZ, all_noE hw h]
    by_cases hlt : w.site < seq.length
    rotate_left
    · refine cjs_drawn [] (.op 0 <| .op 1 <| .op 2 <| .op 3 <| .op 4 <| .op 5 <| .op 6 <| .op 7 <| .op 8 <| .op 9 <| .op 10 <| .op 11 <| .op 12 <| .op 13 <| .op 14 <| .op 15 <| .op 16 <| .op 17 .z) [0, 1, 2] [] [] [] (by kernel_rfl) (by kernel_rfl) rfl (by simp) (by simp) ?_
      intro N
      refine brB_dec (fun h6 => ?_) (fun h6 => (absurd h6 (by omega)))
      rw [bad (by simp [nextAt]; omega)]
      exact endR_ok [] rfl rfl ⟨rfl, rfl⟩ rfl (fun _ => ⟨rfl, rfl⟩) (by simp)
    obtain ⟨v, hv⟩ := at_some (xs := seq) (k := i) (by omega)
    refine cjs_fact (slF encI 1 (.slice a1 seq.length c1) seq) (by simp) (slF_neE hv) ?_
    rintro ⟨b1, off1, rfl⟩
    have hnx : nextAt seq w.site w.use = (w.use - 1 == v) := by rw [hi]; exact nextAt_at hv
    refine cjs_drawn [] (.op 0 <| .op 1 <| .op 2 <| .op 3 <| .op 4 <| .op 5 <| .op 6 <| .op 7 <| .op 8 <| .op 9 <| .op 10 <| .op 11 <| .op 12 <| .op 13 <| .op 14 <| .op 15 <| .op 16 <| .op 17 .z) [0, 1, 2] [] [] [slF encI 1 (.slice (some ⟨b1, off1, none⟩) seq.length c1) seq] (by kernel_rfl) (by kernel_rfl) rfl (by simp) (by simp) ?_
    intro N
    refine brB_dec (fun h6 => (absurd hlt (by omega))) (fun h6 => ?_)
    refine ⟨_, yd_arith (z := w.use - 1) (by rw [wrap_in] <;> omega) rfl rfl rfl rfl, ?_⟩
    refine ⟨_, yd_index (i := i) hi (by omega) rfl rfl rfl rfl, ?_⟩
    refine ⟨_, yd_load1 (slF encI 1 (.slice (some ⟨b1, off1, none⟩) seq.length c1) seq) (by simp) (slF_at hv (j := 0) rfl) rfl rfl rfl, ?_⟩
    refine brB_split (fun h7 => ?_) (fun h7 => ?_)
    · rw [bad (by rw [hnx, show (w.use - 1 == v) = false by simpa using h7])]
      exact endR_ok [] rfl rfl ⟨rfl, rfl⟩ rfl (fun _ => ⟨rfl, rfl⟩) (by simp)
    have hne : (w.use - 1 == v) = true := by simpa using h7
    refine ojs_arith (z := ((k + 1 : Nat) : Int)) (by first | decide | (rw [wrap_in] <;> omega) | (dsimp only; rw [wrap_in] <;> omega)) rfl rfl rfl rfl ?_
    exact ⟨k + 1, ⟨by omega, by rw [List.take_add_one, hw]; simp only [List.all_append, hallq, Bool.true_and]; simp [hnx, hne]⟩, (by first | omega | (dsimp only; omega)), wk_patch (by repeat' (first | exact trivial | exact Or.inl rfl | refine Or.inr ⟨?_, ?_⟩ | rfl | refine ⟨?_, ?_⟩ | exact lt_all_v)) (by repeat' (first | exact trivial | exact Or.inl rfl | refine Or.inr ⟨?_, ?_⟩ | rfl | refine ⟨?_, ?_⟩ | exact lt_all_v)) (fun f hf => hf) (by simp) D_nil⟩
  obtain rfl : k = hs.length := by omega
  rw [List.take_length] at hallq
  rw [hallq] at hZ
  rw [hZ]
  exact endR_ok [] rfl rfl ⟨rfl, rfl⟩ rfl (fun _ => ⟨rfl, rfl⟩) (by simp)
end Go.Proofs.YtmhnlkakbadkgaaGreat
namespace Go.Proofs.YtmhnlkakbadkgaaGreat
open Go.RowKit Go.Shelf
set_option maxRecDepth 100000
theorem mustT_c (b : Bool) (e : Int) : Cm Tryz.prog 162 [.bool b, .int .i64 e] [] [] (mustE 46 b e) := by
  refine cm_of (tab := tb) (ok := tbOk) [.o (.v (.bool b)), .o (.v (.int .i64 e))] Tryz.func162 Tryz.ntmps162 rfl rfl (fun _ _ => rfl) ?_
  intro w0 A0
  cases b
  · refine ojs_yd (yd_iface (by kernel_rfl) rfl rfl) rfl ?_
    refine ojs_panic rfl rfl ?_
    exact endP_ok [] rfl ⟨rfl, rfl⟩ rfl (fun _ => ⟨.inr ⟨rfl, rfl⟩, rfl⟩) (by simp)
  · exact endR_ok [] rfl rfl ⟨rfl, rfl⟩ rfl (fun _ => ⟨.inl ⟨rfl, rfl⟩, rfl⟩) (by simp)
theorem tokWithinJ_c (n a b : Int) : Cm Tryz.prog 265 [.int .i64 n, .int .i64 a, .int .i64 b] [] [] (rets (.bool (inB n a b))) := by
  refine cm_of (tab := tb) (ok := tbOk) [.o (.v (.int .i64 n)), .o (.v (.int .i64 a)), .o (.v (.int .i64 b))] Tryz.func265 Tryz.ntmps265 rfl rfl (fun _ _ => rfl) ?_
  intro w0 A0
  repeat' (first | (refine endR_ok [] rfl rfl ⟨rfl, rfl⟩ rfl (fun _ => ⟨ret_bool ?_, rfl⟩) (by simp); first | (simp [inB, *]; done) | (rw [Bool.eq_iff_iff]; simp [inB]; omega)) | refine brB_dec (fun _ => ?_) (fun _ => ?_))
theorem tokSites1_c (n : Int) : Cm Tryz.prog 267 [.int .i64 n] [] [] (rets (.bool (!useB n))) := by
  refine cm_of (tab := tb) (ok := tbOk) [.o (.v (.int .i64 n))] Tryz.func267 Tryz.ntmps267 rfl rfl (fun _ _ => rfl) ?_
  intro w0 A0
  refine ojs_call [] [] rfl rfl rfl rfl rfl rfl rfl (by simp) (fun _ => tokWithinJ_c n 0 1099511627776) (by simp) (.inl rfl) ?_
  rintro e cs F1 _ ⟨rfl, rfl⟩
  rw [show inB n 0 1099511627776 = useB n from rfl]
  exact endR_ok [] rfl rfl ⟨rfl, rfl⟩ rfl (fun _ => ⟨rfl, rfl⟩) (by simp)
def undV (x : Tok) (p : Sls) (n l s : Int) : List Value := tokV x p ++ [.int .i64 n, .int .i64 l, .int .i64 s]
theorem tokCounter_c (n l s : Int) (x : Tok) (p : Sls) : Cm Tryz.prog 221 [.agg (undV x p n l s).toArray] [] [] (rets (.bool (ctrB x.c))) := by
  obtain ⟨age, seq, q, hs, ⟨cv, cf, cn⟩⟩ := x
  obtain ⟨a1, c1, a2, c2, a3, c3⟩ := p
  refine cm_of (tab := tb) (ok := tbOk) [.g [.v (.int .i64 age), .v (.slice a1 seq.length c1), .v (.slice a2 q.length c2), .v (.slice a3 hs.length c3), .v (.int .i64 cv), .v (.int .i64 cf), .v (.int .u64 cn), .v (.int .i64 n), .v (.int .i64 l), .v (.int .i64 s)]] Tryz.func221 Tryz.ntmps221 rfl rfl (fun _ _ => rfl) ?_
  intro w0 A0
  refine ojs_call [] [] rfl rfl rfl rfl rfl rfl rfl (by simp) (fun _ => ctrCheck_c ⟨cv, cf, cn⟩) (by simp) (.inl rfl) ?_
  rintro e cs F1 _ ⟨rfl, rfl⟩
  dsimp only
  unfold ctrE
  cases ctrB ⟨cv, cf, cn⟩
  · exact endR_ok [] rfl rfl ⟨rfl, rfl⟩ rfl (fun _ => ⟨rfl, rfl⟩) (by simp)
  · exact endR_ok [] rfl rfl ⟨rfl, rfl⟩ rfl (fun _ => ⟨rfl, rfl⟩) (by simp)
theorem tokPlace_c (n l s : Int) (x : Tok) (p : Sls) (k use : Int) (hk : 0 ≤ k) (hu : 1 ≤ use ∧ use ≤ 1099511627776) : Cm Tryz.prog 270 [.agg (undV x p n l s).toArray, .int .i64 k, .int .i64 use] [] [slF encI 1 (.slice p.a1 x.seq.length p.c1) x.seq] (rets (.bool (nextAt x.seq k use))) := by
  obtain ⟨age, seq, q, hs, ⟨cv, cf, cn⟩⟩ := x
  obtain ⟨a1, c1, a2, c2, a3, c3⟩ := p
  dsimp only
  refine cm_of (tab := tb) (ok := tbOk) [.g [.v (.int .i64 age), .v (.slice a1 seq.length c1), .v (.slice a2 q.length c2), .v (.slice a3 hs.length c3), .v (.int .i64 cv), .v (.int .i64 cf), .v (.int .u64 cn), .v (.int .i64 n), .v (.int .i64 l), .v (.int .i64 s)], .o (.v (.int .i64 k)), .o (.v (.int .i64 use))] Tryz.func270 Tryz.ntmps270 rfl rfl (fun _ _ => rfl) ?_
  intro w0 A0
  refine brB_dec (fun h => ?_) (fun h => ?_)
  rotate_left
  · rw [show nextAt seq k use = false by simp [nextAt]; omega]
    exact endR_ok [] rfl rfl ⟨rfl, rfl⟩ rfl (fun _ => ⟨rfl, rfl⟩) (by simp)
  obtain ⟨i, hi⟩ := Int.eq_ofNat_of_zero_le hk
  obtain ⟨v, hv⟩ := at_some (xs := seq) (k := i) (by omega)
  refine ojs_arith (z := use - 1) (by rw [wrap_in] <;> omega) rfl rfl rfl rfl ?_
  refine ojs_fact (slF encI 1 (.slice a1 seq.length c1) seq) (by simp) (slF_neE hv) ?_
  rintro ⟨b1, off1, rfl⟩
  refine ojs_index (i := i) hi (by omega) rfl rfl rfl rfl ?_
  refine ojs_load1 (slF encI 1 (.slice (some ⟨b1, off1, none⟩) seq.length c1) seq) (by simp) (slF_at hv (j := 0) rfl) rfl rfl rfl ?_
  rw [show nextAt seq k use = (use - 1 == v) by rw [hi]; exact nextAt_at hv]
  exact endR_ok [] rfl rfl ⟨rfl, rfl⟩ rfl (fun _ => ⟨rfl, rfl⟩) (by simp)
theorem ixJ_idx {F0 : List Fact} {g : Nat} {lb : List Value} (hg : alook tb.fn g = some ()) (p : Int → Bool) {a : Option Addr} {cap : Nat} {xs : List Int} (hlen : xs.length ≤ 1099511627776) (hc : ∀ x ∈ xs, Cm Tryz.prog g (.int .i64 x :: lb) [] F0 (rets (.bool (p x)))) :
    Cm Tryz.prog 296 [.slice a xs.length cap, .func (.func g) #[] lb.toArray] [] (slF encI 1 (.slice a xs.length cap) xs :: F0) (rets (.int .i64 (idxI p xs))) := by
  refine cm_of (tab := tb) (ok := tbOk) [.o (.v (.slice a xs.length cap)), .o (.v (.func (.func g) #[] lb.toArray))] Tryz.func296 Tryz.ntmps296 rfl rfl (fun _ _ => rfl) ?_
  intro w0 A0
  refine cjs_loopP (γ := Nat) (fun k => k ≤ xs.length ∧ ∀ (j : Nat) x, j < k → xs[j]? = some x → p x = false) (fun k => [(8, .o (.v (.int .i64 k)))]) (fun _ => []) (fun _ => []) (fun k => xs.length - k) 0 ⟨Nat.zero_le _, fun j x hj => by omega⟩ (wk_patch (by repeat' (first | exact trivial | exact Or.inl rfl | refine Or.inr ⟨?_, ?_⟩ | rfl | refine ⟨?_, ?_⟩ | exact lt_all_v)) (by repeat' (first | exact trivial | exact Or.inl rfl | refine Or.inr ⟨?_, ?_⟩ | rfl | refine ⟨?_, ?_⟩ | exact lt_all_v)) (fun f hf => hf) (by simp) D_nil) ?_
  rintro k ⟨hk, hno⟩
  refine brB_dec (fun h1 => ?_) (fun h1 => ?_)
  · obtain ⟨x, hx⟩ := at_some (xs := xs) (k := k) (by omega)
    skip
    refine ojs_fact (slF encI 1 (.slice a xs.length cap) xs) (by simp) (slF_neE hx) ?_
    rintro ⟨b, off, rfl⟩
    refine ojs_index rfl (by omega) rfl rfl rfl rfl ?_
    refine ojs_load1 (slF encI 1 (.slice (some ⟨b, off, none⟩) xs.length cap) xs) (by simp) (slF_at hx (j := 0) rfl) rfl rfl rfl ?_
    have hc2 : ∀ ρ : Nm, Cm Tryz.prog g (argV ρ [] [TV.o (.v (.int .i64 x))] (lb.map PV.v)) [] F0 (rets (.bool (p x))) := fun ρ => by
      have e : argV ρ [] [TV.o (.v (.int .i64 x))] (lb.map PV.v) = .int .i64 x :: lb := (argV_lb ρ [TV.o (.v (.int .i64 x))] lb).trans rfl
      rw [e]; exact hc x (List.mem_of_getElem? hx)
    refine ojs_call [] [] rfl rfl rfl rfl hg rfl rfl (by simp) (fun ρ => hc2 ρ) (fun f hf => List.mem_cons_of_mem _ hf) (.inl rfl) ?_
    rintro e cs F1 _ ⟨rfl, rfl⟩
    cases hb : p x
    · refine ojs_arith (z := ((k + 1 : Nat) : Int)) (by first | decide | (rw [wrap_in] <;> omega) | (dsimp only; rw [wrap_in] <;> omega)) rfl rfl rfl rfl ?_
      refine ⟨k + 1, ⟨by omega, fun j y hj hy => ?_⟩, (by first | omega | (dsimp only; omega)), wk_patch (by repeat' (first | exact trivial | exact Or.inl rfl | refine Or.inr ⟨?_, ?_⟩ | rfl | refine ⟨?_, ?_⟩ | exact lt_all_v)) (by repeat' (first | exact trivial | exact Or.inl rfl | refine Or.inr ⟨?_, ?_⟩ | rfl | refine ⟨?_, ?_⟩ | exact lt_all_v)) (fun f hf => hf) (by simp) D_nil⟩
      rcases Nat.lt_succ_iff_lt_or_eq.1 hj with h | rfl
      · exact hno j y h hy
      · rw [hx] at hy; cases hy; exact hb
    · exact endR_ok [] rfl rfl ⟨rfl, rfl⟩ rfl (fun _ => ⟨by rw [idxI_atE hno hx hb]; rfl, rfl⟩) (by simp)
  · obtain rfl : k = xs.length := by omega
    exact endR_ok [] rfl rfl ⟨rfl, rfl⟩ rfl (fun _ => ⟨by rw [idxI_noneE (fun j x hj => hno j x (List.getElem?_eq_some_iff.1 hj).1 hj)]; rfl, rfl⟩) (by simp)
theorem ixJ_con {F0 : List Fact} {g : Nat} {lb : List Value} (hg : alook tb.fn g = some ()) (p : Int → Bool) {a : Option Addr} {cap : Nat} {xs : List Int} (hlen : xs.length ≤ 1099511627776) (hc : ∀ x ∈ xs, Cm Tryz.prog g (.int .i64 x :: lb) [] F0 (rets (.bool (p x)))) :
    Cm Tryz.prog 266 [.slice a xs.length cap, .func (.func g) #[] lb.toArray] [] (slF encI 1 (.slice a xs.length cap) xs :: F0) (rets (.bool (xs.any p))) := by
  refine cm_of (tab := tb) (ok := tbOk) [.o (.v (.slice a xs.length cap)), .o (.v (.func (.func g) #[] lb.toArray))] Tryz.func266 Tryz.ntmps266 rfl rfl (fun _ _ => rfl) ?_
  intro w0 A0
  refine ojs_call [] [] rfl rfl rfl rfl rfl rfl rfl (by simp) (fun _ => ixJ_idx hg p hlen hc) (fun f hf => hf) (.inl rfl) ?_
  rintro e cs F1 _ ⟨rfl, rfl⟩
  exact endR_ok [] rfl rfl ⟨rfl, rfl⟩ rfl (fun _ => ⟨ret_bool idxI_any, rfl⟩) (by simp)
def sitB (n l s : Int) (x : Tok) : Bool := shapeB n l s && ((x.seq.length : Int) == n * s) && useB x.age && x.seq.all useB
theorem tokSites_c (n l s : Int) (x : Tok) (p : Sls) (hx : x.seq.length ≤ 1000000) : Cm Tryz.prog 220 [.agg (undV x p n l s).toArray] [] [slF encI 1 (.slice p.a1 x.seq.length p.c1) x.seq] (rets (.bool (sitB n l s x))) := by
  obtain ⟨age, seq, q, hs, ⟨cv, cf, cn⟩⟩ := x
  obtain ⟨a1, c1, a2, c2, a3, c3⟩ := p
  dsimp only at hx
  dsimp only
  refine cm_of (tab := tb) (ok := tbOk) [.g [.v (.int .i64 age), .v (.slice a1 seq.length c1), .v (.slice a2 q.length c2), .v (.slice a3 hs.length c3), .v (.int .i64 cv), .v (.int .i64 cf), .v (.int .u64 cn), .v (.int .i64 n), .v (.int .i64 l), .v (.int .i64 s)]] Tryz.func220 Tryz.ntmps220 rfl rfl (fun _ _ => rfl) ?_
  intro w0 A0
  obtain ⟨Z, hZ⟩ : ∃ Z : Bool, Z = sitB n l s ⟨age, seq, q, hs, ⟨cv, cf, cn⟩⟩ := ⟨_, rfl⟩
  rw [← hZ]
  unfold sitB at hZ
  dsimp only at hZ
  refine ojs_call [] [] rfl rfl rfl rfl rfl rfl rfl (by simp) (fun _ => sites_c n l s) (by simp) (.inl rfl) ?_
  rintro e cs F1 _ ⟨rfl, rfl⟩
  unfold shapeE
  cases hS : shapeB n l s
  · rw [hS] at hZ
    rw [show Z = false by rw [hZ]; simp]
    exact endR_ok [] rfl rfl ⟨rfl, rfl⟩ rfl (fun _ => ⟨rfl, rfl⟩) (by simp)
  rw [sitesX_int hS]
  rw [hS] at hZ
  refine brB_split (fun h1 => ?_) (fun h1 => ?_)
  rotate_left
  · rw [show Z = false by rw [hZ, show ((seq.length : Int) == n * s) = false by simpa using h1]; simp]
    exact endR_ok [] rfl rfl ⟨rfl, rfl⟩ rfl (fun _ => ⟨rfl, rfl⟩) (by simp)
  rw [show ((seq.length : Int) == n * s) = true by simpa using h1] at hZ
  refine ojs_call [] [] rfl rfl rfl rfl rfl rfl rfl (by simp) (fun _ => tokWithinJ_c age 0 1099511627776) (by simp) (.inl rfl) ?_
  rintro e cs F1 _ ⟨rfl, rfl⟩
  rw [show inB age 0 1099511627776 = useB age from rfl]
  cases hA : useB age
  · rw [hA] at hZ
    rw [show Z = false by rw [hZ]; simp]
    exact endR_ok [] rfl rfl ⟨rfl, rfl⟩ rfl (fun _ => ⟨rfl, rfl⟩) (by simp)
  rw [hA] at hZ
  refine ojs_call [] [] rfl rfl rfl rfl rfl rfl rfl (by simp) (fun _ => ixJ_con (F0 := []) (lb := []) (a := a1) (cap := c1) (xs := seq) rfl (fun v => !useB v) (by omega) (fun x _ => tokSites1_c x)) (by simp) (.inl rfl) ?_
  rintro e cs F1 _ ⟨rfl, rfl⟩
  rw [show Z = !(seq.any fun v => !useB v) by rw [hZ]; simp [List.any_eq_not_all_not]]
  generalize (seq.any fun v => !useB v) = r
  exact endR_ok [] rfl rfl ⟨rfl, rfl⟩ rfl (fun _ => ⟨rfl, rfl⟩) (by simp)
end Go.Proofs.YtmhnlkakbadkgaaGreat
