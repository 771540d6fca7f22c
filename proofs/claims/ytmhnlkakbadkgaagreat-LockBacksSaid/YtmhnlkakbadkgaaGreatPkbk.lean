/- Part 37 of the proof of LockBacks: contracts of functions that the law reaches, or the rules by which they are walked. No condition. -/
import Derived.Test.YtmhnlkakbadkgaaGreatPkbj
import Derived.Test.YtmhnlkakbadkgaaGreatPkbi
namespace Go.Proofs.YtmhnlkakbadkgaaGreat
open Go.RowKit Go.Shelf
set_option maxRecDepth 100000
theorem nodup_len : ∀ (m : Nat) (l : List Int), l.Nodup → (∀ x ∈ l, 0 ≤ x ∧ x < m) → l.length ≤ m
  | 0, l, _, h => by
    cases l with
    | nil => simp
    | cons x l => have := h x (by simp); omega
  | m + 1, l, hn, h => by
    by_cases hm : (m : Int) ∈ l
    · have h1 := nodup_len m (l.erase (m : Int)) (hn.erase _) fun x hx => by
        obtain ⟨g1, g2⟩ := (List.Nodup.mem_erase_iff hn).1 hx
        have := h x g2
        omega
      rw [List.length_erase_of_mem hm] at h1
      omega
    · have h1 := nodup_len m l hn fun x hx => by
        have := h x hx
        have : x ≠ (m : Int) := fun e => hm (e ▸ hx)
        omega
      omega
theorem hold_len {xs : List Hd} (h : holdB xs = true) : xs.length ≤ 256 := by
  obtain ⟨h1, h2, _⟩ := holdB_parts h
  have := nodup_len 256 (xs.map Hd.site) ?_ ?_
  · simpa using this
  · rw [List.nodup_iff_pairwise_ne, List.pairwise_map]
    exact h2.imp fun hab e => by omega
  · intro z hz
    obtain ⟨x, hx, rfl⟩ := List.mem_map.1 hz
    have := List.all_eq_true.1 h1 x hx
    simp [hdB] at this
    omega
theorem okH_of {xs : List Hd} (h : holdB xs = true) : okH xs = xs := by unfold okH; rw [h]; rfl
def listB (x : Tok) : Bool := waitB x.q && holdB x.hs && x.q.all (fun w => nextAt x.seq w.site w.use && !x.hs.any (siteP w.site)) && x.hs.all (fun h => nextAt x.seq h.site h.use)
theorem tokB_parts {n l s : Int} {x : Tok} : tokB n l s x = (sitB n l s x && ctrB x.c && listB x) := by
  rw [Bool.eq_iff_iff]
  simp only [tokB, sitB, listB, Bool.and_eq_true]
  constructor
  · rintro ⟨⟨⟨⟨⟨⟨⟨⟨⟨h1, h2⟩, h3⟩, h4⟩, h5⟩, h6⟩, h7⟩, h8⟩, h9⟩, h10⟩
    exact ⟨⟨⟨⟨⟨h1, h3⟩, h2⟩, h8⟩, h7⟩, ⟨⟨h4, h6⟩, h9⟩, h10⟩
  · rintro ⟨⟨⟨⟨⟨h1, h3⟩, h2⟩, h8⟩, h7⟩, ⟨⟨h4, h6⟩, h9⟩, h10⟩
    exact ⟨⟨⟨⟨⟨⟨⟨⟨⟨h1, h2⟩, h3⟩, h4⟩, by simpa using hold_len h6⟩, h6⟩, h7⟩, h8⟩, h9⟩, h10⟩
set_option maxHeartbeats 4000000 in
theorem tokLists_c (n l s : Int) (x : Tok) (p : Sls) (hx : x.small) : Cm Tryz.prog 222 [.agg (undV x p n l s).toArray] [] (tokF x p) (rets (.bool (listB x))) := by
  obtain ⟨hx1, hx2, hx3⟩ := hx
  obtain ⟨age, seq, q, hs, ⟨cv, cf, cn⟩⟩ := x
  dsimp only at hx1 hx2 hx3
  obtain ⟨a1, c1, a2, c2, a3, c3⟩ := p
  unfold tokF
  dsimp only
  refine cm_ofD (tab := tb) (ok := tbOk) [.g [.v (.int .i64 age), .v (.slice a1 seq.length c1), .v (.slice a2 q.length c2), .v (.slice a3 hs.length c3), .v (.int .i64 cv), .v (.int .i64 cf), .v (.int .u64 cn), .v (.int .i64 n), .v (.int .i64 l), .v (.int .i64 s)]] Tryz.func222 Tryz.ntmps222 rfl rfl (fun _ _ => rfl) ?_
  intro w0 A0
  obtain ⟨Z, hZ⟩ : ∃ Z : Bool, Z = listB ⟨age, seq, q, hs, ⟨cv, cf, cn⟩⟩ := ⟨_, rfl⟩
  rw [← hZ]
  unfold listB at hZ
  dsimp only at hZ
  have hWc := waitCheck_c a2 c2 q
  have hHc := holdCheck_c a3 c3 hs hx3
  unfold waitE at hWc
  unfold holdE at hHc
  cases hW : waitB q
  · rw [hW] at hWc hZ
    refine ojs_call [] [] rfl rfl rfl rfl rfl rfl rfl (by simp) (fun _ => hWc) (by simp) (.inl rfl) ?_
    rintro e cs F1 _ ⟨rfl, rfl⟩
    rw [show Z = false by rw [hZ]; simp]
    exact lv_ret (endR_ok [] rfl rfl ⟨rfl, rfl⟩ rfl (fun _ => ⟨rfl, rfl⟩) (by simp))
  rw [hW] at hWc hZ
  refine ojs_call [] [] rfl rfl rfl rfl rfl rfl rfl (by simp) (fun _ => hWc) (by simp) (.inl rfl) ?_
  rintro e cs F1 _ ⟨rfl, rfl⟩
  cases hH : holdB hs
  · rw [hH] at hHc hZ
    refine ojs_call [] [] rfl rfl rfl rfl rfl rfl rfl (by simp) (fun _ => hHc) (by simp) (.inl rfl) ?_
    rintro e cs F1 _ ⟨rfl, rfl⟩
    rw [show Z = false by rw [hZ]; simp]
    exact lv_ret (endR_ok [] rfl rfl ⟨rfl, rfl⟩ rfl (fun _ => ⟨rfl, rfl⟩) (by simp))
  rw [hH] at hHc hZ
  refine ojs_call [] [] rfl rfl rfl rfl rfl rfl rfl (by simp) (fun _ => hHc) (by simp) (.inl rfl) ?_
  rintro e cs F1 _ ⟨rfl, rfl⟩
  simp only [Bool.true_and] at hZ
  refine cjs_loopP (γ := Nat) (fun k => k ≤ q.length ∧ (q.take k).all (fun w => nextAt seq w.site w.use && !hs.any (siteP w.site)) = true) (fun k => [(25, .o (.v (.int .i64 k)))]) (fun _ => []) (fun _ => []) (fun k => q.length - k) 0 ⟨Nat.zero_le _, rfl⟩ (wk_patch (by repeat' (first | exact trivial | exact Or.inl rfl | refine Or.inr ⟨?_, ?_⟩ | rfl | refine ⟨?_, ?_⟩ | exact lt_all_v)) (by repeat' (first | exact trivial | exact Or.inl rfl | refine Or.inr ⟨?_, ?_⟩ | rfl | refine ⟨?_, ?_⟩ | exact lt_all_v)) (fun f hf => hf) (by simp) D_nil) ?_
  rintro k ⟨hk, hallq⟩
  refine brB_dec (fun h5 => ?_) (fun h5 => ?_)
  · have hQB : q.all wtB = true := by simp only [waitB, Bool.and_eq_true] at hW; exact hW.1.2
    obtain ⟨w, hw⟩ := at_some (xs := q) (k := k) (by omega)
    have hwB : wtB w = true := List.all_eq_true.1 hQB w (List.mem_of_getElem? hw)
    have hwI : 0 ≤ w.site ∧ 1 ≤ w.use ∧ w.use ≤ 1099511627776 := by simp [wtB] at hwB; omega
    have bad : (nextAt seq w.site w.use && !hs.any (siteP w.site)) = false → Z = false := fun h => by rw [hZ, all_noE hw h]; simp
    refine ojs_fact (slF wtL 5 (.slice a2 q.length c2) q) (by simp) (slF_neE hw) ?_
    rintro ⟨b, off, rfl⟩
    refine ojs_index (i := k) rfl (by omega) rfl rfl rfl rfl ?_
    refine ojs_loadN (vs := wtL w) (slF wtL 5 (.slice (some ⟨b, off, none⟩) q.length c2) q) (by simp) (slF_atN hw) rfl rfl rfl ?_
    have hfd := holdFind_c a3 c3 hs w.site hx3
    rw [okH_of hH] at hfd
    refine ojs_call [] [] rfl rfl rfl rfl rfl rfl rfl (by simp) (fun _ => hfd) (by simp) (.inl rfl) ?_
    rintro e cs F1 _ ⟨rfl, rfl⟩
    cases hA : hs.any (siteP w.site)
    rotate_left
    · rw [bad (by rw [hA]; simp)]
      exact lv_ret (endR_ok [] rfl rfl ⟨rfl, rfl⟩ rfl (fun _ => ⟨rfl, rfl⟩) (by simp))
    refine ojs_call [] [] rfl rfl rfl rfl rfl rfl rfl (by simp) (fun _ => tokPlace_c n l s ⟨age, seq, q, hs, ⟨cv, cf, cn⟩⟩ ⟨a1, c1, some ⟨b, off, none⟩, c2, a3, c3⟩ w.site w.use hwI.1 hwI.2) (by simp) (.inl rfl) ?_
    rintro e cs F1 _ ⟨rfl, rfl⟩
    dsimp only
    cases hN : nextAt seq w.site w.use
    · rw [bad (by rw [hN]; simp)]
      exact lv_ret (endR_ok [] rfl rfl ⟨rfl, rfl⟩ rfl (fun _ => ⟨rfl, rfl⟩) (by simp))
    refine ojs_arith (z := ((k + 1 : Nat) : Int)) (by first | decide | (rw [wrap_in] <;> omega) | (dsimp only; rw [wrap_in] <;> omega)) rfl rfl rfl rfl ?_
    exact ⟨k + 1, ⟨by omega, by rw [List.take_add_one, hw]; simp only [List.all_append, hallq, Bool.true_and]; simp [hN, hA]⟩, (by first | omega | (dsimp only; omega)), wk_patch (by repeat' (first | exact trivial | exact Or.inl rfl | refine Or.inr ⟨?_, ?_⟩ | rfl | refine ⟨?_, ?_⟩ | exact lt_all_v)) (by repeat' (first | exact trivial | exact Or.inl rfl | refine Or.inr ⟨?_, ?_⟩ | rfl | refine ⟨?_, ?_⟩ | exact lt_all_v)) (fun f hf => hf) (by simp) D_nil⟩
  obtain rfl : k = q.length := by omega
  rw [List.take_length] at hallq
  rw [hallq] at hZ
  simp only [Bool.true_and] at hZ
  clear hallq
  have hEc := holdEach_c a3 c3 hs hx3
  rw [okH_of hH] at hEc
  refine ojs_call [] [] rfl rfl rfl rfl rfl rfl rfl (by simp) (fun _ => hEc) (by simp) (.inl rfl) ?_
  rintro e cs F1 _ ⟨b, a4, c4, rfl, rfl⟩
  refine cjs_range (γ := Unit) (fun k _ => k ≤ hs.length ∧ (hs.take k).all (fun w => nextAt seq w.site w.use) = true) (fun _ _ => ([(0, .c [.v (.int .i64 age), .v (.slice a1 seq.length c1), .v (.slice a2 q.length c2), .v (.slice a3 hs.length c3), .v (.int .i64 cv), .v (.int .i64 cf), .v (.int .u64 cn), .v (.int .i64 n), .v (.int .i64 l), .v (.int .i64 s)] 183), (1, .c [.v (.bool false)] 4)], [blkF b [.slice a4 hs.length c4] 28, slF hdL 3 (.slice a4 hs.length c4) hs, slF encI 1 (.slice a1 seq.length c1) seq])) () (each1H_seq a4 c4 hs b hx3) rfl rfl rfl (fun _ => rfl) rfl (Nat.zero_le _) ⟨Nat.zero_le _, rfl⟩ ?_ (by simp) ?_ ?_
  · exact wk_patch (by repeat' (first | exact trivial | exact Or.inl rfl | refine Or.inr ⟨?_, ?_⟩ | rfl | refine ⟨?_, ?_⟩ | exact lt_all_v)) (by repeat' (first | exact trivial | exact Or.inl rfl | refine Or.inr ⟨?_, ?_⟩ | rfl | refine ⟨?_, ?_⟩ | exact lt_all_v)) (by simp) (by simp) D_nil
  · rintro k w - hw ⟨hk, hallh⟩ l1 w1 A1 M1 N1 hN1
    have hHB := (holdB_parts hH).1
    have hwB : hdB w = true := List.all_eq_true.1 hHB w (List.mem_of_getElem? hw)
    have hwI : 0 ≤ w.site ∧ 1 ≤ w.use ∧ w.use ≤ 1099511627776 := by simp [hdB] at hwB; omega
    have hkl := (List.getElem?_eq_some_iff.1 hw).1
    intro w2 A2 M2 N2 hN2
    refine ⟨rfl, ?_⟩
    refine ojs_call [] [] rfl rfl rfl rfl rfl rfl rfl (by simp) (fun _ => tokPlace_c n l s ⟨age, seq, q, hs, ⟨cv, cf, cn⟩⟩ ⟨a1, c1, a2, c2, a3, c3⟩ w.site w.use hwI.1 hwI.2) (by simp) (.inl rfl) ?_
    rintro e cs F1 _ ⟨rfl, rfl⟩
    dsimp only
    cases hN : nextAt seq w.site w.use
    · rw [show Z = false by rw [hZ, all_noE hw hN]]
      refine ⟨rfl, ?_⟩
      exact lv_of (lv_mark ret_ne rfl (lv_ret (endR_ok [] rfl rfl ⟨rfl, rfl⟩ rfl (fun _ => ⟨rfl, rfl⟩) (by simp))))
    · exact ⟨(), ⟨by omega, by rw [List.take_add_one, hw]; simp only [List.all_append, hallh, Bool.true_and]; simp [hN]⟩, wk_patch (by repeat' (first | exact trivial | exact Or.inl rfl | refine Or.inr ⟨?_, ?_⟩ | rfl | refine ⟨?_, ?_⟩ | exact lt_all_v)) (by repeat' (first | exact trivial | exact Or.inl rfl | refine Or.inr ⟨?_, ?_⟩ | rfl | refine ⟨?_, ?_⟩ | exact lt_all_v)) (by simp) (Nat.le_of_eq hN2) D_nil⟩
  · rintro - ⟨hk, hallh⟩
    rw [List.take_length] at hallh
    rw [show Z = true by rw [hZ, hallh]]
    exact lv_of (lv_mark ret_ne rfl (lv_ret (endR_ok [] rfl rfl ⟨rfl, rfl⟩ rfl (fun _ => ⟨rfl, rfl⟩) (by simp))))
end Go.Proofs.YtmhnlkakbadkgaaGreat
namespace Go.Proofs.YtmhnlkakbadkgaaGreat
open Go.RowKit Go.Shelf
set_option maxRecDepth 100000
theorem caughtIdleT : CaughtIdle Tryz.prog 98 := by
  intro n pe K lb w
  have hn : ∀ w : World, (binOp .neq 20 .nilIface .nilIface).run Tryz.prog w = .ok (.bool false) w := fun _ => by kernel_rfl
  refine callsDIn_of_wpSIn Tryz.func98 rfl trivial fun c₀ cs hu => ?_
  simp only [Tryz.ntmps98, List.size_toArray, List.length_cons, List.length_nil, Nat.reduceAdd, Nat.reduceSub, Array.replicate_succ, Array.replicate_zero, List.push_toArray, List.append_toArray, List.nil_append, List.cons_append]
  apply wpSIn_seq
  apply wpSIn_region
  simp [wpOpsSIn, go_sem, recoverD, hu, Exit.thenS]
  refine wpSIn_of_wpIn rfl (wpIn_wide.2 ?_)
  generalize hQ : (fun e a' w' => bodyPostS _ _ _ _ _ e a' _ w') = Q
  have HQ := Lib.hid hQ
  clear hQ
  go_wp2
  rw [← HQ.out]
  cases c₀
  simp_all [bodyPostS, results, Tryz.results98]
set_option maxRecDepth 100000 in
set_option maxHeartbeats 1000000 in
theorem caughtUpT : CaughtUp Tryz.prog 98 46 46 := by
  intro nn pe K lb n older w R hnn hE hK hR
  have hn : ∀ (w : World) (n : Int), (binOp .neq 20 (.iface 46 (.int .i64 n)) .nilIface).run Tryz.prog w = .ok (.bool true) w := fun _ _ => by kernel_rfl
  have ht : ∀ (w : World) (n : Int), (Instr.typeAssert (.iface 46 (.int .i64 n)) 20 46 true).run Tryz.prog w = .ok (.tuple #[.int .i64 n, .bool true]) w := fun _ _ => by kernel_rfl
  have eK : ∀ args w, (callFunc K args).run Tryz.prog w = .ok (.enter K args) w := hE
  refine callsDIn_of_wpSIn Tryz.func98 rfl trivial fun c₀ cs hu => ?_
  simp only [Tryz.ntmps98, List.size_toArray, List.length_cons, List.length_nil, Nat.reduceAdd, Nat.reduceSub, Array.replicate_succ, Array.replicate_zero, List.push_toArray, List.append_toArray, List.nil_append, List.cons_append]
  apply wpSIn_seq
  apply wpSIn_region
  simp [wpOpsSIn, go_sem, recoverD, hu, Exit.thenS]
  refine wpSIn_of_wpIn rfl (wpIn_wide.2 ?_)
  generalize hQ : (fun e a' w' => bodyPostS _ _ _ _ _ e a' _ w') = Q
  have HQ := Lib.hid hQ
  clear hQ
  go_wp2_with fail
  refine hK.mono ?_
  rintro e w1 ⟨rfl, hr⟩
  obtain ⟨v, hv⟩ := hR w1 hr
  have c1 := cells1 hv
  go_wp2
  rw [← HQ.out]
  cases c₀
  simp_all [bodyPostS, results, Tryz.results98]
  exact ⟨w1, hr, rfl⟩
set_option maxHeartbeats 2000000 in
theorem tokRight_c (n l s : Int) (x : Tok) (p : Sls) (hx : x.small) : Cm Tryz.prog 163 [.agg (undV x p n l s).toArray] [] (tokF x p) (rets (.bool (tokB n l s x))) := by
  have hS := tokSites_c n l s x p hx.1
  have hC := tokCounter_c n l s x p
  have hL := tokLists_c n l s x p hx
  rw [tokB_parts]
  obtain ⟨age, seq, q, hs, ⟨cv, cf, cn⟩⟩ := x
  obtain ⟨a1, c1, a2, c2, a3, c3⟩ := p
  unfold tokF
  unfold tokF at hL
  dsimp only at hS hC hL ⊢
  refine cm_of (tab := tb) (ok := tbOk) [.g [.v (.int .i64 age), .v (.slice a1 seq.length c1), .v (.slice a2 q.length c2), .v (.slice a3 hs.length c3), .v (.int .i64 cv), .v (.int .i64 cf), .v (.int .u64 cn), .v (.int .i64 n), .v (.int .i64 l), .v (.int .i64 s)]] Tryz.func163 Tryz.ntmps163 rfl rfl (fun _ _ => rfl) ?_
  intro w0 A0
  refine optK_of (yd_bound (v := .agg #[.int .i64 age, .slice a1 seq.length c1, .slice a2 q.length c2, .slice a3 hs.length c3, .int .i64 cv, .int .i64 cf, .int .u64 cn, .int .i64 n, .int .i64 l, .int .i64 s]) rfl rfl (fun _ => rfl)) ?_
  refine optK_of (yd_bound (v := .agg #[.int .i64 age, .slice a1 seq.length c1, .slice a2 q.length c2, .slice a3 hs.length c3, .int .i64 cv, .int .i64 cf, .int .u64 cn, .int .i64 n, .int .i64 l, .int .i64 s]) rfl rfl (fun _ => rfl)) ?_
  refine optK_of (yd_bound (v := .agg #[.int .i64 age, .slice a1 seq.length c1, .slice a2 q.length c2, .slice a3 hs.length c3, .int .i64 cv, .int .i64 cf, .int .u64 cn, .int .i64 n, .int .i64 l, .int .i64 s]) rfl rfl (fun _ => rfl)) ?_
  refine optK_of (yd_buildA rfl rfl rfl rfl rfl) ?_
  refine cjs_turns 4 ?_
  refine ojs_yd (yd_arrIdx (i := 0) (m := 3) rfl (by decide) rfl rfl rfl rfl rfl rfl) rfl ?_
  refine ojs_call [] [] rfl rfl rfl rfl rfl rfl rfl (by simp) (fun _ => hS) (by simp) (.inl rfl) ?_
  rintro e cs F1 _ ⟨rfl, rfl⟩
  generalize sitB n l s ⟨age, seq, q, hs, ⟨cv, cf, cn⟩⟩ = r1
  cases r1
  · exact endR_ok [] rfl rfl ⟨rfl, rfl⟩ rfl (fun _ => ⟨ret_bool (by simp), rfl⟩) (by simp)
  refine ojs_arith (z := 1) (by first | decide | (rw [wrap_in] <;> omega) | (dsimp only; rw [wrap_in] <;> omega)) rfl rfl rfl rfl ?_
  refine ojs_yd (yd_arrIdx (i := 1) (m := 3) rfl (by decide) rfl rfl rfl rfl rfl rfl) rfl ?_
  refine ojs_call [] [] rfl rfl rfl rfl rfl rfl rfl (by simp) (fun _ => hC) (by simp) (.inl rfl) ?_
  rintro e cs F1 _ ⟨rfl, rfl⟩
  generalize ctrB ⟨cv, cf, cn⟩ = r2
  cases r2
  · exact endR_ok [] rfl rfl ⟨rfl, rfl⟩ rfl (fun _ => ⟨ret_bool (by simp), rfl⟩) (by simp)
  refine ojs_arith (z := 2) (by first | decide | (rw [wrap_in] <;> omega) | (dsimp only; rw [wrap_in] <;> omega)) rfl rfl rfl rfl ?_
  refine ojs_yd (yd_arrIdx (i := 2) (m := 3) rfl (by decide) rfl rfl rfl rfl rfl rfl) rfl ?_
  refine ojs_call [] [] rfl rfl rfl rfl rfl rfl rfl (by simp) (fun _ => hL) (by simp) (.inl rfl) ?_
  rintro e cs F1 _ ⟨rfl, rfl⟩
  generalize listB ⟨age, seq, q, hs, ⟨cv, cf, cn⟩⟩ = r3
  cases r3
  · exact endR_ok [] rfl rfl ⟨rfl, rfl⟩ rfl (fun _ => ⟨ret_bool (by simp), rfl⟩) (by simp)
  refine ojs_arith (z := 3) (by first | decide | (rw [wrap_in] <;> omega) | (dsimp only; rw [wrap_in] <;> omega)) rfl rfl rfl rfl ?_
  exact endR_ok [] rfl rfl ⟨rfl, rfl⟩ rfl (fun _ => ⟨ret_bool (by simp), rfl⟩) (by simp)
end Go.Proofs.YtmhnlkakbadkgaaGreat
namespace Go.Proofs.YtmhnlkakbadkgaaGreat
open Go.RowKit Go.Shelf
set_option maxRecDepth 100000
theorem tokOwn_c (x : Tok) (p : Sls) (hx : x.small) : Cm Tryz.prog 161 [.agg (tokV x p).toArray] [] (tokF x p) (fun e _ F1 => ∃ p', e = .returned (.agg (tokV x p').toArray) ∧ F1 = tokF x p') := by
  obtain ⟨hx1, hx2, hx3⟩ := hx
  obtain ⟨age, seq, q, hs, ⟨cv, cf, cn⟩⟩ := x
  dsimp only at hx1 hx2 hx3
  obtain ⟨a1, c1, a2, c2, a3, c3⟩ := p
  unfold tokF
  dsimp only
  refine cm_of (tab := tb) (ok := tbOk) [.g [.v (.int .i64 age), .v (.slice a1 seq.length c1), .v (.slice a2 q.length c2), .v (.slice a3 hs.length c3), .v (.int .i64 cv), .v (.int .i64 cf), .v (.int .u64 cn)]] Tryz.func161 Tryz.ntmps161 rfl rfl (fun _ _ => rfl) ?_
  intro w0 A0
  refine cjs_drawn [2, 5, 8, 10, 12, 14] (.op 0 <| .op 1 <| .op 3 <| .op 4 <| .op 6 <| .op 7 <| .op 2 <| .op 9 <| .op 5 <| .op 8 <| .op 10 <| .op 11 <| .op 12 <| .op 13 <| .op 14 .z) [0] [(10, 0), (12, 0), (14, 0)] [] [] (by kernel_rfl) (by kernel_rfl) rfl (by simp) (by simp) ?_
  intro N
  refine ojs_callOwn rfl rfl rfl rfl rfl (fun _ => rfl) rfl rfl (cloneJ_co a1 c1 seq (by omega)) (by simp) ?_
  intro x1 y1
  refine ⟨⟨(by repeat' (first | exact trivial | refine ⟨Or.inl rfl, ?_⟩ | refine ⟨Or.inr ⟨rfl, Nat.le_of_ble_eq_true rfl, _, rfl, rfl, rfl⟩, ?_⟩)), by simp⟩, ?_⟩
  refine ojs_callOwn rfl rfl rfl rfl rfl (fun _ => rfl) rfl rfl (cloneWt_co a2 c2 q (by omega)) (by simp) ?_
  intro x2 y2
  refine ⟨⟨(by repeat' (first | exact trivial | refine ⟨Or.inl rfl, ?_⟩ | refine ⟨Or.inr ⟨rfl, Nat.le_of_ble_eq_true rfl, _, rfl, rfl, rfl⟩, ?_⟩)), by simp⟩, ?_⟩
  refine ojs_callOwn rfl rfl rfl rfl rfl (fun _ => rfl) rfl rfl (cloneHd_co a3 c3 hs (by omega)) (by simp) ?_
  intro x3 y3
  refine ⟨⟨(by repeat' (first | exact trivial | refine ⟨Or.inl rfl, ?_⟩ | refine ⟨Or.inr ⟨rfl, Nat.le_of_ble_eq_true rfl, _, rfl, rfl, rfl⟩, ?_⟩)), by simp⟩, ?_⟩
  refine ⟨⟨(by repeat' (first | exact trivial | refine ⟨Or.inl rfl, ?_⟩ | refine ⟨Or.inr ⟨rfl, Nat.le_of_ble_eq_true rfl, _, rfl, rfl, rfl⟩, ?_⟩)), by simp⟩, ?_⟩
  refine ⟨⟨(by repeat' (first | exact trivial | refine ⟨Or.inl rfl, ?_⟩ | refine ⟨Or.inr ⟨rfl, Nat.le_of_ble_eq_true rfl, _, rfl, rfl, rfl⟩, ?_⟩)), by simp⟩, ?_⟩
  refine ⟨⟨(by repeat' (first | exact trivial | refine ⟨Or.inl rfl, ?_⟩ | refine ⟨Or.inr ⟨rfl, Nat.le_of_ble_eq_true rfl, _, rfl, rfl, rfl⟩, ?_⟩)), by simp⟩, ?_⟩
  refine endR_weak (wk_seal (j := 2) (v := .slice x1 seq.length y1) (m := seq.length) (enc := encI) (xs := seq) (.inl rfl) (fun _ => rfl) rfl rfl) ?_
  refine endR_weak (wk_seal (j := 3) (v := .slice x2 q.length y2) (m := q.length) (enc := wtL) (xs := q) (.inl rfl) wtL_len rfl rfl) ?_
  refine endR_weak (wk_seal (j := 4) (v := .slice x3 hs.length y3) (m := hs.length) (enc := hdL) (xs := hs) (.inl rfl) hdL_len rfl rfl) ?_
  exact endR_ok (tokF ⟨age, seq, q, hs, ⟨cv, cf, cn⟩⟩ ⟨x1, y1, x2, y2, x3, y3⟩) rfl rfl ⟨rfl, rfl⟩ rfl (fun _ => ⟨⟨x1, y1, x2, y2, x3, y3⟩, rfl, rfl⟩) (by simp [tokF])
def undS (x : Tok) (p : Sls) (n l s : Int) : List SV := [.v (.int .i64 x.age), .v (.slice p.a1 x.seq.length p.c1), .v (.slice p.a2 x.q.length p.c2), .v (.slice p.a3 x.hs.length p.c3), .v (.int .i64 x.c.value), .v (.int .i64 x.c.floor), .v (.int .u64 x.c.version), .v (.int .i64 n), .v (.int .i64 l), .v (.int .i64 s)]
def tokP : List PanicEntry := [{ v := .iface 46 (.int .i64 2), recovered := false }]
def tokOfX (n l s : Int) (x : Tok) : OutX := fun r Ls F1 => (tokB n l s x = true ∧ ∃ p', r = .inl (.o (.p 0 0)) ∧ Ls = [.c (undS x p' n l s) 183] ∧ F1 = tokF x p') ∨ (tokB n l s x = false ∧ r = .inr tokP ∧ Ls = [] ∧ F1 = [])
def tokS (x : Tok) (p : Sls) : List SV := [.v (.int .i64 x.age), .v (.slice p.a1 x.seq.length p.c1), .v (.slice p.a2 x.q.length p.c2), .v (.slice p.a3 x.hs.length p.c3), .v (.int .i64 x.c.value), .v (.int .i64 x.c.floor), .v (.int .u64 x.c.version)]
set_option maxHeartbeats 2000000 in
theorem tokOf_x (n l s : Int) (x : Tok) (p : Sls) (hx : x.small) : Cx Tryz.prog 100 [.g [.v (.int .i64 n), .v (.int .i64 l), .v (.int .i64 s)], .g (tokS x p)] [] (tokF x p) (tokOfX n l s x) := by
  have hO := tokOwn_c x p hx
  obtain ⟨age, seq, q, hs, ⟨cv, cf, cn⟩⟩ := x
  obtain ⟨a1, c1, a2, c2, a3, c3⟩ := p
  refine cx_of (tab := tb) (ok := tbOk) Tryz.func100 Tryz.ntmps100 rfl rfl rfl rfl ?_
  intro ρ w0 A0
  refine cjs_drawn [1, 3, 4] (.op 0 <| .op 2 <| .op 1 <| .op 3 <| .op 4 <| .op 5 .z) [0, 1] [] [] [] (by kernel_rfl) (by kernel_rfl) rfl (by simp) (by simp) ?_
  intro N
  refine ojs_call [] [] rfl rfl rfl rfl rfl rfl rfl (by simp) (fun _ => hO) (by simp [tokF]) (.inl rfl) ?_
  rintro e cs F1 _ ⟨⟨x1, y1, x2, y2, x3, y3⟩, rfl, rfl⟩
  refine ⟨⟨(by repeat' (first | exact trivial | refine ⟨Or.inl rfl, ?_⟩ | refine ⟨Or.inr ⟨rfl, Nat.le_of_ble_eq_true rfl, _, rfl, rfl, rfl⟩, ?_⟩)), by simp⟩, ?_⟩
  refine ⟨⟨(by repeat' (first | exact trivial | refine ⟨Or.inl rfl, ?_⟩ | refine ⟨Or.inr ⟨rfl, Nat.le_of_ble_eq_true rfl, _, rfl, rfl, rfl⟩, ?_⟩)), by simp⟩, ?_⟩
  refine ⟨⟨(by repeat' (first | exact trivial | refine ⟨Or.inl rfl, ?_⟩ | refine ⟨Or.inr ⟨rfl, Nat.le_of_ble_eq_true rfl, _, rfl, rfl, rfl⟩, ?_⟩)), by simp⟩, ?_⟩
  refine ojs_call [] [] rfl rfl rfl rfl rfl rfl rfl (by simp) (fun _ => tokRight_c n l s ⟨age, seq, q, hs, ⟨cv, cf, cn⟩⟩ ⟨x1, y1, x2, y2, x3, y3⟩ hx) (by simp [tokF]) (.inl rfl) ?_
  rintro e cs F1 _ ⟨rfl, rfl⟩
  unfold tokOfX
  cases hB : tokB n l s ⟨age, seq, q, hs, ⟨cv, cf, cn⟩⟩
  · refine ojs_call [] [] rfl rfl rfl rfl rfl rfl rfl (by simp) (fun _ => mustT_c false 2) (by simp) (.inl rfl) ?_
    rintro e cs F1 _ ⟨⟨hb, rfl⟩ | ⟨hb, rfl⟩, rfl⟩
    · cases hb
    exact endPX_ok [] [] [] rfl ⟨rfl, rfl⟩ rfl rfl (by simp) trivial rfl (.inr ⟨rfl, rfl, rfl, rfl⟩) (by simp)
  · refine ojs_call [] [] rfl rfl rfl rfl rfl rfl rfl (by simp) (fun _ => mustT_c true 2) (by simp) (.inl rfl) ?_
    rintro e cs F1 _ ⟨⟨hb, rfl⟩ | ⟨hb, rfl⟩, rfl⟩
    rotate_left
    · cases hb
    exact endX_ok [2] (.o (.p 0 0)) [.c (undS ⟨age, seq, q, hs, ⟨cv, cf, cn⟩⟩ ⟨x1, y1, x2, y2, x3, y3⟩ n l s) 183] (tokF ⟨age, seq, q, hs, ⟨cv, cf, cn⟩⟩ ⟨x1, y1, x2, y2, x3, y3⟩) rfl rfl rfl rfl ⟨rfl, rfl⟩ rfl rfl (by simp) ⟨rfl, trivial⟩ rfl rfl (.inl ⟨rfl, ⟨x1, y1, x2, y2, x3, y3⟩, rfl, rfl, rfl⟩) (by simp [tokF])
theorem tokCheckK_c : Cm Tryz.prog 156 [] [] [] (fun e cs F1 => e = .returned (.tuple #[]) ∧ cs = [] ∧ F1 = []) := by
  refine cm_of (tab := tb) (ok := tbOk) [] Tryz.func156 Tryz.ntmps156 rfl rfl (fun _ _ => rfl) ?_
  intro w0 A0
  exact endR_ok [] rfl rfl ⟨rfl, rfl⟩ rfl (fun _ => ⟨rfl, rfl, rfl⟩) (by simp)
def tokE (n l s : Int) (x : Tok) : Int := bif tokB n l s x then 0 else 2
theorem tokCheck_c (n l s : Int) (x : Tok) (p : Sls) (hx : x.small) : Cm Tryz.prog 95 [.agg #[.int .i64 n, .int .i64 l, .int .i64 s], .agg (tokV x p).toArray] [] (tokF x p) (rets (.int .i64 (tokE n l s x))) := by
  have hO := tokOf_x n l s x p hx
  obtain ⟨age, seq, q, hs, ⟨cv, cf, cn⟩⟩ := x
  obtain ⟨a1, c1, a2, c2, a3, c3⟩ := p
  refine cm_ofD (tab := tb) (ok := tbOk) [.g [.v (.int .i64 n), .v (.int .i64 l), .v (.int .i64 s)], .g [.v (.int .i64 age), .v (.slice a1 seq.length c1), .v (.slice a2 q.length c2), .v (.slice a3 hs.length c3), .v (.int .i64 cv), .v (.int .i64 cf), .v (.int .u64 cn)]] Tryz.func95 Tryz.ntmps95 rfl rfl (fun _ _ => rfl) ?_
  intro w0 A0
  refine ojs_caughtV rfl rfl rfl rfl rfl rfl rfl rfl ?_
  refine ojs_callX (mu := []) [] rfl rfl rfl rfl rfl rfl rfl trivial (by simp) hO (by simp [tokF]) ?_
  unfold tokE
  rintro r Ls F1 (⟨hB, p', rfl, rfl, rfl⟩ | ⟨hB, rfl, rfl, rfl⟩)
  · refine lv_idle caughtIdleT (enters_of Tryz.func98 (by kernel_rfl) rfl) (lv_ret ?_)
    rw [hB]
    exact endR_ok [] rfl rfl ⟨rfl, rfl⟩ rfl (fun _ => ⟨rfl, rfl⟩) (by simp)
  · refine lv_up [] caughtUpT (enters_of Tryz.func98 (by kernel_rfl) rfl) (enters_of Tryz.func156 (by kernel_rfl) rfl) rfl (by simp) (fun ρ => tokCheckK_c) rfl (lv_ret ?_)
    rw [hB]
    exact endR_ok [] rfl rfl ⟨rfl, rfl⟩ rfl (fun _ => ⟨rfl, rfl⟩) (by simp)
end Go.Proofs.YtmhnlkakbadkgaaGreat
namespace Go.Proofs.YtmhnlkakbadkgaaGreat
open Go.RowKit Go.Shelf
set_option maxRecDepth 100000
def postW (w0 : World) (v0 : Value) (e sz m' : Nat) (xs' : List Value) : Ending → World → Prop := fun en w' => ∃ a' c', en = .returned (.slice a' m' c') ∧ w'.ownsRow 0 e sz (.slice a' m' c') m' xs' ∧ (∀ b, (Value.slice a' m' c').ownBlock = some b → v0.ownBlock = some b ∨ w0.heap.size ≤ b) ∧ Kp v0.ownBlock.toList w0 w'
section
variable {X : Fx} {T : TE} {L : LE} {n : Nat} {F : List Fact} {D : DF}
def endKWD (X : Fx) (res : List ResultVar) (v0 : Value) (e sz m' : Nat) (xs' : List Value) : KK := fun ex T L n F D => match ex with
  | .normal => LvR X 8 (postW X.w0 v0 e sz m' xs') res .returning T L n F D
  | .ret => LvR X 8 (postW X.w0 v0 e sz m' xs') res .returning T L n F D
  | _ => False
theorem lvW_ret {res : List ResultVar} {v0 : Value} {e sz m' : Nat} {xs' : List Value} (h : EndW X res v0 e sz m' xs' T L n F D) : LvR X 8 (postW X.w0 v0 e sz m' xs') res .returning T L n F D := by
  intro a w hr fn hfn
  obtain ⟨h1, h2⟩ := h a w hr
  obtain ⟨a2, c2, h3, h4⟩ := h2 fn hfn
  rw [h1]
  exact ⟨_, h3, a2, c2, rfl, h4⟩
theorem cow_ofD {P : Program} {tab : Tab} {ok : tab.Ok P} {g : Nat} {fn : Func} {body : Code} {args : Value → List Value} {F0 : List Fact} {e sz m m' : Nat} {xs xs' : List Value} {k : Nat} (us : Value → List TV) (hf : P.funcs[g]? = some fn) (hk : fn.ntmps = k) (hb : fn.body = some body) (hul : ∀ v, Nat.ble (us v).length k = true)
    (hargs : ∀ v (ρ : Nm), (us v).map (TV.den ρ) = args v)
    (h : ∀ w0 A0 a cap, sx ⟨P, tab, ok, none, 8, k, w0, A0, (Value.slice a m cap).ownBlock.toList, []⟩ body (argT 0 (us (.slice a m cap))) [(0, .own (.slice a m cap) e sz m xs)] 1 F0 (fun _ => []) (endKWD ⟨P, tab, ok, none, 8, k, w0, A0, (Value.slice a m cap).ownBlock.toList, []⟩ fn.results.toList (.slice a m cap) e sz m' xs')) : CoW P g args F0 e sz m xs m' xs' := by
  intro A w a cap hown hA hAl hF
  refine (callsIn_wide (n := 8)).1 (callsIn_of_wp_marks hf hb trivial ?_ rfl)
  rw [hk]
  have hk2 : (us (.slice a m cap)).length ≤ k := by have := hul (.slice a m cap); rwa [Nat.ble_eq] at this
  have hll : (args (.slice a m cap)).length = (us (.slice a m cap)).length := by rw [← hargs _ (fun _ => 0)]; simp
  refine sx_sound (h w A a cap) _ ?_ _ _ ?_
  · intro ex T L n F D hK a' w' hr
    cases ex with
    | normal => exact hK a' w' hr fn rfl
    | ret => exact hK a' w' hr fn rfl
    | panic ch => exact hK.elim
    | exit id => exact hK.elim
    | goto l => exact hK.elim
    | outgrown => exact hK.elim
  · have one : ∀ {k' : Nat} {e' : LC}, alook [(0, LC.own (.slice a m cap) e sz m xs)] k' = some e' → k' = 0 ∧ e' = .own (.slice a m cap) e sz m xs := by
      intro k' e' hk'
      rw [alook_cons] at hk'
      split at hk'
      · rename_i ek; cases hk'; exact ⟨ek, rfl⟩
      · cases hk'
    refine ⟨fun k' e' hk' => by rw [(one hk').1]; exact Nat.zero_lt_one, fun _ => 0, A, fun ρ _ => ⟨⟨?_, fun k' e' hk' => ?_, hF⟩, by simp; omega, rfl, Kp.refl _ _, fun k' e' b hk' hb' => ?_, fun k1 k2 e1 e2 b hk1 hk2 _ _ => by rw [(one hk1).1, (one hk2).1], fun b hb' => .inl hb', fun b hb' => ⟨hAl b hb', fun k' e' hk' hbk => ?_⟩, fun i b hi => (by cases hi)⟩⟩
    · intro t x hx
      obtain ⟨j, rfl, hj⟩ := argT_look hx
      rw [Nat.zero_add, ← hargs _ ρ, Array.getD_eq_getD_getElem?, Array.getElem?_append_left (by simpa using (List.getElem?_eq_some_iff.1 hj).1), List.getElem?_toArray, List.getElem?_map, hj]
      rfl
    · obtain ⟨rfl, rfl⟩ := one hk'
      exact hown
    · obtain ⟨rfl, rfl⟩ := one hk'
      exact .inl (by rw [Option.mem_toList]; exact hb')
    · obtain ⟨rfl, rfl⟩ := one hk'
      exact hA b hbk hb'
end
section
variable {X : Fx} {T : TE} {L : LE} {n : Nat} {F : List Fact} {D : DF} {K : KK} {k : KS} {o : Oper}
theorem yd_loadF1 {t ct : TypeId} {x : Operand} {b o' : Nat} {v : Value} {cs : List Value} (hf : blkF b cs ct ∈ F) (ho : o.op = .load t x) (hk : alook X.tab.kd t = some none) (hx : evS T x = some (.o (.v (.pointer (some ⟨b, o', none⟩))))) (hv : cs[o']? = some v) : Yd X o T L F (.o (.v v)) :=
  yd_load1 (blkF b cs ct) hf (fun A w h => blk_cell hv A w h) ho hk hx
theorem yd_loadFN {t ct : TypeId} {x : Operand} {b o' : Nat} {vs cs : List Value} (hf : blkF b cs ct ∈ F) (ho : o.op = .load t x) (hk : alook X.tab.kd t = some (some vs.length)) (hx : evS T x = some (.o (.v (.pointer (some ⟨b, o', none⟩))))) (hv : (cs.drop o').take vs.length = vs) : Yd X o T L F (.g (vs.map SV.v)) :=
  yd_loadN (blkF b cs ct) hf (fun A w h j u hu => by
    have hj := (List.getElem?_eq_some_iff.1 hu).1
    refine blk_cell ?_ A w h
    rw [← hv, List.getElem?_take_of_lt hj, List.getElem?_drop] at hu
    exact hu) ho hk hx
end
def moreB (x y : Sta) : Bool := bif x.over != y.over then decide (y.over < x.over) else x.pend && !y.pend
theorem staMore_c (x y : Sta) : Cm Tryz.prog 209 [.agg (staL x).toArray, .agg (staL y).toArray] [] [] (rets (.bool (moreB x y))) := by
  obtain ⟨a, b, c, d⟩ := x
  obtain ⟨a', b', c', d'⟩ := y
  have hM : moreB ⟨a, b, c, d⟩ ⟨a', b', c', d'⟩ = bif a != a' then decide (a' < a) else b && !b' := rfl
  rw [hM]
  refine cm_of (tab := tb) (ok := tbOk) [.g [.v (.int .i64 a), .v (.bool b), .v (.int .i64 c), .v (.int .i64 d)], .g [.v (.int .i64 a'), .v (.bool b'), .v (.int .i64 c'), .v (.int .i64 d')]] Tryz.func209 Tryz.ntmps209 rfl rfl (fun _ _ => rfl) ?_
  intro w0 A0
  refine brB_split (fun h0 => ?_) (fun h0 => ?_)
  · rw [h0]
    exact endR_ok [] rfl rfl ⟨rfl, rfl⟩ rfl (fun _ => ⟨rfl, rfl⟩) (by simp)
  · rw [h0]
    cases b <;> cases b'
    · exact endR_ok [] rfl rfl ⟨rfl, rfl⟩ rfl (fun _ => ⟨rfl, rfl⟩) (by simp)
    · exact endR_ok [] rfl rfl ⟨rfl, rfl⟩ rfl (fun _ => ⟨rfl, rfl⟩) (by simp)
    · exact endR_ok [] rfl rfl ⟨rfl, rfl⟩ rfl (fun _ => ⟨rfl, rfl⟩) (by simp)
    · exact endR_ok [] rfl rfl ⟨rfl, rfl⟩ rfl (fun _ => ⟨rfl, rfl⟩) (by simp)
theorem more_c (x y : Sta) : Cm Tryz.prog 170 [.agg (staL x).toArray, .agg (staL y).toArray] [] [] (rets (.bool (moreB x y))) := by
  have hM := staMore_c x y
  obtain ⟨a, b, c, d⟩ := x
  obtain ⟨a', b', c', d'⟩ := y
  refine cm_of (tab := tb) (ok := tbOk) [.g [.v (.int .i64 a), .v (.bool b), .v (.int .i64 c), .v (.int .i64 d)], .g [.v (.int .i64 a'), .v (.bool b'), .v (.int .i64 c'), .v (.int .i64 d')]] Tryz.func170 Tryz.ntmps170 rfl rfl (fun _ _ => rfl) ?_
  intro w0 A0
  refine ojs_call [] [] rfl rfl rfl rfl rfl rfl rfl (by simp) (fun _ => hM) (by simp) (.inl rfl) ?_
  rintro e cs F1 _ ⟨rfl, rfl⟩
  exact endR_ok [] rfl rfl ⟨rfl, rfl⟩ rfl (fun _ => ⟨rfl, rfl⟩) (by simp)
end Go.Proofs.YtmhnlkakbadkgaaGreat
