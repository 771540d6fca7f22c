/- Part 34 of the proof of LockBacks: contracts of functions that the law reaches, or the rules by which they are walked. No condition. -/
import Derived.Test.YtmhnlkakbadkgaaGreatPkbg
namespace Go.Proofs.YtmhnlkakbadkgaaGreat
open Go.RowKit Go.Shelf
set_option maxRecDepth 100000
theorem mustK_c (b : Bool) (e : Int) : Cm Tryz.prog 44 [.bool b, .int .i64 e] [] [] (mustE 46 b e) := by
  refine cm_of (tab := tb) (ok := tbOk) [.o (.v (.bool b)), .o (.v (.int .i64 e))] Tryz.func44 Tryz.ntmps44 rfl rfl (fun _ _ => rfl) ?_
  intro w0 A0
  cases b
  · refine ojs_yd (yd_iface (by kernel_rfl) rfl rfl) rfl ?_
    refine ojs_panic rfl rfl ?_
    exact endP_ok [] rfl ⟨rfl, rfl⟩ rfl (fun _ => ⟨.inr ⟨rfl, rfl⟩, rfl⟩) (by simp)
  · exact endR_ok [] rfl rfl ⟨rfl, rfl⟩ rfl (fun _ => ⟨.inl ⟨rfl, rfl⟩, rfl⟩) (by simp)
theorem lockRight_c (b : Bool) : Cm Tryz.prog 30 [.bool b] [] [] (mustE 46 b 2) := by
  refine cm_of (tab := tb) (ok := tbOk) [.o (.v (.bool b))] Tryz.func30 Tryz.ntmps30 rfl rfl (fun _ _ => rfl) ?_
  intro w0 A0
  refine ojs_call [] [] rfl rfl rfl rfl rfl rfl rfl (by simp) (fun _ => mustK_c b 2) (by simp) (.inl rfl) ?_
  rintro e cs F1 _ ⟨⟨rfl, rfl⟩ | ⟨rfl, rfl⟩, rfl⟩
  · exact endR_ok [] rfl rfl ⟨rfl, rfl⟩ rfl (fun _ => ⟨.inl ⟨rfl, rfl⟩, rfl⟩) (by simp)
  · exact endP_ok [] rfl ⟨rfl, rfl⟩ rfl (fun _ => ⟨.inr ⟨rfl, rfl⟩, rfl⟩) (by simp)
theorem inB_node {n k : Int} : inB k 0 (n - 1) = nodeB n k := by rw [Bool.eq_iff_iff]; simp [inB, nodeB]; omega
theorem lockPlace_c (p : Plc) : Cm Tryz.prog 29 [.agg (plcL p).toArray] [] [] (mustE 46 (placeB p) 2) := by
  obtain ⟨n, l, s, me, lock, limit, retry, far, now, still⟩ := p
  refine cm_of (tab := tb) (ok := tbOk) [.g [.v (.int .i64 n), .v (.int .i64 l), .v (.int .i64 s), .v (.int .i64 me), .v (.int .i64 lock), .v (.int .i64 limit), .v (.int .i64 retry), .v (.int .i64 far), .v (.int .i64 now), .v (.bool still)]] Tryz.func29 Tryz.ntmps29 rfl rfl (fun _ _ => rfl) ?_
  intro w0 A0
  have hP : placeB ⟨n, l, s, me, lock, limit, retry, far, now, still⟩ = (shapeB n l s && (nodeB n me && nodeB l lock) && capB limit && spanB retry && spanB far && tickB now) := rfl
  generalize placeB ⟨n, l, s, me, lock, limit, retry, far, now, still⟩ = R at hP
  refine ojs_call [] [] rfl rfl rfl rfl rfl rfl rfl (by simp) (fun _ => siteCheck_c n l s) (by simp) (.inl rfl) ?_
  rintro e cs F1 _ ⟨rfl, rfl⟩
  unfold shapeE
  cases hs : shapeB n l s
  · refine ojs_call [] [] rfl rfl rfl rfl rfl rfl rfl (by simp) (fun _ => lockRight_c false) (by simp) (.inl rfl) ?_
    rintro e cs F1 _ ⟨⟨h, _⟩ | ⟨_, rfl⟩, rfl⟩
    · cases h
    · exact endP_ok [] rfl ⟨rfl, rfl⟩ rfl (fun _ => ⟨.inr ⟨by rw [hP, hs]; rfl, rfl⟩, rfl⟩) (by simp)
  obtain ⟨e1, e2, e3⟩ := shapeB_is hs
  refine ojs_call [] [] rfl rfl rfl rfl rfl rfl rfl (by simp) (fun _ => lockRight_c true) (by simp) (.inl rfl) ?_
  rintro e cs F1 _ ⟨⟨_, rfl⟩ | ⟨h, _⟩, rfl⟩
  rotate_left
  · cases h
  refine ojs_arith (z := n - 1) (by rw [wrap_in] <;> omega) rfl rfl rfl rfl ?_
  refine ojs_call [] [] rfl rfl rfl rfl rfl rfl rfl (by simp) (fun _ => lockWithin_c me 0 (n - 1)) (by simp) (.inl rfl) ?_
  rintro e cs F1 _ ⟨rfl, rfl⟩
  rw [inB_node]
  cases h1 : nodeB n me
  · refine ojs_call [] [] rfl rfl rfl rfl rfl rfl rfl (by simp) (fun _ => lockRight_c false) (by simp) (.inl rfl) ?_
    rintro e cs F1 _ ⟨⟨h, _⟩ | ⟨_, rfl⟩, rfl⟩
    · cases h
    · exact endP_ok [] rfl ⟨rfl, rfl⟩ rfl (fun _ => ⟨.inr ⟨by rw [hP, hs, h1]; rfl, rfl⟩, rfl⟩) (by simp)
  refine ojs_arith (z := l - 1) (by rw [wrap_in] <;> omega) rfl rfl rfl rfl ?_
  refine ojs_call [] [] rfl rfl rfl rfl rfl rfl rfl (by simp) (fun _ => lockWithin_c lock 0 (l - 1)) (by simp) (.inl rfl) ?_
  rintro e cs F1 _ ⟨rfl, rfl⟩
  rw [inB_node]
  cases h2 : nodeB l lock
  · refine ojs_call [] [] rfl rfl rfl rfl rfl rfl rfl (by simp) (fun _ => lockRight_c false) (by simp) (.inl rfl) ?_
    rintro e cs F1 _ ⟨⟨h, _⟩ | ⟨_, rfl⟩, rfl⟩
    · cases h
    · exact endP_ok [] rfl ⟨rfl, rfl⟩ rfl (fun _ => ⟨.inr ⟨by rw [hP, hs, h1, h2]; rfl, rfl⟩, rfl⟩) (by simp)
  refine ojs_call [] [] rfl rfl rfl rfl rfl rfl rfl (by simp) (fun _ => lockWithin_c limit 0 64) (by simp) (.inl rfl) ?_
  rintro e cs F1 _ ⟨rfl, rfl⟩
  rw [show inB limit 0 64 = capB limit from rfl]
  cases h3 : capB limit
  · refine ojs_call [] [] rfl rfl rfl rfl rfl rfl rfl (by simp) (fun _ => lockRight_c false) (by simp) (.inl rfl) ?_
    rintro e cs F1 _ ⟨⟨h, _⟩ | ⟨_, rfl⟩, rfl⟩
    · cases h
    · exact endP_ok [] rfl ⟨rfl, rfl⟩ rfl (fun _ => ⟨.inr ⟨by rw [hP, hs, h1, h2, h3]; rfl, rfl⟩, rfl⟩) (by simp)
  refine ojs_call [] [] rfl rfl rfl rfl rfl rfl rfl (by simp) (fun _ => lockRight_c true) (by simp) (.inl rfl) ?_
  rintro e cs F1 _ ⟨⟨_, rfl⟩ | ⟨h, _⟩, rfl⟩
  rotate_left
  · cases h
  refine ojs_call [] [] rfl rfl rfl rfl rfl rfl rfl (by simp) (fun _ => lockWithin_c retry 1 1099511627776) (by simp) (.inl rfl) ?_
  rintro e cs F1 _ ⟨rfl, rfl⟩
  rw [show inB retry 1 1099511627776 = spanB retry from rfl]
  cases h4 : spanB retry
  · refine ojs_call [] [] rfl rfl rfl rfl rfl rfl rfl (by simp) (fun _ => lockRight_c false) (by simp) (.inl rfl) ?_
    rintro e cs F1 _ ⟨⟨h, _⟩ | ⟨_, rfl⟩, rfl⟩
    · cases h
    · exact endP_ok [] rfl ⟨rfl, rfl⟩ rfl (fun _ => ⟨.inr ⟨by rw [hP, hs, h1, h2, h3, h4]; rfl, rfl⟩, rfl⟩) (by simp)
  refine ojs_call [] [] rfl rfl rfl rfl rfl rfl rfl (by simp) (fun _ => lockWithin_c far 1 1099511627776) (by simp) (.inl rfl) ?_
  rintro e cs F1 _ ⟨rfl, rfl⟩
  rw [show inB far 1 1099511627776 = spanB far from rfl]
  cases h5 : spanB far
  · refine ojs_call [] [] rfl rfl rfl rfl rfl rfl rfl (by simp) (fun _ => lockRight_c false) (by simp) (.inl rfl) ?_
    rintro e cs F1 _ ⟨⟨h, _⟩ | ⟨_, rfl⟩, rfl⟩
    · cases h
    · exact endP_ok [] rfl ⟨rfl, rfl⟩ rfl (fun _ => ⟨.inr ⟨by rw [hP, hs, h1, h2, h3, h4, h5]; rfl, rfl⟩, rfl⟩) (by simp)
  refine ojs_call [] [] rfl rfl rfl rfl rfl rfl rfl (by simp) (fun _ => lockRight_c true) (by simp) (.inl rfl) ?_
  rintro e cs F1 _ ⟨⟨_, rfl⟩ | ⟨h, _⟩, rfl⟩
  rotate_left
  · cases h
  refine ojs_call [] [] rfl rfl rfl rfl rfl rfl rfl (by simp) (fun _ => timerAt_c now) (by simp) (.inl rfl) ?_
  rintro e cs F1 _ ⟨pv, rfl, rfl⟩
  cases h6 : tickB now
  · refine ojs_call [] [] rfl rfl rfl rfl rfl rfl rfl (by simp) (fun _ => lockRight_c false) (by simp) (.inl rfl) ?_
    rintro e cs F1 _ ⟨⟨h, _⟩ | ⟨_, rfl⟩, rfl⟩
    · cases h
    · exact endP_ok [] rfl ⟨rfl, rfl⟩ rfl (fun _ => ⟨.inr ⟨by rw [hP, hs, h1, h2, h3, h4, h5, h6]; rfl, rfl⟩, rfl⟩) (by simp)
  refine ojs_call [] [] rfl rfl rfl rfl rfl rfl rfl (by simp) (fun _ => lockRight_c true) (by simp) (.inl rfl) ?_
  rintro e cs F1 _ ⟨⟨_, rfl⟩ | ⟨h, _⟩, rfl⟩
  rotate_left
  · cases h
  exact endR_ok [] rfl rfl ⟨rfl, rfl⟩ rfl (fun _ => ⟨.inl ⟨by rw [hP, hs, h1, h2, h3, h4, h5, h6]; rfl, rfl⟩, rfl⟩) (by simp)
theorem Tryz.infoSta : (Tryz.prog.info? 72).map (fun i => (i.zero, i.size, i.bytes)) = some (some (.agg #[.int .i64 0, .bool false, .int .i64 0, .int .i64 0]), 4, 32) := by kernel_rfl
theorem Tryz.infoSlt : (Tryz.prog.info? 87).map (fun i => (i.zero, i.size, i.bytes)) = some (some (.agg #[.int .i64 0, .int .i64 0, .int .i64 0, .int .i64 0, .int .i64 0, .int .i64 0, .int .i64 0, .int .u64 0]), 8, 64) := by kernel_rfl
theorem Tryz.infoTry : (Tryz.prog.info? 114).map (fun i => (i.zero, i.size, i.bytes)) = some (some (.agg #[.int .i64 0, .int .i64 0, .int .i64 0]), 3, 24) := by kernel_rfl
theorem staL_one {xs : List Sta} : ∀ u ∈ xs.flatMap staL, u.oneCell' = true := by
  intro u hu
  obtain ⟨x, _, hx⟩ := List.mem_flatMap.1 hu
  simp only [staL, List.mem_cons, List.not_mem_nil, or_false] at hx
  rcases hx with rfl | rfl | rfl | rfl <;> rfl
theorem sltL_one {xs : List Slt} : ∀ u ∈ xs.flatMap sltL, u.oneCell' = true := by
  intro u hu
  obtain ⟨x, _, hx⟩ := List.mem_flatMap.1 hu
  simp only [sltL, List.mem_cons, List.not_mem_nil, or_false] at hx
  rcases hx with rfl | rfl | rfl | rfl | rfl | rfl | rfl | rfl <;> rfl
theorem tryL_one {xs : List Try} : ∀ u ∈ xs.flatMap tryL, u.oneCell' = true := by
  intro u hu
  obtain ⟨x, _, hx⟩ := List.mem_flatMap.1 hu
  simp only [tryL, List.mem_cons, List.not_mem_nil, or_false] at hx
  rcases hx with rfl | rfl | rfl <;> rfl
set_option maxHeartbeats 1000000 in
theorem cloneSta_any (w : World) (sv : Value) (xs : List Sta) (hlen : xs.length ≤ 1099511627776) (hS : Sl staL 4 w sv xs) :
    Calls Tryz.prog 55 #[sv] w fun e w' => ∃ v, e = .returned v ∧ w'.ownsRow w.heap.size 72 4 v xs.length (xs.flatMap staL) ∧ Below w.heap.size w w' := by
  obtain ⟨a, cap, rfl⟩ := hS.shape
  obtain ⟨i0, hi, hz0, hz1, hz2⟩ := info_parts Tryz.infoSta
  cases a with
  | none =>
    obtain rfl := hS.nil_of_none
    have heq := fun w' => Lib.run_eql_slice_nil (P := Tryz.prog) w' 36 72 none 0 cap 0 0 Tryz.underlying36
    go_enter Tryz.func55, Tryz.ntmps55
    go_wp2
    go_ret
    exact ⟨_, rfl, World.ownsRow_nil _ _ _ _, Below.refl _ _⟩
  | some ad =>
    have heq := fun w' => Lib.run_eql_slice_nil (P := Tryz.prog) w' 36 72 (some ad) xs.length cap 0 0 Tryz.underlying36
    have hnews := (hS.below (w' := w.alloc (.cells #[] 72)) (by (repeat (first | (with_reducible exact Below.refl _ _) | (with_reducible assumption) | (with_reducible refine below_drewN ?_ _) | (with_reducible refine Below.drew ?_) | ((with_reducible refine Below.alloc ?_ ?_ _); rotate_left; focus (first | (with_reducible exact Nat.le_refl _) | omega | (simp; done) | (simp; omega))) | ((with_reducible refine Below.setCell (p := ⟨_, _, _⟩) ?_ ?_ _); rotate_left; focus (first | (with_reducible exact Nat.le_refl _) | omega | (simp; done) | (simp; omega))))))).news staL_len
    have hfl := flat_length staL_len xs
    have Hfl := Lib.hid hfl
    have Hnews := Lib.hid hnews
    clear hfl hnews hS
    have hown := World.ownsRow_made (w := w) (base := w.heap.size) (e := 72) (size := 4) #[] 0 (Nat.le_refl _) (by decide) rfl
    have Hown := Lib.hid hown
    clear hown
    go_enter Tryz.func55, Tryz.ntmps55
    go_wp2_with (at_builtin; refine wpList_append_own _ rfl _ _ 36 rfl w.heap.size 72 i0 (.agg #[.int .i64 0, .bool false, .int .i64 0, .int .i64 0]) 4 32 Tryz.underlying36 hi hz0 hz1 hz2 rfl (by decide) _ _ _ rfl Hown.out ad xs.length cap (xs.flatMap staL) rfl Hfl.out Hnews.out staL_one (by unfold maxLen; omega) (by omega) (by simp) ?_; intro v' w1 hown' hgrow _; have hv' := Lib.hid hown'; clear hown')
    go_ret
    refine ⟨v', rfl, by simpa using hv'.out, ((Below.refl _ w).alloc (Nat.le_refl _) _).grown hgrow (by simp) (fun k e => ?_)⟩
    have e1 : w.heap.size = k := Option.some.inj (show some w.heap.size = some k from e)
    omega
set_option maxHeartbeats 1000000 in
theorem cloneSlt_any (w : World) (sv : Value) (xs : List Slt) (hlen : xs.length ≤ 1099511627776) (hS : Sl sltL 8 w sv xs) :
    Calls Tryz.prog 56 #[sv] w fun e w' => ∃ v, e = .returned v ∧ w'.ownsRow w.heap.size 87 8 v xs.length (xs.flatMap sltL) ∧ Below w.heap.size w w' := by
  obtain ⟨a, cap, rfl⟩ := hS.shape
  obtain ⟨i0, hi, hz0, hz1, hz2⟩ := info_parts Tryz.infoSlt
  cases a with
  | none =>
    obtain rfl := hS.nil_of_none
    have heq := fun w' => Lib.run_eql_slice_nil (P := Tryz.prog) w' 37 87 none 0 cap 0 0 Tryz.underlying37
    go_enter Tryz.func56, Tryz.ntmps56
    go_wp2
    go_ret
    exact ⟨_, rfl, World.ownsRow_nil _ _ _ _, Below.refl _ _⟩
  | some ad =>
    have heq := fun w' => Lib.run_eql_slice_nil (P := Tryz.prog) w' 37 87 (some ad) xs.length cap 0 0 Tryz.underlying37
    have hnews := (hS.below (w' := w.alloc (.cells #[] 87)) (by (repeat (first | (with_reducible exact Below.refl _ _) | (with_reducible assumption) | (with_reducible refine below_drewN ?_ _) | (with_reducible refine Below.drew ?_) | ((with_reducible refine Below.alloc ?_ ?_ _); rotate_left; focus (first | (with_reducible exact Nat.le_refl _) | omega | (simp; done) | (simp; omega))) | ((with_reducible refine Below.setCell (p := ⟨_, _, _⟩) ?_ ?_ _); rotate_left; focus (first | (with_reducible exact Nat.le_refl _) | omega | (simp; done) | (simp; omega))))))).news sltL_len
    have hfl := flat_length sltL_len xs
    have Hfl := Lib.hid hfl
    have Hnews := Lib.hid hnews
    clear hfl hnews hS
    have hown := World.ownsRow_made (w := w) (base := w.heap.size) (e := 87) (size := 8) #[] 0 (Nat.le_refl _) (by decide) rfl
    have Hown := Lib.hid hown
    clear hown
    go_enter Tryz.func56, Tryz.ntmps56
    go_wp2_with (at_builtin; refine wpList_append_own _ rfl _ _ 37 rfl w.heap.size 87 i0 (.agg #[.int .i64 0, .int .i64 0, .int .i64 0, .int .i64 0, .int .i64 0, .int .i64 0, .int .i64 0, .int .u64 0]) 8 64 Tryz.underlying37 hi hz0 hz1 hz2 rfl (by decide) _ _ _ rfl Hown.out ad xs.length cap (xs.flatMap sltL) rfl Hfl.out Hnews.out sltL_one (by unfold maxLen; omega) (by omega) (by simp) ?_; intro v' w1 hown' hgrow _; have hv' := Lib.hid hown'; clear hown')
    go_ret
    refine ⟨v', rfl, by simpa using hv'.out, ((Below.refl _ w).alloc (Nat.le_refl _) _).grown hgrow (by simp) (fun k e => ?_)⟩
    have e1 : w.heap.size = k := Option.some.inj (show some w.heap.size = some k from e)
    omega
set_option maxHeartbeats 1000000 in
theorem cloneTry_any (w : World) (sv : Value) (xs : List Try) (hlen : xs.length ≤ 1099511627776) (hS : Sl tryL 3 w sv xs) :
    Calls Tryz.prog 57 #[sv] w fun e w' => ∃ v, e = .returned v ∧ w'.ownsRow w.heap.size 114 3 v xs.length (xs.flatMap tryL) ∧ Below w.heap.size w w' := by
  obtain ⟨a, cap, rfl⟩ := hS.shape
  obtain ⟨i0, hi, hz0, hz1, hz2⟩ := info_parts Tryz.infoTry
  cases a with
  | none =>
    obtain rfl := hS.nil_of_none
    have heq := fun w' => Lib.run_eql_slice_nil (P := Tryz.prog) w' 38 114 none 0 cap 0 0 Tryz.underlying38
    go_enter Tryz.func57, Tryz.ntmps57
    go_wp2
    go_ret
    exact ⟨_, rfl, World.ownsRow_nil _ _ _ _, Below.refl _ _⟩
  | some ad =>
    have heq := fun w' => Lib.run_eql_slice_nil (P := Tryz.prog) w' 38 114 (some ad) xs.length cap 0 0 Tryz.underlying38
    have hnews := (hS.below (w' := w.alloc (.cells #[] 114)) (by (repeat (first | (with_reducible exact Below.refl _ _) | (with_reducible assumption) | (with_reducible refine below_drewN ?_ _) | (with_reducible refine Below.drew ?_) | ((with_reducible refine Below.alloc ?_ ?_ _); rotate_left; focus (first | (with_reducible exact Nat.le_refl _) | omega | (simp; done) | (simp; omega))) | ((with_reducible refine Below.setCell (p := ⟨_, _, _⟩) ?_ ?_ _); rotate_left; focus (first | (with_reducible exact Nat.le_refl _) | omega | (simp; done) | (simp; omega))))))).news tryL_len
    have hfl := flat_length tryL_len xs
    have Hfl := Lib.hid hfl
    have Hnews := Lib.hid hnews
    clear hfl hnews hS
    have hown := World.ownsRow_made (w := w) (base := w.heap.size) (e := 114) (size := 3) #[] 0 (Nat.le_refl _) (by decide) rfl
    have Hown := Lib.hid hown
    clear hown
    go_enter Tryz.func57, Tryz.ntmps57
    go_wp2_with (at_builtin; refine wpList_append_own _ rfl _ _ 38 rfl w.heap.size 114 i0 (.agg #[.int .i64 0, .int .i64 0, .int .i64 0]) 3 24 Tryz.underlying38 hi hz0 hz1 hz2 rfl (by decide) _ _ _ rfl Hown.out ad xs.length cap (xs.flatMap tryL) rfl Hfl.out Hnews.out tryL_one (by unfold maxLen; omega) (by omega) (by simp) ?_; intro v' w1 hown' hgrow _; have hv' := Lib.hid hown'; clear hown')
    go_ret
    refine ⟨v', rfl, by simpa using hv'.out, ((Below.refl _ w).alloc (Nat.le_refl _) _).grown hgrow (by simp) (fun k e => ?_)⟩
    have e1 : w.heap.size = k := Option.some.inj (show some w.heap.size = some k from e)
    omega
theorem cloneSlt_co (a : Option Addr) (cap : Nat) (xs : List Slt) (hlen : xs.length ≤ 1099511627776) : Co Tryz.prog 56 [.slice a xs.length cap] [slF sltL 8 (.slice a xs.length cap) xs] id 87 8 xs.length (xs.flatMap sltL) :=
  fun _ w hA hF => cloneSlt_any w _ xs hlen (slF_sl (hF _ (List.mem_singleton.2 rfl)) hA)
def tryB (x : Try) : Bool := (decide (-1 ≤ x.sent) && decide (x.sent ≤ 1099511627776)) && tickB x.heard && useB x.over
theorem ixTry_idx {F0 : List Fact} {g : Nat} {lb : List Value} (hg : alook tb.fn g = some ()) (p : Try → Bool) {a : Option Addr} {cap : Nat} {xs : List Try} (hlen : xs.length ≤ 1099511627776) (hc : ∀ x ∈ xs, Cm Tryz.prog g (.agg (tryL x).toArray :: lb) [] F0 (rets (.bool (p x)))) :
    Cm Tryz.prog 173 [.slice a xs.length cap, .func (.func g) #[] lb.toArray] [] (slF tryL 3 (.slice a xs.length cap) xs :: F0) (rets (.int .i64 (idxI p xs))) := by
  refine cm_of (tab := tb) (ok := tbOk) [.o (.v (.slice a xs.length cap)), .o (.v (.func (.func g) #[] lb.toArray))] Tryz.func173 Tryz.ntmps173 rfl rfl (fun _ _ => rfl) ?_
  intro w0 A0
  refine cjs_loopP (γ := Nat) (fun k => k ≤ xs.length ∧ ∀ (j : Nat) x, j < k → xs[j]? = some x → p x = false) (fun k => [(8, .o (.v (.int .i64 k)))]) (fun _ => []) (fun _ => []) (fun k => xs.length - k) 0 ⟨Nat.zero_le _, fun j x hj => by omega⟩ (wk_patch (by repeat' (first | exact trivial | exact Or.inl rfl | refine Or.inr ⟨?_, ?_⟩ | rfl | refine ⟨?_, ?_⟩ | exact lt_all_v)) (by repeat' (first | exact trivial | exact Or.inl rfl | refine Or.inr ⟨?_, ?_⟩ | rfl | refine ⟨?_, ?_⟩ | exact lt_all_v)) (fun f hf => hf) (by simp) D_nil) ?_
  rintro k ⟨hk, hno⟩
  refine brB_dec (fun h1 => ?_) (fun h1 => ?_)
  · obtain ⟨x, hx⟩ := at_some (xs := xs) (k := k) (by omega)
    skip
    refine ojs_fact (slF tryL 3 (.slice a xs.length cap) xs) (by simp) (slF_neE hx) ?_
    rintro ⟨b, off, rfl⟩
    refine ojs_index rfl (by omega) rfl rfl rfl rfl ?_
    refine ojs_loadN (vs := tryL x) (slF tryL 3 (.slice (some ⟨b, off, none⟩) xs.length cap) xs) (by simp) (slF_atN hx) rfl rfl rfl ?_
    have hc2 : ∀ ρ : Nm, Cm Tryz.prog g (argV ρ [] [TV.g [.v (.int .i64 x.sent), .v (.int .i64 x.heard), .v (.int .i64 x.over)]] (lb.map PV.v)) [] F0 (rets (.bool (p x))) := fun ρ => by
      have e : argV ρ [] [TV.g [.v (.int .i64 x.sent), .v (.int .i64 x.heard), .v (.int .i64 x.over)]] (lb.map PV.v) = .agg (tryL x).toArray :: lb := (argV_lb ρ [TV.g [.v (.int .i64 x.sent), .v (.int .i64 x.heard), .v (.int .i64 x.over)]] lb).trans rfl
      rw [e]; exact hc x (List.mem_of_getElem? hx)
    refine ojs_call [] [] rfl rfl rfl rfl hg rfl rfl (by simp) (fun ρ => hc2 ρ) (fun f hf => List.mem_cons_of_mem _ hf) (.inl rfl) ?_
    rintro e cs F1 _ ⟨rfl, rfl⟩
    cases hb : p x
    · refine ojs_arith (z := ((k + 1 : Nat) : Int)) (by first | decide | (rw [wrap_in] <;> omega) | (dsimp only; rw [wrap_in] <;> omega)) rfl rfl rfl rfl ?_
      refine ⟨k + 1, ⟨by omega, fun j y hj hy => ?_⟩, (by first | omega | (dsimp only; omega)), wk_patch (by repeat' (first | exact trivial | exact Or.inl rfl | refine Or.inr ⟨?_, ?_⟩ | rfl | refine ⟨?_, ?_⟩ | exact lt_all_v)) (by repeat' (first | exact trivial | exact Or.inl rfl | refine Or.inr ⟨?_, ?_⟩ | rfl | refine ⟨?_, ?_⟩ | exact lt_all_v)) (fun f hf => hf) (by simp) D_nil⟩
      rcases Nat.lt_succ_iff_lt_or_eq.1 hj with h | rfl
      · exact hno j y h hy
      · rw [hx] at hy; cases hy; exact hb
    · exact endR_ok [] rfl rfl ⟨rfl, rfl⟩ rfl (fun _ => ⟨by rw [idxI_atE hno hx hb]; rfl, rfl⟩) (by simp)
  · obtain rfl : k = xs.length := by omega
    exact endR_ok [] rfl rfl ⟨rfl, rfl⟩ rfl (fun _ => ⟨by rw [idxI_noneE (fun j x hj => hno j x (List.getElem?_eq_some_iff.1 hj).1 hj)]; rfl, rfl⟩) (by simp)
theorem ixTry_con {F0 : List Fact} {g : Nat} {lb : List Value} (hg : alook tb.fn g = some ()) (p : Try → Bool) {a : Option Addr} {cap : Nat} {xs : List Try} (hlen : xs.length ≤ 1099511627776) (hc : ∀ x ∈ xs, Cm Tryz.prog g (.agg (tryL x).toArray :: lb) [] F0 (rets (.bool (p x)))) :
    Cm Tryz.prog 105 [.slice a xs.length cap, .func (.func g) #[] lb.toArray] [] (slF tryL 3 (.slice a xs.length cap) xs :: F0) (rets (.bool (xs.any p))) := by
  refine cm_of (tab := tb) (ok := tbOk) [.o (.v (.slice a xs.length cap)), .o (.v (.func (.func g) #[] lb.toArray))] Tryz.func105 Tryz.ntmps105 rfl rfl (fun _ _ => rfl) ?_
  intro w0 A0
  refine ojs_call [] [] rfl rfl rfl rfl rfl rfl rfl (by simp) (fun _ => ixTry_idx hg p hlen hc) (fun f hf => hf) (.inl rfl) ?_
  rintro e cs F1 _ ⟨rfl, rfl⟩
  exact endR_ok [] rfl rfl ⟨rfl, rfl⟩ rfl (fun _ => ⟨ret_bool idxI_any, rfl⟩) (by simp)
theorem tried1_c (x : Try) : Cm Tryz.prog 106 [.agg (tryL x).toArray] [] [] (rets (.bool (!tryB x))) := by
  obtain ⟨a, b, c⟩ := x
  refine cm_of (tab := tb) (ok := tbOk) [.g [.v (.int .i64 a), .v (.int .i64 b), .v (.int .i64 c)]] Tryz.func106 Tryz.ntmps106 rfl rfl (fun _ _ => rfl) ?_
  intro w0 A0
  have hT : tryB ⟨a, b, c⟩ = (inB a (-1) 1099511627776 && inB b 0 1099511627776 && inB c 0 1099511627776) := rfl
  rw [hT]
  refine ojs_call [] [] rfl rfl rfl rfl rfl rfl rfl (by simp) (fun _ => lockWithin_c a (-1) 1099511627776) (by simp) (.inl rfl) ?_
  rintro e cs F1 _ ⟨rfl, rfl⟩
  cases inB a (-1) 1099511627776
  · exact endR_ok [] rfl rfl ⟨rfl, rfl⟩ rfl (fun _ => ⟨rfl, rfl⟩) (by simp)
  refine ojs_call [] [] rfl rfl rfl rfl rfl rfl rfl (by simp) (fun _ => lockWithin_c b 0 1099511627776) (by simp) (.inl rfl) ?_
  rintro e cs F1 _ ⟨rfl, rfl⟩
  cases inB b 0 1099511627776
  · exact endR_ok [] rfl rfl ⟨rfl, rfl⟩ rfl (fun _ => ⟨rfl, rfl⟩) (by simp)
  refine ojs_call [] [] rfl rfl rfl rfl rfl rfl rfl (by simp) (fun _ => lockWithin_c c 0 1099511627776) (by simp) (.inl rfl) ?_
  rintro e cs F1 _ ⟨rfl, rfl⟩
  cases inB c 0 1099511627776
  · exact endR_ok [] rfl rfl ⟨rfl, rfl⟩ rfl (fun _ => ⟨rfl, rfl⟩) (by simp)
  · exact endR_ok [] rfl rfl ⟨rfl, rfl⟩ rfl (fun _ => ⟨rfl, rfl⟩) (by simp)
end Go.Proofs.YtmhnlkakbadkgaaGreat
namespace Go.Proofs.YtmhnlkakbadkgaaGreat
open Go.RowKit Go.Shelf
set_option maxRecDepth 100000
theorem refSltStat_c (x : Slt) (h : -9223372036854775807 ≤ x.use ∧ x.use ≤ 9223372036854775807) : Cm Tryz.prog 63 [.agg (sltL x).toArray] [] [] (rets (.agg (staL (sltStat x)).toArray)) := by
  obtain ⟨use, state, mode, prio, due, ⟨v, f, vn⟩⟩ := x
  dsimp only at h
  have e : sltStat ⟨use, state, mode, prio, due, ⟨v, f, vn⟩⟩ = bif decide (state = 1) || decide (state = 2) then ⟨use - 1, true, mode, prio⟩ else ⟨use, false, 0, 0⟩ := rfl
  rw [e]
  refine cm_of (tab := tb) (ok := tbOk) [.g [.v (.int .i64 use), .v (.int .i64 state), .v (.int .i64 mode), .v (.int .i64 prio), .v (.int .i64 due), .v (.int .i64 v), .v (.int .i64 f), .v (.int .u64 vn)]] Tryz.func63 Tryz.ntmps63 rfl rfl (fun _ _ => rfl) ?_
  intro w0 A0
  refine brB_dec (fun h1 => ?_) (fun h1 => ?_)
  · refine ojs_arith (z := use - 1) (by rw [wrap_in] <;> omega) rfl rfl rfl rfl ?_
    exact endR_ok [] rfl rfl ⟨rfl, rfl⟩ rfl (fun _ => ⟨by simp [h1]; rfl, rfl⟩) (by simp)
  refine brB_dec (fun h2 => ?_) (fun h2 => ?_)
  · refine ojs_arith (z := use - 1) (by rw [wrap_in] <;> omega) rfl rfl rfl rfl ?_
    exact endR_ok [] rfl rfl ⟨rfl, rfl⟩ rfl (fun _ => ⟨by simp [h2]; rfl, rfl⟩) (by simp)
  · exact endR_ok [] rfl rfl ⟨rfl, rfl⟩ rfl (fun _ => ⟨by simp [h1, h2]; rfl, rfl⟩) (by simp)
theorem tryB_iff {x : Try} : tryB x = true ↔ (-1 ≤ x.sent ∧ x.sent ≤ 1099511627776) ∧ tickB x.heard = true ∧ 0 ≤ x.over ∧ x.over ≤ 1099511627776 := by
  simp [tryB, useB, and_assoc]
theorem refTries_c (n l s : Int) (a : Option Addr) (cap : Nat) (xs : List Try) (hl : xs.length ≤ 1000000) : Cm Tryz.prog 62 [.agg #[.int .i64 n, .int .i64 l, .int .i64 s], .slice a xs.length cap] [] [slF tryL 3 (.slice a xs.length cap) xs] (rets (.bool (decide ((xs.length : Int) = s) && xs.all tryB))) := by
  refine cm_of (tab := tb) (ok := tbOk) [.g [.v (.int .i64 n), .v (.int .i64 l), .v (.int .i64 s)], .o (.v (.slice a xs.length cap))] Tryz.func62 Tryz.ntmps62 rfl rfl (fun _ _ => rfl) ?_
  intro w0 A0
  refine brB_split (fun h0 => ?_) (fun h0 => ?_)
  · have e : decide ((xs.length : Int) = s) = false := by simp at h0; simpa using h0
    rw [e]
    exact endR_ok [] rfl rfl ⟨rfl, rfl⟩ rfl (fun _ => ⟨rfl, rfl⟩) (by simp)
  have e : decide ((xs.length : Int) = s) = true := by simp at h0; simpa using h0
  rw [e]
  refine cjs_loopP (γ := Nat) (fun k => k ≤ xs.length ∧ ∀ (j : Nat) x, j < k → xs[j]? = some x → tryB x = true) (fun k => [(5, .o (.v (.int .i64 k)))]) (fun _ => []) (fun _ => []) (fun k => xs.length - k) 0 ⟨Nat.zero_le _, fun j x hj => by omega⟩ (wk_patch (by repeat' (first | exact trivial | exact Or.inl rfl | refine Or.inr ⟨?_, ?_⟩ | rfl | refine ⟨?_, ?_⟩ | exact lt_all_v)) (by repeat' (first | exact trivial | exact Or.inl rfl | refine Or.inr ⟨?_, ?_⟩ | rfl | refine ⟨?_, ?_⟩ | exact lt_all_v)) (fun f hf => hf) (by simp) D_nil) ?_
  rintro k ⟨hk, hyes⟩
  refine brB_dec (fun h1 => ?_) (fun h1 => ?_)
  rotate_left
  · have hall : xs.all tryB = true := all_yesE (by omega) hyes
    rw [hall]
    exact endR_ok [] rfl rfl ⟨rfl, rfl⟩ rfl (fun _ => ⟨rfl, rfl⟩) (by simp)
  obtain ⟨x, hx⟩ := at_some (xs := xs) (k := k) (by omega)
  have bad : ¬ tryB x = true → xs.all tryB = false := fun h => all_noE hx (by simpa using h)
  refine ojs_fact (slF tryL 3 (.slice a xs.length cap) xs) (by simp) (slF_neE hx) ?_
  rintro ⟨b, off, rfl⟩
  refine ojs_index rfl (by omega) rfl rfl rfl rfl ?_
  refine ojs_load1 (slF tryL 3 (.slice (some ⟨b, off, none⟩) xs.length cap) xs) (by simp) (slF_at hx (j := 0) rfl) rfl rfl rfl ?_
  refine brB_dec (fun h2 => ?_) (fun h2 => ?_)
  · rw [bad fun h => by have := tryB_iff.1 h; omega]
    exact endR_ok [] rfl rfl ⟨rfl, rfl⟩ rfl (fun _ => ⟨rfl, rfl⟩) (by simp)
  refine ojs_index rfl (by omega) rfl rfl rfl rfl ?_
  refine ojs_load1 (slF tryL 3 (.slice (some ⟨b, off, none⟩) xs.length cap) xs) (by simp) (slF_at hx (j := 0) rfl) rfl rfl rfl ?_
  refine brB_dec (fun h3 => ?_) (fun h3 => ?_)
  · rw [bad fun h => by have := tryB_iff.1 h; omega]
    exact endR_ok [] rfl rfl ⟨rfl, rfl⟩ rfl (fun _ => ⟨rfl, rfl⟩) (by simp)
  refine ojs_index rfl (by omega) rfl rfl rfl rfl ?_
  refine ojs_load1 (slF tryL 3 (.slice (some ⟨b, off, none⟩) xs.length cap) xs) (by simp) (slF_at hx (j := 1) rfl) rfl rfl rfl ?_
  refine ojs_call [] [] rfl rfl rfl rfl rfl rfl rfl (by simp) (fun _ => refTick_c x.heard) (by simp) (.inl rfl) ?_
  rintro e cs F1 _ ⟨rfl, rfl⟩
  cases h4 : tickB x.heard
  · rw [bad fun h => by have := (tryB_iff.1 h).2.1; rw [h4] at this; cases this]
    exact endR_ok [] rfl rfl ⟨rfl, rfl⟩ rfl (fun _ => ⟨rfl, rfl⟩) (by simp)
  refine ojs_index rfl (by omega) rfl rfl rfl rfl ?_
  refine ojs_load1 (slF tryL 3 (.slice (some ⟨b, off, none⟩) xs.length cap) xs) (by simp) (slF_at hx (j := 2) rfl) rfl rfl rfl ?_
  refine brB_dec (fun h5 => ?_) (fun h5 => ?_)
  · rw [bad fun h => by have := tryB_iff.1 h; omega]
    exact endR_ok [] rfl rfl ⟨rfl, rfl⟩ rfl (fun _ => ⟨rfl, rfl⟩) (by simp)
  refine ojs_index rfl (by omega) rfl rfl rfl rfl ?_
  refine ojs_load1 (slF tryL 3 (.slice (some ⟨b, off, none⟩) xs.length cap) xs) (by simp) (slF_at hx (j := 2) rfl) rfl rfl rfl ?_
  refine brB_dec (fun h6 => ?_) (fun h6 => ?_)
  · rw [bad fun h => by have := tryB_iff.1 h; omega]
    exact endR_ok [] rfl rfl ⟨rfl, rfl⟩ rfl (fun _ => ⟨rfl, rfl⟩) (by simp)
  refine ojs_arith (z := ((k + 1 : Nat) : Int)) (by first | decide | (rw [wrap_in] <;> omega) | (dsimp only; rw [wrap_in] <;> omega)) rfl rfl rfl rfl ?_
  refine ⟨k + 1, ⟨by omega, fun j y hj hy => ?_⟩, (by first | omega | (dsimp only; omega)), wk_patch (by repeat' (first | exact trivial | exact Or.inl rfl | refine Or.inr ⟨?_, ?_⟩ | rfl | refine ⟨?_, ?_⟩ | exact lt_all_v)) (by repeat' (first | exact trivial | exact Or.inl rfl | refine Or.inr ⟨?_, ?_⟩ | rfl | refine ⟨?_, ?_⟩ | exact lt_all_v)) (fun f hf => hf) (by simp) D_nil⟩
  rcases Nat.lt_succ_iff_lt_or_eq.1 hj with h | rfl
  · exact hyes j y h hy
  · rw [hx] at hy; cases hy
    exact tryB_iff.2 ⟨⟨by omega, by omega⟩, h4, by omega, by omega⟩
end Go.Proofs.YtmhnlkakbadkgaaGreat
