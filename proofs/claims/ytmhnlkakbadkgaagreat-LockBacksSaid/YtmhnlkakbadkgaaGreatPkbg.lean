/- Part 33 of the proof of LockBacks: contracts of functions that the law reaches, or the rules by which they are walked. No condition. -/
import Derived.Test.YtmhnlkakbadkgaaGreatPkbf
namespace Go.Proofs.YtmhnlkakbadkgaaGreat
open Go.RowKit Go.Shelf
set_option maxRecDepth 100000
theorem Tryz.infoHd : (Tryz.prog.info? 140).map (fun i => (i.zero, i.size, i.bytes)) = some (some (.agg #[.int .i64 0, .int .i64 0, .int .i64 0]), 3, 24) := by kernel_rfl
theorem Tryz.infoWt : (Tryz.prog.info? 137).map (fun i => (i.zero, i.size, i.bytes)) = some (some (.agg #[.int .i64 0, .int .i64 0, .int .i64 0, .int .i64 0, .int .i64 0]), 5, 40) := by kernel_rfl
theorem Tryz.infoJ : (Tryz.prog.info? 2).map (fun i => (i.zero, i.size, i.bytes)) = some (some (.int .i64 0), 1, 8) := by kernel_rfl
theorem hdL_one {xs : List Hd} : ∀ u ∈ xs.flatMap hdL, u.oneCell' = true := by
  intro u hu
  obtain ⟨x, _, hx⟩ := List.mem_flatMap.1 hu
  simp only [hdL, List.mem_cons, List.not_mem_nil, or_false] at hx
  rcases hx with rfl | rfl | rfl <;> rfl
theorem wtL_one {xs : List Wt} : ∀ u ∈ xs.flatMap wtL, u.oneCell' = true := by
  intro u hu
  obtain ⟨x, _, hx⟩ := List.mem_flatMap.1 hu
  simp only [wtL, List.mem_cons, List.not_mem_nil, or_false] at hx
  rcases hx with rfl | rfl | rfl | rfl | rfl <;> rfl
set_option maxHeartbeats 1000000 in
theorem cloneHd_any (w : World) (sv : Value) (xs : List Hd) (hlen : xs.length ≤ 1099511627776) (hS : Sl hdL 3 w sv xs) :
    Calls Tryz.prog 54 #[sv] w fun e w' => ∃ v, e = .returned v ∧ w'.ownsRow w.heap.size 140 3 v xs.length (xs.flatMap hdL) ∧ Below w.heap.size w w' := by
  obtain ⟨a, cap, rfl⟩ := hS.shape
  obtain ⟨i0, hi, hz0, hz1, hz2⟩ := info_parts Tryz.infoHd
  cases a with
  | none =>
    obtain rfl := hS.nil_of_none
    have heq := fun w' => Lib.run_eql_slice_nil (P := Tryz.prog) w' 28 140 none 0 cap 0 0 Tryz.underlying28
    go_enter Tryz.func54, Tryz.ntmps54
    go_wp2
    go_ret
    exact ⟨_, rfl, World.ownsRow_nil _ _ _ _, Below.refl _ _⟩
  | some ad =>
    have heq := fun w' => Lib.run_eql_slice_nil (P := Tryz.prog) w' 28 140 (some ad) xs.length cap 0 0 Tryz.underlying28
    have hnews := (hS.below (w' := w.alloc (.cells #[] 140)) (by (repeat (first | (with_reducible exact Below.refl _ _) | (with_reducible assumption) | (with_reducible refine below_drewN ?_ _) | (with_reducible refine Below.drew ?_) | ((with_reducible refine Below.alloc ?_ ?_ _); rotate_left; focus (first | (with_reducible exact Nat.le_refl _) | omega | (simp; done) | (simp; omega))) | ((with_reducible refine Below.setCell (p := ⟨_, _, _⟩) ?_ ?_ _); rotate_left; focus (first | (with_reducible exact Nat.le_refl _) | omega | (simp; done) | (simp; omega))))))).news hdL_len
    have hfl := flat_length hdL_len xs
    have Hfl := Lib.hid hfl
    have Hnews := Lib.hid hnews
    clear hfl hnews hS
    have hown := World.ownsRow_made (w := w) (base := w.heap.size) (e := 140) (size := 3) #[] 0 (Nat.le_refl _) (by decide) rfl
    have Hown := Lib.hid hown
    clear hown
    go_enter Tryz.func54, Tryz.ntmps54
    go_wp2_with (at_builtin; refine wpList_append_own _ rfl _ _ 28 rfl w.heap.size 140 i0 (.agg #[.int .i64 0, .int .i64 0, .int .i64 0]) 3 24 Tryz.underlying28 hi hz0 hz1 hz2 rfl (by decide) _ _ _ rfl Hown.out ad xs.length cap (xs.flatMap hdL) rfl Hfl.out Hnews.out hdL_one (by unfold maxLen; omega) (by omega) (by simp) ?_; intro v' w1 hown' hgrow _; have hv' := Lib.hid hown'; clear hown')
    go_ret
    refine ⟨v', rfl, by simpa using hv'.out, ((Below.refl _ w).alloc (Nat.le_refl _) _).grown hgrow (by simp) (fun k e => ?_)⟩
    have e1 : w.heap.size = k := Option.some.inj (show some w.heap.size = some k from e)
    omega
set_option maxHeartbeats 1000000 in
theorem cloneWt_any (w : World) (sv : Value) (xs : List Wt) (hlen : xs.length ≤ 1099511627776) (hS : Sl wtL 5 w sv xs) :
    Calls Tryz.prog 53 #[sv] w fun e w' => ∃ v, e = .returned v ∧ w'.ownsRow w.heap.size 137 5 v xs.length (xs.flatMap wtL) ∧ Below w.heap.size w w' := by
  obtain ⟨a, cap, rfl⟩ := hS.shape
  obtain ⟨i0, hi, hz0, hz1, hz2⟩ := info_parts Tryz.infoWt
  cases a with
  | none =>
    obtain rfl := hS.nil_of_none
    have heq := fun w' => Lib.run_eql_slice_nil (P := Tryz.prog) w' 27 137 none 0 cap 0 0 Tryz.underlying27
    go_enter Tryz.func53, Tryz.ntmps53
    go_wp2
    go_ret
    exact ⟨_, rfl, World.ownsRow_nil _ _ _ _, Below.refl _ _⟩
  | some ad =>
    have heq := fun w' => Lib.run_eql_slice_nil (P := Tryz.prog) w' 27 137 (some ad) xs.length cap 0 0 Tryz.underlying27
    have hnews := (hS.below (w' := w.alloc (.cells #[] 137)) (by (repeat (first | (with_reducible exact Below.refl _ _) | (with_reducible assumption) | (with_reducible refine below_drewN ?_ _) | (with_reducible refine Below.drew ?_) | ((with_reducible refine Below.alloc ?_ ?_ _); rotate_left; focus (first | (with_reducible exact Nat.le_refl _) | omega | (simp; done) | (simp; omega))) | ((with_reducible refine Below.setCell (p := ⟨_, _, _⟩) ?_ ?_ _); rotate_left; focus (first | (with_reducible exact Nat.le_refl _) | omega | (simp; done) | (simp; omega))))))).news wtL_len
    have hfl := flat_length wtL_len xs
    have Hfl := Lib.hid hfl
    have Hnews := Lib.hid hnews
    clear hfl hnews hS
    have hown := World.ownsRow_made (w := w) (base := w.heap.size) (e := 137) (size := 5) #[] 0 (Nat.le_refl _) (by decide) rfl
    have Hown := Lib.hid hown
    clear hown
    go_enter Tryz.func53, Tryz.ntmps53
    go_wp2_with (at_builtin; refine wpList_append_own _ rfl _ _ 27 rfl w.heap.size 137 i0 (.agg #[.int .i64 0, .int .i64 0, .int .i64 0, .int .i64 0, .int .i64 0]) 5 40 Tryz.underlying27 hi hz0 hz1 hz2 rfl (by decide) _ _ _ rfl Hown.out ad xs.length cap (xs.flatMap wtL) rfl Hfl.out Hnews.out wtL_one (by unfold maxLen; omega) (by omega) (by simp) ?_; intro v' w1 hown' hgrow _; have hv' := Lib.hid hown'; clear hown')
    go_ret
    refine ⟨v', rfl, by simpa using hv'.out, ((Below.refl _ w).alloc (Nat.le_refl _) _).grown hgrow (by simp) (fun k e => ?_)⟩
    have e1 : w.heap.size = k := Option.some.inj (show some w.heap.size = some k from e)
    omega
set_option maxHeartbeats 1000000 in
theorem cloneJ_any (w : World) (sv : Value) (xs : List Int) (hlen : xs.length ≤ 1099511627776) (hS : Sl encI 1 w sv xs) :
    Calls Tryz.prog 52 #[sv] w fun e w' => ∃ v, e = .returned v ∧ w'.ownsRow w.heap.size 2 1 v xs.length (xs.flatMap encI) ∧ Below w.heap.size w w' := by
  obtain ⟨a, cap, rfl⟩ := hS.shape
  obtain ⟨i0, hi, hz0, hz1, hz2⟩ := info_parts Tryz.infoJ
  cases a with
  | none =>
    obtain rfl := hS.nil_of_none
    have heq := fun w' => Lib.run_eql_slice_nil (P := Tryz.prog) w' 26 2 none 0 cap 0 0 Tryz.underlying26
    go_enter Tryz.func52, Tryz.ntmps52
    go_wp2
    go_ret
    exact ⟨_, rfl, World.ownsRow_nil _ _ _ _, Below.refl _ _⟩
  | some ad =>
    have heq := fun w' => Lib.run_eql_slice_nil (P := Tryz.prog) w' 26 2 (some ad) xs.length cap 0 0 Tryz.underlying26
    have hnews := (hS.below (w' := w.alloc (.cells #[] 2)) (by (repeat (first | (with_reducible exact Below.refl _ _) | (with_reducible assumption) | (with_reducible refine below_drewN ?_ _) | (with_reducible refine Below.drew ?_) | ((with_reducible refine Below.alloc ?_ ?_ _); rotate_left; focus (first | (with_reducible exact Nat.le_refl _) | omega | (simp; done) | (simp; omega))) | ((with_reducible refine Below.setCell (p := ⟨_, _, _⟩) ?_ ?_ _); rotate_left; focus (first | (with_reducible exact Nat.le_refl _) | omega | (simp; done) | (simp; omega))))))).news encI_len
    have hfl := flat_length encI_len xs
    have Hfl := Lib.hid hfl
    have Hnews := Lib.hid hnews
    clear hfl hnews hS
    have hown := World.ownsRow_made (w := w) (base := w.heap.size) (e := 2) (size := 1) #[] 0 (Nat.le_refl _) (by decide) rfl
    have Hown := Lib.hid hown
    clear hown
    go_enter Tryz.func52, Tryz.ntmps52
    go_wp2_with (at_builtin; refine wpList_append_own _ rfl _ _ 26 rfl w.heap.size 2 i0 (.int .i64 0) 1 8 Tryz.underlying26 hi hz0 hz1 hz2 rfl (by decide) _ _ _ rfl Hown.out ad xs.length cap (xs.flatMap encI) rfl Hfl.out Hnews.out encI_one (by unfold maxLen; omega) (by omega) (by simp) ?_; intro v' w1 hown' hgrow _; have hv' := Lib.hid hown'; clear hown')
    go_ret
    refine ⟨v', rfl, by simpa using hv'.out, ((Below.refl _ w).alloc (Nat.le_refl _) _).grown hgrow (by simp) (fun k e => ?_)⟩
    have e1 : w.heap.size = k := Option.some.inj (show some w.heap.size = some k from e)
    omega
theorem cloneHd_co (a : Option Addr) (cap : Nat) (xs : List Hd) (hlen : xs.length ≤ 1099511627776) : Co Tryz.prog 54 [.slice a xs.length cap] [slF hdL 3 (.slice a xs.length cap) xs] id 140 3 xs.length (xs.flatMap hdL) :=
  fun _ w hA hF => cloneHd_any w _ xs hlen (slF_sl (hF _ (List.mem_singleton.2 rfl)) hA)
theorem cloneWt_co (a : Option Addr) (cap : Nat) (xs : List Wt) (hlen : xs.length ≤ 1099511627776) : Co Tryz.prog 53 [.slice a xs.length cap] [slF wtL 5 (.slice a xs.length cap) xs] id 137 5 xs.length (xs.flatMap wtL) :=
  fun _ w hA hF => cloneWt_any w _ xs hlen (slF_sl (hF _ (List.mem_singleton.2 rfl)) hA)
theorem cloneJ_co (a : Option Addr) (cap : Nat) (xs : List Int) (hlen : xs.length ≤ 1099511627776) : Co Tryz.prog 52 [.slice a xs.length cap] [slF encI 1 (.slice a xs.length cap) xs] id 2 1 xs.length (xs.flatMap encI) :=
  fun _ w hA hF => cloneJ_any w _ xs hlen (slF_sl (hF _ (List.mem_singleton.2 rfl)) hA)
end Go.Proofs.YtmhnlkakbadkgaaGreat
namespace Go.Proofs.YtmhnlkakbadkgaaGreat
open Go.RowKit Go.Shelf
set_option maxRecDepth 100000
def hdA (x : Hd) : List Value := [.agg (hdL x).toArray]
theorem valH_seq (a : Option Addr) (cap : Nat) (xs : List Hd) (b : Nat) (hl : xs.length ≤ 1000000) : SeqC Tryz.prog 310 [.pointer (some ⟨b, 0, none⟩)] [blkF b [.slice a xs.length cap] 28, slF hdL 3 (.slice a xs.length cap) xs] hdA xs := by
  refine seq_of (tab := tb) (ok := tbOk) [.o (.v (.pointer (some ⟨b, 0, none⟩)))] Tryz.func310 Tryz.ntmps310 rfl rfl (fun _ => rfl) ?_
  intro S
  refine ojs_load1 (S.inF (blkF b [.slice a xs.length cap] 28)) (by simp) (fun A w h => blk_cell (o := 0) rfl _ w h.2) rfl rfl rfl ?_
  refine cjs_loopX (γ := Nat) (fun k => k ≤ xs.length) (fun k => [(7, .o (.v (.int .i64 k)))]) (fun _ => []) (fun k => [S.jF k, S.inF (slF hdL 3 (.slice a xs.length cap) xs)]) (fun k => xs.length - k) 0 (Nat.zero_le _) (wk_patch (by repeat' (first | exact trivial | exact Or.inl rfl | refine Or.inr ⟨?_, ?_⟩ | rfl | refine ⟨?_, ?_⟩ | exact lt_all_v)) (by repeat' (first | exact trivial | exact Or.inl rfl | refine Or.inr ⟨?_, ?_⟩ | rfl | refine ⟨?_, ?_⟩ | exact lt_all_v)) (by simp) (by simp [It.X]) D_nil) ?_
  intro k hk
  refine brB_dec (fun h1 => ?_) (fun h1 => ?_)
  · obtain ⟨x, hx⟩ := at_some (xs := xs) (k := k) (by omega)
    refine ojs_fact (S.inF (slF hdL 3 (.slice a xs.length cap) xs)) (by simp) (fun A w h => slF_neE hx _ w h.2) ?_
    rintro ⟨b1, off, rfl⟩
    refine ojs_index rfl (by omega) rfl rfl rfl rfl ?_
    refine ojs_loadN (vs := hdL x) (S.inF (slF hdL 3 (.slice (some ⟨b1, off, none⟩) xs.length cap) xs)) (by simp) (fun A w h => slF_atN hx _ w h.2) rfl rfl rfl ?_
    refine ojs_yield k [slF hdL 3 (.slice (some ⟨b1, off, none⟩) xs.length cap) xs] rfl rfl rfl rfl hx (fun _ => rfl) (by simp) (by simp) ?_ ?_
    · refine ojs_arith (z := ((k + 1 : Nat) : Int)) (by first | decide | (rw [wrap_in] <;> omega) | (dsimp only; rw [wrap_in] <;> omega)) rfl rfl rfl rfl ?_
      exact ⟨k + 1, by omega, (by first | omega | (dsimp only; omega)), wk_patch (by repeat' (first | exact trivial | exact Or.inl rfl | refine Or.inr ⟨?_, ?_⟩ | rfl | refine ⟨?_, ?_⟩ | exact lt_all_v)) (by repeat' (first | exact trivial | exact Or.inl rfl | refine Or.inr ⟨?_, ?_⟩ | rfl | refine ⟨?_, ?_⟩ | exact lt_all_v)) (by simp) (by simp [It.X]) D_nil⟩
    · exact endS_stop (k + 1) (by simp) (by omega) (by omega) rfl rfl
  · obtain rfl : k = xs.length := by omega
    exact endS_done (by simp) rfl rfl
end Go.Proofs.YtmhnlkakbadkgaaGreat
namespace Go.Proofs.YtmhnlkakbadkgaaGreat
open Go.RowKit Go.Shelf
set_option maxRecDepth 100000
end Go.Proofs.YtmhnlkakbadkgaaGreat
namespace Go.Proofs.YtmhnlkakbadkgaaGreat
open Go.RowKit Go.Shelf
set_option maxRecDepth 100000
end Go.Proofs.YtmhnlkakbadkgaaGreat
namespace Go.Proofs.YtmhnlkakbadkgaaGreat
open Go.RowKit Go.Shelf
set_option maxRecDepth 100000
deriving instance DecidableEq for Sta
deriving instance DecidableEq for Slt
theorem flatSta : flatK Tryz.prog 9 72 = some [4, 0, 4, 4] := by kernel_rfl
theorem okSta : eqOk Tryz.prog 72 = true := by kernel_rfl
theorem fitSta (x y : Sta) : fitL [4, 0, 4, 4] (staL x) (staL y) = some (decide (x = y)) := by
  obtain ⟨a, b, c, p⟩ := x
  obtain ⟨d, e, f, r⟩ := y
  have h : fitL [4, 0, 4, 4] (staL ⟨a, b, c, p⟩) (staL ⟨d, e, f, r⟩) = some (a == d && (b == e && (c == f && (p == r && true)))) := rfl
  rw [h]
  congr 1
  rw [Bool.eq_iff_iff]
  simp
theorem flatSlt : flatK Tryz.prog 9 87 = some [4, 4, 4, 4, 4, 4, 4, 8] := by kernel_rfl
theorem okSlt : eqOk Tryz.prog 87 = true := by kernel_rfl
theorem fitSlt (x y : Slt) : fitL [4, 4, 4, 4, 4, 4, 4, 8] (sltL x) (sltL y) = some (decide (x = y)) := by
  obtain ⟨a, b, c, p, q, ⟨u, v, w⟩⟩ := x
  obtain ⟨d, e, f, r, s, ⟨u', v', w'⟩⟩ := y
  have h : fitL [4, 4, 4, 4, 4, 4, 4, 8] (sltL ⟨a, b, c, p, q, ⟨u, v, w⟩⟩) (sltL ⟨d, e, f, r, s, ⟨u', v', w'⟩⟩) = some (a == d && (b == e && (c == f && (p == r && (q == s && (u == u' && (v == v' && (w == w' && true)))))))) := rfl
  rw [h]
  congr 1
  rw [Bool.eq_iff_iff]
  simp
set_option maxHeartbeats 1000000 in
theorem refSameSta_c (a a2 : Option Addr) (cap cap2 : Nat) (xs ys : List Sta) (hl : xs.length ≤ 1000000) (hl2 : ys.length ≤ 1000000) : Cm Tryz.prog 25 [.slice a xs.length cap, .slice a2 ys.length cap2] [] [slF staL 4 (.slice a xs.length cap) xs, slF staL 4 (.slice a2 ys.length cap2) ys] (rets (.bool (decide (xs = ys)))) := by
  refine cm_of (tab := tb) (ok := tbOk) [.o (.v (.slice a xs.length cap)), .o (.v (.slice a2 ys.length cap2))] Tryz.func25 Tryz.ntmps25 rfl rfl (fun _ _ => rfl) ?_
  intro w0 A0
  refine brB_split (fun h0 => ?_) (fun h0 => ?_)
  · have e : decide (xs = ys) = false := by simp at h0; simp; rintro rfl; exact h0 rfl
    rw [e]
    exact endR_ok [] rfl rfl ⟨rfl, rfl⟩ rfl (fun _ => ⟨rfl, rfl⟩) (by simp)
  have hlen : xs.length = ys.length := by simp at h0; omega
  refine cjs_loopP (γ := Nat) (fun k => k ≤ xs.length ∧ ∀ j, j < k → xs[j]? = ys[j]?) (fun k => [(5, .o (.v (.int .i64 k)))]) (fun _ => []) (fun _ => []) (fun k => xs.length - k) 0 ⟨Nat.zero_le _, fun j hj => by omega⟩ (wk_patch (by repeat' (first | exact trivial | exact Or.inl rfl | refine Or.inr ⟨?_, ?_⟩ | rfl | refine ⟨?_, ?_⟩ | exact lt_all_v)) (by repeat' (first | exact trivial | exact Or.inl rfl | refine Or.inr ⟨?_, ?_⟩ | rfl | refine ⟨?_, ?_⟩ | exact lt_all_v)) (fun f hf => hf) (by simp) D_nil) ?_
  rintro k ⟨hk, heq⟩
  refine brB_dec (fun h1 => ?_) (fun h1 => ?_)
  rotate_left
  · have e : decide (xs = ys) = true := by
      simp only [decide_eq_true_eq]
      refine List.ext_getElem? fun j => ?_
      by_cases hj : j < k
      · exact heq j hj
      · rw [List.getElem?_eq_none (by omega), List.getElem?_eq_none (by omega)]
    rw [e]
    exact endR_ok [] rfl rfl ⟨rfl, rfl⟩ rfl (fun _ => ⟨rfl, rfl⟩) (by simp)
  obtain ⟨x, hx⟩ := at_some (xs := xs) (k := k) (by omega)
  obtain ⟨y, hy⟩ := at_some (xs := ys) (k := k) (by omega)
  refine cjs_fact (slF staL 4 (.slice a xs.length cap) xs) (by simp) (slF_neE hx) ?_
  rintro ⟨b, off, rfl⟩
  refine cjs_fact (slF staL 4 (.slice a2 ys.length cap2) ys) (by simp) (slF_neE hy) ?_
  rintro ⟨b2, off2, rfl⟩
  refine cjs_drawn [] (.op 0 <| .op 1 <| .op 2 <| .op 3 <| .op 4 <| .op 5 <| .op 6 <| .op 7 <| .op 8 .z) [] [] [] [slF staL 4 (.slice (some ⟨b, off, none⟩) xs.length cap) xs, slF staL 4 (.slice (some ⟨b2, off2, none⟩) ys.length cap2) ys] (by kernel_rfl) (by kernel_rfl) rfl (by simp) (by simp) ?_
  intro N
  refine ⟨_, yd_index (i := k) rfl (by omega) rfl rfl rfl rfl, ?_⟩
  refine ⟨_, yd_loadN (vs := staL x) (slF staL 4 (.slice (some ⟨b, off, none⟩) xs.length cap) xs) (by simp) (slF_atN hx) rfl rfl rfl, ?_⟩
  refine ⟨_, yd_index (i := k) rfl (by omega) rfl rfl rfl rfl, ?_⟩
  refine ⟨_, yd_loadN (vs := staL y) (slF staL 4 (.slice (some ⟨b2, off2, none⟩) ys.length cap2) ys) (by simp) (slF_atN hy) rfl rfl rfl, ?_⟩
  refine ⟨_, yd_neF (xs := staL x) (ys := staL y) (r := decide (x = y)) (ks := [4, 0, 4, 4]) flatSta okSta rfl rfl rfl (fun _ => rfl) (fun _ => rfl) (fitSta x y), ?_⟩
  by_cases hxy : x = y
  · rw [show decide (x = y) = true by simpa using hxy]
    refine ojs_arith (z := ((k + 1 : Nat) : Int)) (by first | decide | (rw [wrap_in] <;> omega) | (dsimp only; rw [wrap_in] <;> omega)) rfl rfl rfl rfl ?_
    refine ⟨k + 1, ⟨by omega, fun j hj => ?_⟩, (by first | omega | (dsimp only; omega)), wk_patch (by repeat' (first | exact trivial | exact Or.inl rfl | refine Or.inr ⟨?_, ?_⟩ | rfl | refine ⟨?_, ?_⟩ | exact lt_all_v)) (by repeat' (first | exact trivial | exact Or.inl rfl | refine Or.inr ⟨?_, ?_⟩ | rfl | refine ⟨?_, ?_⟩ | exact lt_all_v)) (fun f hf => hf) (by simp) D_nil⟩
    rcases Nat.lt_succ_iff_lt_or_eq.1 hj with h | rfl
    · exact heq j h
    · rw [hx, hy, hxy]
  · rw [show decide (x = y) = false by simpa using hxy, show decide (xs = ys) = false by simpa using neAtE hx hy hxy]
    exact endR_ok [] rfl rfl ⟨rfl, rfl⟩ rfl (fun _ => ⟨rfl, rfl⟩) (by simp)
set_option maxHeartbeats 1000000 in
theorem refSameSlt_c (a a2 : Option Addr) (cap cap2 : Nat) (xs ys : List Slt) (hl : xs.length ≤ 1000000) (hl2 : ys.length ≤ 1000000) : Cm Tryz.prog 26 [.slice a xs.length cap, .slice a2 ys.length cap2] [] [slF sltL 8 (.slice a xs.length cap) xs, slF sltL 8 (.slice a2 ys.length cap2) ys] (rets (.bool (decide (xs = ys)))) := by
  refine cm_of (tab := tb) (ok := tbOk) [.o (.v (.slice a xs.length cap)), .o (.v (.slice a2 ys.length cap2))] Tryz.func26 Tryz.ntmps26 rfl rfl (fun _ _ => rfl) ?_
  intro w0 A0
  refine brB_split (fun h0 => ?_) (fun h0 => ?_)
  · have e : decide (xs = ys) = false := by simp at h0; simp; rintro rfl; exact h0 rfl
    rw [e]
    exact endR_ok [] rfl rfl ⟨rfl, rfl⟩ rfl (fun _ => ⟨rfl, rfl⟩) (by simp)
  have hlen : xs.length = ys.length := by simp at h0; omega
  refine cjs_loopP (γ := Nat) (fun k => k ≤ xs.length ∧ ∀ j, j < k → xs[j]? = ys[j]?) (fun k => [(5, .o (.v (.int .i64 k)))]) (fun _ => []) (fun _ => []) (fun k => xs.length - k) 0 ⟨Nat.zero_le _, fun j hj => by omega⟩ (wk_patch (by repeat' (first | exact trivial | exact Or.inl rfl | refine Or.inr ⟨?_, ?_⟩ | rfl | refine ⟨?_, ?_⟩ | exact lt_all_v)) (by repeat' (first | exact trivial | exact Or.inl rfl | refine Or.inr ⟨?_, ?_⟩ | rfl | refine ⟨?_, ?_⟩ | exact lt_all_v)) (fun f hf => hf) (by simp) D_nil) ?_
  rintro k ⟨hk, heq⟩
  refine brB_dec (fun h1 => ?_) (fun h1 => ?_)
  rotate_left
  · have e : decide (xs = ys) = true := by
      simp only [decide_eq_true_eq]
      refine List.ext_getElem? fun j => ?_
      by_cases hj : j < k
      · exact heq j hj
      · rw [List.getElem?_eq_none (by omega), List.getElem?_eq_none (by omega)]
    rw [e]
    exact endR_ok [] rfl rfl ⟨rfl, rfl⟩ rfl (fun _ => ⟨rfl, rfl⟩) (by simp)
  obtain ⟨x, hx⟩ := at_some (xs := xs) (k := k) (by omega)
  obtain ⟨y, hy⟩ := at_some (xs := ys) (k := k) (by omega)
  refine cjs_fact (slF sltL 8 (.slice a xs.length cap) xs) (by simp) (slF_neE hx) ?_
  rintro ⟨b, off, rfl⟩
  refine cjs_fact (slF sltL 8 (.slice a2 ys.length cap2) ys) (by simp) (slF_neE hy) ?_
  rintro ⟨b2, off2, rfl⟩
  refine cjs_drawn [] (.op 0 <| .op 1 <| .op 2 <| .op 3 <| .op 4 <| .op 5 <| .op 6 <| .op 7 <| .op 8 .z) [] [] [] [slF sltL 8 (.slice (some ⟨b, off, none⟩) xs.length cap) xs, slF sltL 8 (.slice (some ⟨b2, off2, none⟩) ys.length cap2) ys] (by kernel_rfl) (by kernel_rfl) rfl (by simp) (by simp) ?_
  intro N
  refine ⟨_, yd_index (i := k) rfl (by omega) rfl rfl rfl rfl, ?_⟩
  refine ⟨_, yd_loadN (vs := sltL x) (slF sltL 8 (.slice (some ⟨b, off, none⟩) xs.length cap) xs) (by simp) (slF_atN hx) rfl rfl rfl, ?_⟩
  refine ⟨_, yd_index (i := k) rfl (by omega) rfl rfl rfl rfl, ?_⟩
  refine ⟨_, yd_loadN (vs := sltL y) (slF sltL 8 (.slice (some ⟨b2, off2, none⟩) ys.length cap2) ys) (by simp) (slF_atN hy) rfl rfl rfl, ?_⟩
  refine ⟨_, yd_neF (xs := sltL x) (ys := sltL y) (r := decide (x = y)) (ks := [4, 4, 4, 4, 4, 4, 4, 8]) flatSlt okSlt rfl rfl rfl (fun _ => rfl) (fun _ => rfl) (fitSlt x y), ?_⟩
  by_cases hxy : x = y
  · rw [show decide (x = y) = true by simpa using hxy]
    refine ojs_arith (z := ((k + 1 : Nat) : Int)) (by first | decide | (rw [wrap_in] <;> omega) | (dsimp only; rw [wrap_in] <;> omega)) rfl rfl rfl rfl ?_
    refine ⟨k + 1, ⟨by omega, fun j hj => ?_⟩, (by first | omega | (dsimp only; omega)), wk_patch (by repeat' (first | exact trivial | exact Or.inl rfl | refine Or.inr ⟨?_, ?_⟩ | rfl | refine ⟨?_, ?_⟩ | exact lt_all_v)) (by repeat' (first | exact trivial | exact Or.inl rfl | refine Or.inr ⟨?_, ?_⟩ | rfl | refine ⟨?_, ?_⟩ | exact lt_all_v)) (fun f hf => hf) (by simp) D_nil⟩
    rcases Nat.lt_succ_iff_lt_or_eq.1 hj with h | rfl
    · exact heq j h
    · rw [hx, hy, hxy]
  · rw [show decide (x = y) = false by simpa using hxy, show decide (xs = ys) = false by simpa using neAtE hx hy hxy]
    exact endR_ok [] rfl rfl ⟨rfl, rfl⟩ rfl (fun _ => ⟨rfl, rfl⟩) (by simp)
structure Try where
  sent : Int
  heard : Int
  over : Int
  deriving DecidableEq
def tryL (x : Try) : List Value := [.int .i64 x.sent, .int .i64 x.heard, .int .i64 x.over]
theorem tryL_len : ∀ x, (tryL x).length = 3 := fun _ => rfl
theorem flatTry : flatK Tryz.prog 9 114 = some [4, 4, 4] := by kernel_rfl
theorem okTry : eqOk Tryz.prog 114 = true := by kernel_rfl
theorem fitTry (x y : Try) : fitL [4, 4, 4] (tryL x) (tryL y) = some (decide (x = y)) := by
  obtain ⟨a, b, c⟩ := x
  obtain ⟨d, e, f⟩ := y
  have h : fitL [4, 4, 4] (tryL ⟨a, b, c⟩) (tryL ⟨d, e, f⟩) = some (a == d && (b == e && (c == f && true))) := rfl
  rw [h]
  congr 1
  rw [Bool.eq_iff_iff]
  simp
set_option maxHeartbeats 1000000 in
theorem refSameTry_c (a a2 : Option Addr) (cap cap2 : Nat) (xs ys : List Try) (hl : xs.length ≤ 1000000) (hl2 : ys.length ≤ 1000000) : Cm Tryz.prog 27 [.slice a xs.length cap, .slice a2 ys.length cap2] [] [slF tryL 3 (.slice a xs.length cap) xs, slF tryL 3 (.slice a2 ys.length cap2) ys] (rets (.bool (decide (xs = ys)))) := by
  refine cm_of (tab := tb) (ok := tbOk) [.o (.v (.slice a xs.length cap)), .o (.v (.slice a2 ys.length cap2))] Tryz.func27 Tryz.ntmps27 rfl rfl (fun _ _ => rfl) ?_
  intro w0 A0
  refine brB_split (fun h0 => ?_) (fun h0 => ?_)
  · have e : decide (xs = ys) = false := by simp at h0; simp; rintro rfl; exact h0 rfl
    rw [e]
    exact endR_ok [] rfl rfl ⟨rfl, rfl⟩ rfl (fun _ => ⟨rfl, rfl⟩) (by simp)
  have hlen : xs.length = ys.length := by simp at h0; omega
  refine cjs_loopP (γ := Nat) (fun k => k ≤ xs.length ∧ ∀ j, j < k → xs[j]? = ys[j]?) (fun k => [(5, .o (.v (.int .i64 k)))]) (fun _ => []) (fun _ => []) (fun k => xs.length - k) 0 ⟨Nat.zero_le _, fun j hj => by omega⟩ (wk_patch (by repeat' (first | exact trivial | exact Or.inl rfl | refine Or.inr ⟨?_, ?_⟩ | rfl | refine ⟨?_, ?_⟩ | exact lt_all_v)) (by repeat' (first | exact trivial | exact Or.inl rfl | refine Or.inr ⟨?_, ?_⟩ | rfl | refine ⟨?_, ?_⟩ | exact lt_all_v)) (fun f hf => hf) (by simp) D_nil) ?_
  rintro k ⟨hk, heq⟩
  refine brB_dec (fun h1 => ?_) (fun h1 => ?_)
  rotate_left
  · have e : decide (xs = ys) = true := by
      simp only [decide_eq_true_eq]
      refine List.ext_getElem? fun j => ?_
      by_cases hj : j < k
      · exact heq j hj
      · rw [List.getElem?_eq_none (by omega), List.getElem?_eq_none (by omega)]
    rw [e]
    exact endR_ok [] rfl rfl ⟨rfl, rfl⟩ rfl (fun _ => ⟨rfl, rfl⟩) (by simp)
  obtain ⟨x, hx⟩ := at_some (xs := xs) (k := k) (by omega)
  obtain ⟨y, hy⟩ := at_some (xs := ys) (k := k) (by omega)
  refine cjs_fact (slF tryL 3 (.slice a xs.length cap) xs) (by simp) (slF_neE hx) ?_
  rintro ⟨b, off, rfl⟩
  refine cjs_fact (slF tryL 3 (.slice a2 ys.length cap2) ys) (by simp) (slF_neE hy) ?_
  rintro ⟨b2, off2, rfl⟩
  refine cjs_drawn [] (.op 0 <| .op 1 <| .op 2 <| .op 3 <| .op 4 <| .op 5 <| .op 6 <| .op 7 <| .op 8 .z) [] [] [] [slF tryL 3 (.slice (some ⟨b, off, none⟩) xs.length cap) xs, slF tryL 3 (.slice (some ⟨b2, off2, none⟩) ys.length cap2) ys] (by kernel_rfl) (by kernel_rfl) rfl (by simp) (by simp) ?_
  intro N
  refine ⟨_, yd_index (i := k) rfl (by omega) rfl rfl rfl rfl, ?_⟩
  refine ⟨_, yd_loadN (vs := tryL x) (slF tryL 3 (.slice (some ⟨b, off, none⟩) xs.length cap) xs) (by simp) (slF_atN hx) rfl rfl rfl, ?_⟩
  refine ⟨_, yd_index (i := k) rfl (by omega) rfl rfl rfl rfl, ?_⟩
  refine ⟨_, yd_loadN (vs := tryL y) (slF tryL 3 (.slice (some ⟨b2, off2, none⟩) ys.length cap2) ys) (by simp) (slF_atN hy) rfl rfl rfl, ?_⟩
  refine ⟨_, yd_neF (xs := tryL x) (ys := tryL y) (r := decide (x = y)) (ks := [4, 4, 4]) flatTry okTry rfl rfl rfl (fun _ => rfl) (fun _ => rfl) (fitTry x y), ?_⟩
  by_cases hxy : x = y
  · rw [show decide (x = y) = true by simpa using hxy]
    refine ojs_arith (z := ((k + 1 : Nat) : Int)) (by first | decide | (rw [wrap_in] <;> omega) | (dsimp only; rw [wrap_in] <;> omega)) rfl rfl rfl rfl ?_
    refine ⟨k + 1, ⟨by omega, fun j hj => ?_⟩, (by first | omega | (dsimp only; omega)), wk_patch (by repeat' (first | exact trivial | exact Or.inl rfl | refine Or.inr ⟨?_, ?_⟩ | rfl | refine ⟨?_, ?_⟩ | exact lt_all_v)) (by repeat' (first | exact trivial | exact Or.inl rfl | refine Or.inr ⟨?_, ?_⟩ | rfl | refine ⟨?_, ?_⟩ | exact lt_all_v)) (fun f hf => hf) (by simp) D_nil⟩
    rcases Nat.lt_succ_iff_lt_or_eq.1 hj with h | rfl
    · exact heq j h
    · rw [hx, hy, hxy]
  · rw [show decide (x = y) = false by simpa using hxy, show decide (xs = ys) = false by simpa using neAtE hx hy hxy]
    exact endR_ok [] rfl rfl ⟨rfl, rfl⟩ rfl (fun _ => ⟨rfl, rfl⟩) (by simp)
end Go.Proofs.YtmhnlkakbadkgaaGreat
