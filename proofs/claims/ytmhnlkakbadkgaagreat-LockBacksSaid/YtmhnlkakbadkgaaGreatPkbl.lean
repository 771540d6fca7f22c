/- Part 38 of the proof of LockBacks: contracts of functions that the law reaches, or the rules by which they are walked. No condition. -/
import Derived.Test.YtmhnlkakbadkgaaGreatPkbk
namespace Go.Proofs.YtmhnlkakbadkgaaGreat
open Go.RowKit Go.Shelf
set_option maxRecDepth 100000
def mixS (k : Nat) (ys xs : List Sta) : List Sta := (List.zipWith (fun y x => bif moreB x y then x else y) ys xs).take k ++ ys.drop k
theorem mixS_len {k : Nat} {ys xs : List Sta} (h : ys.length = xs.length) (hk : k ≤ xs.length) : (mixS k ys xs).length = xs.length := by
  unfold mixS
  rw [List.length_append, List.length_take, List.length_zipWith, List.length_drop]
  omega
theorem mixS_at {k : Nat} {ys xs : List Sta} {y x : Sta} (h : ys.length = xs.length) (hy : ys[k]? = some y) (hx : xs[k]? = some x) : (mixS k ys xs)[k]? = some y := by
  have hk := (List.getElem?_eq_some_iff.1 hx).1
  unfold mixS
  rw [List.getElem?_append_right (by rw [List.length_take, List.length_zipWith]; omega), List.length_take, List.length_zipWith, List.getElem?_drop, ← hy]
  congr 1
  omega
theorem mixS_succ {k : Nat} {ys xs : List Sta} {y x : Sta} (h : ys.length = xs.length) (hy : ys[k]? = some y) (hx : xs[k]? = some x) : mixS (k + 1) ys xs = (mixS k ys xs).set k (bif moreB x y then x else y) := by
  have hk := (List.getElem?_eq_some_iff.1 hx).1
  refine List.ext_getElem? fun j => ?_
  have hz : (List.zipWith (fun y x => bif moreB x y then x else y) ys xs)[k]? = some (bif moreB x y then x else y) := by rw [List.getElem?_zipWith, hy, hx]
  have hzl : (List.zipWith (fun y x => bif moreB x y then x else y) ys xs).length = xs.length := by rw [List.length_zipWith]; omega
  have hml := mixS_len h (Nat.le_of_lt hk)
  rw [List.getElem?_set]
  by_cases e : k = j
  · subst e
    rw [if_pos rfl, if_pos (by omega)]
    unfold mixS
    rw [List.getElem?_append_left (by rw [List.length_take]; omega), List.getElem?_take_of_lt (by omega), hz]
  · rw [if_neg e]
    unfold mixS
    by_cases h1 : j < k
    · rw [List.getElem?_append_left (by rw [List.length_take]; omega), List.getElem?_take_of_lt (by omega), List.getElem?_append_left (by rw [List.length_take]; omega), List.getElem?_take_of_lt h1]
    · rw [List.getElem?_append_right (by rw [List.length_take]; omega), List.getElem?_append_right (by rw [List.length_take]; omega), List.length_take, List.length_take, List.getElem?_drop, List.getElem?_drop]
      congr 1
      omega
theorem set_same {α : Type} {l : List α} {k : Nat} {y : α} (h : l[k]? = some y) : l.set k y = l := by
  refine List.ext_getElem? fun j => ?_
  rw [List.getElem?_set]
  split
  · rename_i e
    subst e
    rw [if_pos (List.getElem?_eq_some_iff.1 h).1, h]
  · rfl
theorem partS_row {zs : List Sta} {k : Nat} {y : Sta} (h : zs[k]? = some y) : partS (some 4) ((zs.flatMap staL).map SV.v) (0 + k * 4) = some (.g ((staL y).map SV.v)) := by
  obtain ⟨h1, h2⟩ := row_get staL_len h []
  rw [List.append_nil] at h1 h2
  simp only [partS, Nat.zero_add]
  rw [cond_eq_ite, if_pos (by rw [Nat.ble_eq, List.length_map]; exact h2), ← List.map_drop, ← List.map_take, h1]
theorem row_put {zs : List Sta} {k : Nat} {y x : Sta} (h : zs[k]? = some y) : (zs.flatMap staL).take (0 + k * 4) ++ staL x ++ (zs.flatMap staL).drop (0 + k * 4 + (staL x).length) = (zs.set k x).flatMap staL := by
  have := row_set (j := 0) (x' := x) (ys := staL x) staL_len h (by simp [staL_len]) (by simp [staL]) []
  rw [List.append_nil, List.append_nil, Nat.add_zero] at this
  rw [Nat.zero_add]
  exact this
set_option maxHeartbeats 2000000 in
theorem join2_cw (a : Option Addr) (cap : Nat) (xs ys : List Sta) (h : ys.length = xs.length) (hl : xs.length ≤ 1000000) : CoW Tryz.prog 169 (fun v => [v, .slice a xs.length cap]) [slF staL 4 (.slice a xs.length cap) xs] 72 4 xs.length (ys.flatMap staL) xs.length ((mixS xs.length ys xs).flatMap staL) := by
  refine cow_of (tab := tb) (ok := tbOk) (fun v => [.o (.v v), .o (.v (.slice a xs.length cap))]) Tryz.func169 Tryz.ntmps169 rfl (fun _ => rfl) (fun _ _ => rfl) ?_
  intro w0 A0 a0 cap0
  have h0 : ys.flatMap staL = (mixS 0 ys xs).flatMap staL := by unfold mixS; simp
  rw [h0]
  refine cjs_loopP (γ := Nat) (fun k => k ≤ xs.length) (fun k => [(9, .o (.v (.int .i64 k)))]) (fun k => [(0, .own (.slice a0 xs.length cap0) 72 4 xs.length ((mixS k ys xs).flatMap staL))]) (fun _ => []) (fun k => xs.length - k) 0 (Nat.zero_le _) (wk_patch (by repeat' (first | exact trivial | exact Or.inl rfl | refine Or.inr ⟨?_, ?_⟩ | rfl | refine ⟨?_, ?_⟩ | exact lt_all_v)) (by repeat' (first | exact trivial | exact Or.inl rfl | refine Or.inr ⟨?_, ?_⟩ | rfl | refine ⟨?_, ?_⟩ | exact lt_all_v)) (fun f hf => hf) (by simp) D_nil) ?_
  intro k hk
  refine brB_dec (fun h1 => ?_) (fun h1 => ?_)
  rotate_left
  · obtain rfl : k = xs.length := by omega
    exact endW_ok 0 rfl rfl rfl rfl
  have hkl : k < xs.length := by omega
  obtain ⟨x, hx⟩ := at_some (xs := xs) (k := k) hkl
  obtain ⟨y, hy⟩ := at_some (xs := ys) (k := k) (by omega)
  have hm := mixS_at h hy hx
  have hml := mixS_len h hk
  refine ojs_fact (slF staL 4 (.slice a xs.length cap) xs) (by simp) (slF_neE hx) ?_
  rintro ⟨b, off, rfl⟩
  refine ojs_index rfl hkl rfl rfl rfl rfl ?_
  refine ojs_loadN (vs := staL x) (slF staL 4 (.slice (some ⟨b, off, none⟩) xs.length cap) xs) (by simp) (slF_atN hx) rfl rfl rfl ?_
  refine cjs_ownAddr 0 rfl (by omega) ?_
  rintro g rfl
  refine cjs_drawn [4, 5] (.op 0 <| .op 1 <| .op 2 <| .op 3 <| .op 4 <| .op 5 .z) [1] [] [] [] (by kernel_rfl) (by kernel_rfl) rfl (by simp) (by simp) ?_
  intro N
  refine ⟨_, yd_index (i := k) rfl hkl rfl rfl rfl rfl, ?_⟩
  refine ojs_loadW 0 rfl rfl rfl rfl (by omega) (partS_row hm) ?_
  refine ⟨⟨(by repeat' (first | exact trivial | refine ⟨Or.inl rfl, ?_⟩ | refine ⟨Or.inr ⟨rfl, Nat.le_of_ble_eq_true rfl, _, rfl, rfl, rfl⟩, ?_⟩)), by simp⟩, ?_⟩
  refine ojs_call [] [] rfl rfl rfl rfl rfl rfl rfl (by simp) (fun _ => more_c x y) (by simp) (.inl rfl) ?_
  rintro e cs F1 _ ⟨rfl, rfl⟩
  refine ⟨⟨(by repeat' (first | exact trivial | refine ⟨Or.inl rfl, ?_⟩ | refine ⟨Or.inr ⟨rfl, Nat.le_of_ble_eq_true rfl, _, rfl, rfl, rfl⟩, ?_⟩)), by simp⟩, ?_⟩
  have hs := mixS_succ h hy hx
  cases hb : moreB x y
  · rw [hb] at hs
    have e : mixS (k + 1) ys xs = mixS k ys xs := by rw [hs]; exact set_same hm
    refine ojs_arith (z := ((k + 1 : Nat) : Int)) (by first | decide | (rw [wrap_in] <;> omega) | (dsimp only; rw [wrap_in] <;> omega)) rfl rfl rfl rfl ?_
    refine ⟨k + 1, by omega, (by first | omega | (dsimp only; omega)), ?_⟩
    dsimp only
    rw [e]
    exact wk_patch (by repeat' (first | exact trivial | exact Or.inl rfl | refine Or.inr ⟨?_, ?_⟩ | rfl | refine ⟨?_, ?_⟩ | exact lt_all_v)) (by repeat' (first | exact trivial | exact Or.inl rfl | refine Or.inr ⟨?_, ?_⟩ | rfl | refine ⟨?_, ?_⟩ | exact lt_all_v)) (fun f hf => hf) (by simp) D_nil
  · rw [hb] at hs
    refine ojs_index rfl hkl rfl rfl rfl rfl ?_
    refine ojs_storeW (xs := staL x) (cells' := (mixS (k + 1) ys xs).flatMap staL) 0 rfl rfl rfl rfl rfl rfl rfl (by omega) rfl (by rw [flat_lenR staL_len, staL_len, hml]; omega) (by simp [staL, Value.oneCell']) (by rw [hs]; exact row_put hm) ?_
    refine ojs_arith (z := ((k + 1 : Nat) : Int)) (by first | decide | (rw [wrap_in] <;> omega) | (dsimp only; rw [wrap_in] <;> omega)) rfl rfl rfl rfl ?_
    refine ⟨k + 1, by omega, (by first | omega | (dsimp only; omega)), wk_patch (by repeat' (first | exact trivial | exact Or.inl rfl | refine Or.inr ⟨?_, ?_⟩ | rfl | refine ⟨?_, ?_⟩ | exact lt_all_v)) (by repeat' (first | exact trivial | exact Or.inl rfl | refine Or.inr ⟨?_, ?_⟩ | rfl | refine ⟨?_, ?_⟩ | exact lt_all_v)) (fun f hf => hf) (by simp) D_nil⟩
theorem valL_seq (b b2 : Nat) (s : Value) : SeqC Tryz.prog 273 [.pointer (some ⟨b2, 0, none⟩)] [blkF b2 [.slice (some ⟨b, 0, none⟩) 1 1] 256, blkF b [s] 36] (fun v : Value => [v]) [s] := by
  refine seq_of (tab := tb) (ok := tbOk) [.o (.v (.pointer (some ⟨b2, 0, none⟩)))] Tryz.func273 Tryz.ntmps273 rfl rfl (fun _ => rfl) ?_
  intro S
  refine ojs_load1 (S.inF (blkF b2 [.slice (some ⟨b, 0, none⟩) 1 1] 256)) (by simp) (fun A w h => blk_cell (o := 0) rfl _ w h.2) rfl rfl rfl ?_
  refine cjs_loopX (γ := Nat) (fun k => k ≤ 1) (fun k => [(7, .o (.v (.int .i64 k)))]) (fun _ => []) (fun k => [S.jF k, S.inF (blkF b [s] 36)]) (fun k => 1 - k) 0 (Nat.zero_le _) (wk_patch (by repeat' (first | exact trivial | exact Or.inl rfl | refine Or.inr ⟨?_, ?_⟩ | rfl | refine ⟨?_, ?_⟩ | exact lt_all_v)) (by repeat' (first | exact trivial | exact Or.inl rfl | refine Or.inr ⟨?_, ?_⟩ | rfl | refine ⟨?_, ?_⟩ | exact lt_all_v)) (by simp) (by simp [It.X]) D_nil) ?_
  intro k hk
  refine brB_dec (fun h1 => ?_) (fun h1 => ?_)
  · obtain rfl : k = 0 := by omega
    refine ojs_index (i := 0) rfl (by omega) rfl rfl rfl rfl ?_
    refine ojs_load1 (S.inF (blkF b [s] 36)) (by simp) (fun A w h => blk_cell (o := 0) rfl _ w h.2) rfl rfl rfl ?_
    refine ojs_yield 0 [blkF b [s] 36] rfl rfl rfl rfl rfl (fun _ => rfl) (by simp) (by simp) ?_ ?_
    · refine ojs_arith (z := ((0 + 1 : Nat) : Int)) (by first | decide | (rw [wrap_in] <;> omega) | (dsimp only; rw [wrap_in] <;> omega)) rfl rfl rfl rfl ?_
      exact ⟨0 + 1, by omega, (by first | omega | (dsimp only; omega)), wk_patch (by repeat' (first | exact trivial | exact Or.inl rfl | refine Or.inr ⟨?_, ?_⟩ | rfl | refine ⟨?_, ?_⟩ | exact lt_all_v)) (by repeat' (first | exact trivial | exact Or.inl rfl | refine Or.inr ⟨?_, ?_⟩ | rfl | refine ⟨?_, ?_⟩ | exact lt_all_v)) (by simp) (by simp [It.X]) D_nil⟩
    · exact endS_stop (0 + 1) (by simp) (by omega) (by simp) rfl rfl
  · obtain rfl : k = 1 := by omega
    exact endS_done (by simp) rfl rfl
theorem valL_c (a : Option Addr) (m cap : Nat) : Cm Tryz.prog 226 [.slice a m cap] [] [] (fun e _ F1 => ∃ b, e = .returned (.func (.func 273) #[] #[.pointer (some ⟨b, 0, none⟩)]) ∧ F1 = [blkF b [.slice a m cap] 256]) := by
  refine cm_of (tab := tb) (ok := tbOk) [.o (.v (.slice a m cap))] Tryz.func226 Tryz.ntmps226 rfl rfl (fun _ _ => rfl) ?_
  intro w0 A0
  exact endR_seal [0] [] rfl rfl rfl rfl ⟨rfl, rfl⟩ rfl (fun ρ => ⟨ρ 0, rfl, rfl⟩) (by simp)
set_option maxHeartbeats 2000000 in
theorem folded_cw (a : Option Addr) (cap : Nat) (xs ys : List Sta) (b : Nat) (h : ys.length = xs.length) (hl : xs.length ≤ 1000000) : CoW Tryz.prog 168 (fun v => [v, .slice (some ⟨b, 0, none⟩) 1 1, .func (.func 169) #[] #[]]) [blkF b [.slice a xs.length cap] 36, slF staL 4 (.slice a xs.length cap) xs] 72 4 xs.length (ys.flatMap staL) xs.length ((mixS xs.length ys xs).flatMap staL) := by
  refine cow_ofD (tab := tb) (ok := tbOk) (fun v => [.o (.v v), .o (.v (.slice (some ⟨b, 0, none⟩) 1 1)), .o (.v (.func (.func 169) #[] #[]))]) Tryz.func168 Tryz.ntmps168 rfl (fun _ => rfl) (fun _ _ => rfl) ?_
  intro w0 A0 a0 cap0
  refine ojs_call [] [] rfl rfl rfl rfl rfl rfl rfl (by simp) (fun _ => valL_c (some ⟨b, 0, none⟩) 1 1) (by simp) (.inl rfl) ?_
  rintro e cs F1 _ ⟨b2, rfl, rfl⟩
  refine cjs_range (γ := Option Addr × Nat) (fun _ _ => True) (fun k g => ([(2, .c [.v (.func (.func 169) #[] #[])] 261), (1, .c [.v (.slice g.1 xs.length g.2)] 36), (0, .own (.slice g.1 xs.length g.2) 72 4 xs.length ((match k with | 0 => ys | _ + 1 => mixS xs.length ys xs).flatMap staL))], [blkF b2 [.slice (some ⟨b, 0, none⟩) 1 1] 256, blkF b [.slice a xs.length cap] 36, slF staL 4 (.slice a xs.length cap) xs])) (a0, cap0) (valL_seq b b2 (.slice a xs.length cap)) rfl rfl rfl (fun _ => rfl) rfl (Nat.zero_le _) trivial ?_ (by simp) ?_ ?_
  · exact wk_patch (by repeat' (first | exact trivial | exact Or.inl rfl | refine Or.inr ⟨?_, ?_⟩ | rfl | refine ⟨?_, ?_⟩ | exact lt_all_v)) (by repeat' (first | exact trivial | exact Or.inl rfl | refine Or.inr ⟨?_, ?_⟩ | rfl | refine ⟨?_, ?_⟩ | exact lt_all_v)) (by simp) (by simp) D_nil
  · rintro k x ⟨a1, c1⟩ hx - l1 w1 A1 M1 N1 hN1
    obtain rfl : k = 0 := by have := (List.getElem?_eq_some_iff.1 hx).1; simpa using this
    obtain rfl : Value.slice a xs.length cap = x := by simpa using hx
    intro w2 A2 M2 N2 hN2
    refine ⟨rfl, ?_⟩
    refine ojs_callOwnW 0 [] rfl rfl rfl rfl rfl rfl rfl (fun _ => rfl) rfl rfl (fun _ => join2_cw a cap xs ys h hl) (by simp) ?_
    intro a' c'
    exact ⟨(a', c'), trivial, wk_patch (by repeat' (first | exact trivial | exact Or.inl rfl | refine Or.inr ⟨?_, ?_⟩ | rfl | refine ⟨?_, ?_⟩ | exact lt_all_v)) (by repeat' (first | exact trivial | exact Or.inl rfl | refine Or.inr ⟨?_, ?_⟩ | rfl | refine ⟨?_, ?_⟩ | exact lt_all_v)) (by simp) (Nat.le_of_eq hN2) D_nil⟩
  · rintro ⟨a1, c1⟩ -
    exact lv_mark ret_ne rfl (lvW_ret (endW_ok 0 rfl rfl rfl rfl))
end Go.Proofs.YtmhnlkakbadkgaaGreat
namespace Go.Proofs.YtmhnlkakbadkgaaGreat
open Go.RowKit Go.Shelf
set_option maxRecDepth 100000
theorem lsite_c (x : Lck) (p : LckS) (pl : Plc) (b : Nat) (k : Int) (h1 : 0 ≤ pl.me * pl.s ∧ pl.me * pl.s ≤ 1000000) (h2 : 0 ≤ k ∧ k ≤ 1000000) : Cm Tryz.prog 47 [.pointer (some ⟨b, 0, none⟩), .int .i64 k] [] [blkF b (undK x p pl) 94] (rets (.int .i64 (pl.me * pl.s + k))) := by
  refine cm_of (tab := tb) (ok := tbOk) [.o (.v (.pointer (some ⟨b, 0, none⟩))), .o (.v (.int .i64 k))] Tryz.func47 Tryz.ntmps47 rfl rfl (fun _ _ => rfl) ?_
  intro w0 A0
  refine cjs_drawn [] (.op 0 <| .op 1 <| .op 2 <| .op 3 <| .op 4 <| .op 5 <| .op 6 <| .op 7 <| .op 8 <| .op 9 <| .op 10 <| .op 11 <| .op 12 <| .op 13 <| .op 14 .z) [] [] [] [blkF b (undK x p pl) 94] (by kernel_rfl) (by kernel_rfl) rfl (by simp) (by simp) ?_
  intro N
  refine ⟨_, yd_loadF1 (cs := undK x p pl) (b := b) (ct := 94) (by simp) rfl rfl rfl rfl, ?_⟩
  refine ⟨_, yd_loadF1 (cs := undK x p pl) (b := b) (ct := 94) (by simp) rfl rfl rfl rfl, ?_⟩
  refine ⟨_, yd_arith (z := pl.me * pl.s) (by rw [wrap_in] <;> omega) rfl rfl rfl rfl, ?_⟩
  refine ⟨_, yd_arith (z := pl.me * pl.s + k) (by rw [wrap_in] <;> omega) rfl rfl rfl rfl, ?_⟩
  exact endR_ok [] rfl rfl ⟨rfl, rfl⟩ rfl (fun _ => ⟨rfl, rfl⟩) (by simp)
theorem tried_c (x : Lck) (p : LckS) (pl : Plc) (b : Nat) (hx : x.small) : Cm Tryz.prog 49 [.pointer (some ⟨b, 0, none⟩)] [] (blkF b (undK x p pl) 94 :: lckF x p) (rets (.bool (triesB pl.s x.tries))) := by
  unfold lckF
  have hl := hx.2.2.2
  refine cm_of (tab := tb) (ok := tbOk) [.o (.v (.pointer (some ⟨b, 0, none⟩)))] Tryz.func49 Tryz.ntmps49 rfl rfl (fun _ _ => rfl) ?_
  intro w0 A0
  refine cjs_drawn [19] (.op 0 <| .op 1 <| .op 2 <| .op 3 <| .op 4 <| .op 5 <| .op 6 <| .op 7 <| .op 8 <| .op 9 <| .op 10 <| .op 11 <| .op 12 <| .op 13 <| .op 14 <| .op 15 <| .op 16 <| .op 17 <| .op 18 <| .op 19 <| .op 20 <| .op 21 <| .op 22 .z) [] [] [] [blkF b (undK x p pl) 94] (by kernel_rfl) (by kernel_rfl) rfl (by simp) (by simp) ?_
  intro N
  refine ⟨_, yd_loadF1 (cs := undK x p pl) (b := b) (ct := 94) (by simp) rfl rfl rfl rfl, ?_⟩
  refine ⟨_, yd_loadF1 (cs := undK x p pl) (b := b) (ct := 94) (by simp) rfl rfl rfl rfl, ?_⟩
  unfold triesB
  refine brB_split (fun h1 => ?_) (fun h1 => ?_)
  rotate_left
  · have e : decide ((x.tries.length : Int) = pl.s) = false := by simp at h1; simpa using h1
    rw [e]
    exact endR_ok [] rfl rfl ⟨rfl, rfl⟩ rfl (fun _ => ⟨rfl, rfl⟩) (by simp)
  have e : decide ((x.tries.length : Int) = pl.s) = true := by simp at h1; simpa using h1
  rw [e]
  refine ⟨_, yd_loadF1 (cs := undK x p pl) (b := b) (ct := 94) (by simp) rfl rfl rfl rfl, ?_⟩
  refine ojs_call [] [] rfl rfl rfl rfl rfl rfl rfl (by simp) (fun _ => ixTry_con (F0 := []) (lb := []) (a := p.a6) (cap := p.c6) (xs := x.tries) rfl (fun x => !tryB x) (by omega) (fun x _ => tried1_c x)) (by simp) (.inl rfl) ?_
  rintro e cs F1 _ ⟨rfl, rfl⟩
  refine ⟨⟨(by repeat' (first | exact trivial | refine ⟨Or.inl rfl, ?_⟩ | refine ⟨Or.inr ⟨rfl, Nat.le_of_ble_eq_true rfl, _, rfl, rfl, rfl⟩, ?_⟩)), by simp⟩, ?_⟩
  have e2 : (!x.tries.any fun x => !tryB x) = x.tries.all tryB := by rw [List.all_eq_not_any_not]
  rw [← e2]
  cases x.tries.any fun x => !tryB x
  · exact endR_ok [] rfl rfl ⟨rfl, rfl⟩ rfl (fun _ => ⟨rfl, rfl⟩) (by simp)
  · exact endR_ok [] rfl rfl ⟨rfl, rfl⟩ rfl (fun _ => ⟨rfl, rfl⟩) (by simp)
set_option maxHeartbeats 2000000 in
theorem carried_c (x : Lck) (p : LckS) (pl : Plc) (b : Nat) (hx : x.small) : Cm Tryz.prog 51 [.pointer (some ⟨b, 0, none⟩)] [] (blkF b (undK x p pl) 94 :: lckF x p) (rets (.bool (carB pl.n pl.l pl.s x))) := by
  unfold lckF
  have hZ : carB pl.n pl.l pl.s x = bif !x.has && decide (x.last = 0) then decide (x.tok = tok0) else decide (0 < x.last) && decide (x.tok.age = x.last) && tokB pl.n pl.l pl.s x.tok := rfl
  generalize carB pl.n pl.l pl.s x = Z at hZ
  have fin : ∀ {r : Bool}, Z = r → Value.bool r = .bool Z := fun h => by rw [h]
  refine cm_of (tab := tb) (ok := tbOk) [.o (.v (.pointer (some ⟨b, 0, none⟩)))] Tryz.func51 Tryz.ntmps51 rfl rfl (fun _ _ => rfl) ?_
  intro w0 A0
  refine ojs_loadF1 (cs := undK x p pl) (b := b) (ct := 94) (by simp) rfl rfl rfl rfl ?_
  cases hh : x.has
  · rw [hh] at hZ
    refine ojs_loadF1 (cs := undK x p pl) (b := b) (ct := 94) (by simp) rfl rfl rfl rfl ?_
    refine brB_split (fun h1 => ?_) (fun h1 => ?_)
    · have e1 : decide (x.last = 0) = true := by simpa using h1
      rw [e1] at hZ
      refine ojs_loadFN (vs := tokV x.tok p.tok) (cs := undK x p pl) (b := b) (ct := 94) (by simp) rfl rfl rfl rfl ?_
      refine ojs_call [] [] rfl rfl rfl rfl rfl rfl rfl (by simp) (fun _ => tokZ_c (tokSame_c x.tok tok0 p.tok sls0 hx.1 tok0_small)) (by simp) (.inl rfl) ?_
      rintro e cs F1 _ ⟨rfl, rfl⟩
      rw [hZ]
      exact endR_ok [] rfl rfl ⟨rfl, rfl⟩ rfl (fun _ => ⟨rfl, rfl⟩) (by simp)
    · have e1 : decide (x.last = 0) = false := by simpa using h1
      rw [e1] at hZ
      refine cjs_drawn [31] (.op 0 <| .op 1 <| .op 2 <| .op 3 <| .op 4 <| .op 5 <| .op 6 <| .op 7 <| .op 8 <| .op 9 <| .op 10 <| .op 11 <| .op 12 <| .op 13 <| .op 14 <| .op 15 <| .op 16 <| .op 17 <| .op 18 <| .op 19 <| .op 20 <| .op 21 <| .op 22 <| .op 23 <| .op 24 <| .op 25 <| .op 26 <| .op 27 <| .op 28 <| .op 29 <| .op 30 <| .op 31 <| .op 32 <| .op 33 <| .op 34 .z) [] [] [] [blkF b (undK x p pl) 94] (by kernel_rfl) (by kernel_rfl) rfl (by simp) (by simp) ?_
      intro N
      refine ⟨_, yd_loadF1 (cs := undK x p pl) (b := b) (ct := 94) (by simp) rfl rfl rfl rfl, ?_⟩
      refine brB_dec (fun h2 => ?_) (fun h2 => ?_)
      rotate_left
      · have e2 : decide (0 < x.last) = false := by simpa using h2
        rw [e2] at hZ
        rw [hZ]
        exact endR_ok [] rfl rfl ⟨rfl, rfl⟩ rfl (fun _ => ⟨rfl, rfl⟩) (by simp)
      have e2 : decide (0 < x.last) = true := by simpa using h2
      rw [e2] at hZ
      refine ⟨_, yd_loadF1 (cs := undK x p pl) (b := b) (ct := 94) (by simp) rfl rfl rfl rfl, ?_⟩
      refine ⟨_, yd_loadF1 (cs := undK x p pl) (b := b) (ct := 94) (by simp) rfl rfl rfl rfl, ?_⟩
      refine brB_split (fun h3 => ?_) (fun h3 => ?_)
      rotate_left
      · have e3 : decide (x.tok.age = x.last) = false := by simp at h3; simpa using h3
        rw [e3] at hZ
        rw [hZ]
        exact endR_ok [] rfl rfl ⟨rfl, rfl⟩ rfl (fun _ => ⟨rfl, rfl⟩) (by simp)
      have e3 : decide (x.tok.age = x.last) = true := by simp at h3; simpa using h3
      rw [e3] at hZ
      refine ⟨_, yd_loadFN (vs := [.int .i64 pl.n, .int .i64 pl.l, .int .i64 pl.s]) (cs := undK x p pl) (b := b) (ct := 94) (by simp) rfl rfl rfl rfl, ?_⟩
      refine ⟨_, yd_loadFN (vs := tokV x.tok p.tok) (cs := undK x p pl) (b := b) (ct := 94) (by simp) rfl rfl rfl rfl, ?_⟩
      refine ojs_call [] [] rfl rfl rfl rfl rfl rfl rfl (by simp) (fun _ => tokCheck_c pl.n pl.l pl.s x.tok p.tok hx.1) (by simp) (.inl rfl) ?_
      rintro e cs F1 _ ⟨rfl, rfl⟩
      refine ⟨⟨(by repeat' (first | exact trivial | refine ⟨Or.inl rfl, ?_⟩ | refine ⟨Or.inr ⟨rfl, Nat.le_of_ble_eq_true rfl, _, rfl, rfl, rfl⟩, ?_⟩)), by simp⟩, ?_⟩
      unfold tokE
      have hZ2 : Z = tokB pl.n pl.l pl.s x.tok := by rw [hZ]; simp
      rw [hZ2]
      cases tokB pl.n pl.l pl.s x.tok
      · exact endR_ok [] rfl rfl ⟨rfl, rfl⟩ rfl (fun _ => ⟨rfl, rfl⟩) (by simp)
      · exact endR_ok [] rfl rfl ⟨rfl, rfl⟩ rfl (fun _ => ⟨rfl, rfl⟩) (by simp)
  · rw [hh] at hZ
    refine cjs_drawn [31] (.op 0 <| .op 1 <| .op 2 <| .op 3 <| .op 4 <| .op 5 <| .op 6 <| .op 7 <| .op 8 <| .op 9 <| .op 10 <| .op 11 <| .op 12 <| .op 13 <| .op 14 <| .op 15 <| .op 16 <| .op 17 <| .op 18 <| .op 19 <| .op 20 <| .op 21 <| .op 22 <| .op 23 <| .op 24 <| .op 25 <| .op 26 <| .op 27 <| .op 28 <| .op 29 <| .op 30 <| .op 31 <| .op 32 <| .op 33 <| .op 34 .z) [] [] [] [blkF b (undK x p pl) 94] (by kernel_rfl) (by kernel_rfl) rfl (by simp) (by simp) ?_
    intro N
    refine ⟨_, yd_loadF1 (cs := undK x p pl) (b := b) (ct := 94) (by simp) rfl rfl rfl rfl, ?_⟩
    refine brB_dec (fun h2 => ?_) (fun h2 => ?_)
    rotate_left
    · have e2 : decide (0 < x.last) = false := by simpa using h2
      rw [e2] at hZ
      rw [hZ]
      exact endR_ok [] rfl rfl ⟨rfl, rfl⟩ rfl (fun _ => ⟨rfl, rfl⟩) (by simp)
    have e2 : decide (0 < x.last) = true := by simpa using h2
    rw [e2] at hZ
    refine ⟨_, yd_loadF1 (cs := undK x p pl) (b := b) (ct := 94) (by simp) rfl rfl rfl rfl, ?_⟩
    refine ⟨_, yd_loadF1 (cs := undK x p pl) (b := b) (ct := 94) (by simp) rfl rfl rfl rfl, ?_⟩
    refine brB_split (fun h3 => ?_) (fun h3 => ?_)
    rotate_left
    · have e3 : decide (x.tok.age = x.last) = false := by simp at h3; simpa using h3
      rw [e3] at hZ
      rw [hZ]
      exact endR_ok [] rfl rfl ⟨rfl, rfl⟩ rfl (fun _ => ⟨rfl, rfl⟩) (by simp)
    have e3 : decide (x.tok.age = x.last) = true := by simp at h3; simpa using h3
    rw [e3] at hZ
    refine ⟨_, yd_loadFN (vs := [.int .i64 pl.n, .int .i64 pl.l, .int .i64 pl.s]) (cs := undK x p pl) (b := b) (ct := 94) (by simp) rfl rfl rfl rfl, ?_⟩
    refine ⟨_, yd_loadFN (vs := tokV x.tok p.tok) (cs := undK x p pl) (b := b) (ct := 94) (by simp) rfl rfl rfl rfl, ?_⟩
    refine ojs_call [] [] rfl rfl rfl rfl rfl rfl rfl (by simp) (fun _ => tokCheck_c pl.n pl.l pl.s x.tok p.tok hx.1) (by simp) (.inl rfl) ?_
    rintro e cs F1 _ ⟨rfl, rfl⟩
    refine ⟨⟨(by repeat' (first | exact trivial | refine ⟨Or.inl rfl, ?_⟩ | refine ⟨Or.inr ⟨rfl, Nat.le_of_ble_eq_true rfl, _, rfl, rfl, rfl⟩, ?_⟩)), by simp⟩, ?_⟩
    unfold tokE
    have hZ2 : Z = tokB pl.n pl.l pl.s x.tok := by rw [hZ]; simp
    rw [hZ2]
    cases tokB pl.n pl.l pl.s x.tok
    · exact endR_ok [] rfl rfl ⟨rfl, rfl⟩ rfl (fun _ => ⟨rfl, rfl⟩) (by simp)
    · exact endR_ok [] rfl rfl ⟨rfl, rfl⟩ rfl (fun _ => ⟨rfl, rfl⟩) (by simp)
end Go.Proofs.YtmhnlkakbadkgaaGreat
namespace Go.Proofs.YtmhnlkakbadkgaaGreat
open Go.RowKit Go.Shelf
set_option maxRecDepth 100000
theorem ixL_idx {F0 : List Fact} {g : Nat} {lb : List Value} (hg : alook tb.fn g = some ()) (r : Bool) {b : Nat} {s : Value} (hc : Cm Tryz.prog g (s :: lb) [] F0 (rets (.bool r))) :
    Cm Tryz.prog 223 [.slice (some ⟨b, 0, none⟩) 1 1, .func (.func g) #[] lb.toArray] [] (blkF b [s] 36 :: F0) (rets (.int .i64 (bif r then 0 else -1))) := by
  refine cm_of (tab := tb) (ok := tbOk) [.o (.v (.slice (some ⟨b, 0, none⟩) 1 1)), .o (.v (.func (.func g) #[] lb.toArray))] Tryz.func223 Tryz.ntmps223 rfl rfl (fun _ _ => rfl) ?_
  intro w0 A0
  refine cjs_turns 2 ?_
  refine ojs_index (i := 0) rfl (by decide) rfl rfl rfl rfl ?_
  refine ojs_loadF1 (cs := [s]) (b := b) (ct := 36) (by simp) rfl rfl rfl rfl ?_
  have hc2 : ∀ ρ : Nm, Cm Tryz.prog g (argV ρ [] [TV.o (.v s)] (lb.map PV.v)) [] F0 (rets (.bool r)) := fun ρ => by
    have e : argV ρ [] [TV.o (.v s)] (lb.map PV.v) = s :: lb := by simp [argV, List.map_map, Function.comp_def, PV.den, TV.den, SV.den]
    rw [e]; exact hc
  refine ojs_call [] [] rfl rfl rfl rfl hg rfl rfl (by simp) (fun ρ => hc2 ρ) (fun f hf => List.mem_cons_of_mem _ hf) (.inl rfl) ?_
  rintro e cs F1 _ ⟨rfl, rfl⟩
  cases r
  · refine ojs_arith (z := 1) (by decide) rfl rfl rfl rfl ?_
    exact endR_ok [] rfl rfl ⟨rfl, rfl⟩ rfl (fun _ => ⟨rfl, rfl⟩) (by simp)
  · exact endR_ok [] rfl rfl ⟨rfl, rfl⟩ rfl (fun _ => ⟨rfl, rfl⟩) (by simp)
theorem ixL_con {F0 : List Fact} {g : Nat} {lb : List Value} (hg : alook tb.fn g = some ()) (r : Bool) {b : Nat} {s : Value} (hc : Cm Tryz.prog g (s :: lb) [] F0 (rets (.bool r))) :
    Cm Tryz.prog 165 [.slice (some ⟨b, 0, none⟩) 1 1, .func (.func g) #[] lb.toArray] [] (blkF b [s] 36 :: F0) (rets (.bool r)) := by
  refine cm_of (tab := tb) (ok := tbOk) [.o (.v (.slice (some ⟨b, 0, none⟩) 1 1)), .o (.v (.func (.func g) #[] lb.toArray))] Tryz.func165 Tryz.ntmps165 rfl rfl (fun _ _ => rfl) ?_
  intro w0 A0
  refine ojs_call [] [] rfl rfl rfl rfl rfl rfl rfl (by simp) (fun _ => ixL_idx hg r hc) (fun f hf => hf) (.inl rfl) ?_
  rintro e cs F1 _ ⟨rfl, rfl⟩
  cases r
  · exact endR_ok [] rfl rfl ⟨rfl, rfl⟩ rfl (fun _ => ⟨rfl, rfl⟩) (by simp)
  · exact endR_ok [] rfl rfl ⟨rfl, rfl⟩ rfl (fun _ => ⟨rfl, rfl⟩) (by simp)
theorem join1_c (n l s : Int) (a : Option Addr) (cap : Nat) (xs : List Sta) (b : Nat) (hx : xs.length ≤ 1000000) : Cm Tryz.prog 166 [.slice a xs.length cap, .pointer (some ⟨b, 0, none⟩)] [] [blkF b [.int .i64 n, .int .i64 l, .int .i64 s] 23, slF staL 4 (.slice a xs.length cap) xs] (rets (.bool (!knownB n l s xs))) := by
  refine cm_of (tab := tb) (ok := tbOk) [.o (.v (.slice a xs.length cap)), .o (.v (.pointer (some ⟨b, 0, none⟩)))] Tryz.func166 Tryz.ntmps166 rfl rfl (fun _ _ => rfl) ?_
  intro w0 A0
  refine ojs_loadFN (vs := [.int .i64 n, .int .i64 l, .int .i64 s]) (cs := [.int .i64 n, .int .i64 l, .int .i64 s]) (b := b) (ct := 23) (by simp) rfl rfl rfl rfl ?_
  refine ojs_call [] [] rfl rfl rfl rfl rfl rfl rfl (by simp) (fun _ => statRight_c n l s a cap xs hx) (by simp) (.inl rfl) ?_
  rintro e cs F1 _ ⟨rfl, rfl⟩
  cases knownB n l s xs
  · exact endR_ok [] rfl rfl ⟨rfl, rfl⟩ rfl (fun _ => ⟨rfl, rfl⟩) (by simp)
  · exact endR_ok [] rfl rfl ⟨rfl, rfl⟩ rfl (fun _ => ⟨rfl, rfl⟩) (by simp)
set_option maxHeartbeats 2000000 in
theorem joinE_c (n l s : Int) (a : Option Addr) (cap : Nat) (xs : List Sta) (b : Nat) (hx : xs.length ≤ 1000000) : Cm Tryz.prog 102 [.agg #[.int .i64 n, .int .i64 l, .int .i64 s], .slice (some ⟨b, 0, none⟩) 1 1] [] [blkF b [.slice a xs.length cap] 36, slF staL 4 (.slice a xs.length cap) xs] (fun e _ F1 => (∃ v, e = .returned (.tuple #[v, .int .i64 (bif knownB n l s xs then 0 else 2)])) ∧ F1 = []) := by
  refine cm_of (tab := tb) (ok := tbOk) [.g [.v (.int .i64 n), .v (.int .i64 l), .v (.int .i64 s)], .o (.v (.slice (some ⟨b, 0, none⟩) 1 1))] Tryz.func102 Tryz.ntmps102 rfl rfl (fun _ _ => rfl) ?_
  intro w0 A0
  have hsl := sitesX_le (n := n) (l := l) (s := s)
  have hsi := fun h => sitesX_int (n := n) (l := l) (s := s) h
  have hk : knownB n l s xs = (shapeB n l s && decide ((xs.length : Int) = n * s) && xs.all staB) := rfl
  refine ojs_inl Tryz.func32 Tryz.ntmps32 rfl rfl rfl rfl rfl rfl rfl ?_
  intro w1 A1 M1 N1 hN1
  refine ojs_call [] [] rfl rfl rfl rfl rfl rfl rfl (by simp) (fun _ => sites_c n l s) (by simp) (.inl rfl) ?_
  rintro e cs F1 _ ⟨rfl, rfl⟩
  generalize (sitesX n l s).length = m at hsl hsi
  unfold shapeE
  cases hs : shapeB n l s
  · rw [hs] at hk
    rw [hk]
    refine ⟨rfl, ?_⟩
    exact endR_ok [] rfl rfl ⟨rfl, rfl⟩ rfl (fun _ => ⟨⟨_, rfl⟩, rfl⟩) (by simp)
  replace hsi := hsi hs
  refine ojs_makeSlice (m := m) rfl rfl rfl rfl rfl rfl rfl rfl rfl (by omega) (by simp only [maxLen]; omega) ?_
  intro a1
  refine ⟨rfl, ?_⟩
  refine ojs_call [0] [] rfl rfl rfl rfl rfl rfl rfl (by simp) (F0 := [blkF b [.slice a xs.length cap] 36, slF staL 4 (.slice a xs.length cap) xs]) (Out := rets (.bool (!knownB n l s xs))) (fun ρ => (ixL_con (b := b) (lb := [.pointer (some ⟨ρ 0, 0, none⟩)]) rfl (!knownB n l s xs) (join1_c n l s a cap xs (ρ 0) hx)).facts (F0 := [blkF (ρ 0) [.int .i64 n, .int .i64 l, .int .i64 s] 23, blkF b [.slice a xs.length cap] 36, slF staL 4 (.slice a xs.length cap) xs]) (fun A w hF f hf => by
    rcases List.mem_cons.1 hf with rfl | hf
    · exact hF _ (by simp)
    rcases List.mem_cons.1 hf with rfl | hf
    · exact hF _ (by simp)
    rcases List.mem_cons.1 hf with rfl | hf
    · exact hF _ (by simp)
    · cases hf)) (by simp) (.inr (by rintro e cs F1 ⟨_, rfl⟩; rfl)) ?_
  rintro e cs F1 _ ⟨rfl, rfl⟩
  cases hkn : knownB n l s xs
  · exact endR_ok [] rfl rfl ⟨rfl, rfl⟩ rfl (fun _ => ⟨⟨_, rfl⟩, rfl⟩) (by simp)
  obtain rfl : m = xs.length := by rw [hkn] at hk; simp at hk; omega
  have hmade : (madeCells ([1, 0, 1, 1].map zdec).toArray (xs.length * 4)).toList = (List.replicate xs.length (⟨0, false, 0, 0⟩ : Sta)).flatMap staL := made_flat (enc := staL) (z := ⟨0, false, 0, 0⟩) (by decide) rfl xs.length
  refine ojs_callOwnW (xs := (List.replicate xs.length (⟨0, false, 0, 0⟩ : Sta)).flatMap staL) 2 [] (congrArg (fun c => some (LC.own (.slice a1 xs.length xs.length) 72 4 xs.length c)) hmade) rfl rfl rfl rfl rfl rfl (fun _ => rfl) rfl rfl (fun _ => folded_cw a cap xs (List.replicate xs.length ⟨0, false, 0, 0⟩) b (by simp) hx) (by simp) ?_
  intro a2 c2
  exact endR_ok [] rfl rfl ⟨rfl, rfl⟩ rfl (fun _ => ⟨⟨_, rfl⟩, rfl⟩) (by simp)
def knowsB (pl : Plc) (x : Lck) : Bool := knownB pl.n pl.l pl.s x.known && slotsB pl.n pl.l pl.s x.slots && ownB pl.n pl.l pl.s x.own
set_option maxHeartbeats 2000000 in
theorem knows_c (x : Lck) (p : LckS) (pl : Plc) (b : Nat) (hx : x.small) : Cm Tryz.prog 48 [.pointer (some ⟨b, 0, none⟩)] [] (blkF b (undK x p pl) 94 :: lckF x p) (rets (.bool (knowsB pl x))) := by
  unfold lckF
  have hZ : knowsB pl x = (knownB pl.n pl.l pl.s x.known && slotsB pl.n pl.l pl.s x.slots && ownB pl.n pl.l pl.s x.own) := rfl
  rw [hZ]
  refine cm_of (tab := tb) (ok := tbOk) [.o (.v (.pointer (some ⟨b, 0, none⟩)))] Tryz.func48 Tryz.ntmps48 rfl rfl (fun _ _ => rfl) ?_
  intro w0 A0
  refine cjs_drawn [10, 11] (.op 0 <| .op 1 <| .op 2 <| .op 3 <| .op 4 <| .op 5 <| .op 6 <| .op 7 <| .op 8 <| .op 9 <| .op 10 <| .op 11 <| .op 12 <| .op 13 <| .op 14 <| .op 15 <| .op 16 .z) [] [] [] [blkF b (undK x p pl) 94] (by kernel_rfl) (by kernel_rfl) rfl (by simp) (by simp) ?_
  intro N
  refine ⟨_, yd_loadFN (vs := [.int .i64 pl.n, .int .i64 pl.l, .int .i64 pl.s]) (cs := undK x p pl) (b := b) (ct := 94) (by simp) rfl rfl rfl rfl, ?_⟩
  refine ⟨_, yd_loadF1 (cs := undK x p pl) (b := b) (ct := 94) (by simp) rfl rfl rfl rfl, ?_⟩
  refine ⟨⟨(by repeat' (first | exact trivial | refine ⟨Or.inl rfl, ?_⟩ | refine ⟨Or.inr ⟨rfl, Nat.le_of_ble_eq_true rfl, _, rfl, rfl, rfl⟩, ?_⟩)), by simp⟩, ?_⟩
  refine ojs_call [0] [] rfl rfl rfl rfl rfl rfl rfl (by simp) (fun ρ => joinE_c pl.n pl.l pl.s p.a4 p.c4 x.known (ρ 0) hx.2.1) (by simp) (.inr (by rintro e cs F1 ⟨_, rfl⟩; rfl)) ?_
  rintro e cs F1 _ ⟨⟨v, rfl⟩, rfl⟩
  refine ⟨⟨(by repeat' (first | exact trivial | refine ⟨Or.inl rfl, ?_⟩ | refine ⟨Or.inr ⟨rfl, Nat.le_of_ble_eq_true rfl, _, rfl, rfl, rfl⟩, ?_⟩)), by simp⟩, ?_⟩
  cases hk : knownB pl.n pl.l pl.s x.known
  · refine cjs_drawn [13, 27] (.op 0 <| .op 1 <| .op 2 <| .op 3 <| .op 4 <| .op 5 <| .op 6 <| .op 7 <| .op 8 <| .op 9 <| .op 10 <| .op 11 <| .op 12 <| .op 13 <| .op 14 <| .op 15 <| .op 16 <| .op 17 <| .op 18 <| .op 19 <| .op 20 <| .op 21 <| .op 22 <| .op 23 <| .op 24 <| .op 25 <| .op 26 <| .op 27 <| .op 28 <| .op 29 <| .op 30 .z) [] [] [] [blkF b (undK x p pl) 94] (by kernel_rfl) (by kernel_rfl) rfl (by simp) (by simp) ?_
    intro N
    exact endR_ok [] rfl rfl ⟨rfl, rfl⟩ rfl (fun _ => ⟨rfl, rfl⟩) (by simp)
  refine cjs_drawn [13, 27] (.op 0 <| .op 1 <| .op 2 <| .op 3 <| .op 4 <| .op 5 <| .op 6 <| .op 7 <| .op 8 <| .op 9 <| .op 10 <| .op 11 <| .op 12 <| .op 13 <| .op 14 <| .op 15 <| .op 16 <| .op 17 <| .op 18 <| .op 19 <| .op 20 <| .op 21 <| .op 22 <| .op 23 <| .op 24 <| .op 25 <| .op 26 <| .op 27 <| .op 28 <| .op 29 <| .op 30 .z) [] [] [] [blkF b (undK x p pl) 94] (by kernel_rfl) (by kernel_rfl) rfl (by simp) (by simp) ?_
  intro N
  refine ⟨_, yd_loadFN (vs := [.int .i64 pl.n, .int .i64 pl.l, .int .i64 pl.s]) (cs := undK x p pl) (b := b) (ct := 94) (by simp) rfl rfl rfl rfl, ?_⟩
  refine ⟨_, yd_loadF1 (cs := undK x p pl) (b := b) (ct := 94) (by simp) rfl rfl rfl rfl, ?_⟩
  refine ojs_call [] [] rfl rfl rfl rfl rfl rfl rfl (by simp) (fun _ => slotCheck_c pl.n pl.l pl.s p.a5 p.c5 x.slots hx.2.2.1) (by simp) (.inl rfl) ?_
  rintro e cs F1 _ ⟨rfl, rfl⟩
  refine ⟨⟨(by repeat' (first | exact trivial | refine ⟨Or.inl rfl, ?_⟩ | refine ⟨Or.inr ⟨rfl, Nat.le_of_ble_eq_true rfl, _, rfl, rfl, rfl⟩, ?_⟩)), by simp⟩, ?_⟩
  unfold slotsE
  cases slotsB pl.n pl.l pl.s x.slots
  · exact endR_ok [] rfl rfl ⟨rfl, rfl⟩ rfl (fun _ => ⟨rfl, rfl⟩) (by simp)
  refine ⟨_, yd_loadFN (vs := [.int .i64 pl.n, .int .i64 pl.l, .int .i64 pl.s]) (cs := undK x p pl) (b := b) (ct := 94) (by simp) rfl rfl rfl rfl, ?_⟩
  refine ⟨_, yd_loadFN (vs := ownL x.own) (cs := undK x p pl) (b := b) (ct := 94) (by simp) rfl rfl rfl rfl, ?_⟩
  refine ojs_call [] [] rfl rfl rfl rfl rfl rfl rfl (by simp) (fun _ => ownerCheck_c pl.n pl.l pl.s x.own) (by simp) (.inl rfl) ?_
  rintro e cs F1 _ ⟨rfl, rfl⟩
  refine ⟨⟨(by repeat' (first | exact trivial | refine ⟨Or.inl rfl, ?_⟩ | refine ⟨Or.inr ⟨rfl, Nat.le_of_ble_eq_true rfl, _, rfl, rfl, rfl⟩, ?_⟩)), by simp⟩, ?_⟩
  unfold ownE
  cases ownB pl.n pl.l pl.s x.own
  · exact endR_ok [] rfl rfl ⟨rfl, rfl⟩ rfl (fun _ => ⟨rfl, rfl⟩) (by simp)
  · exact endR_ok [] rfl rfl ⟨rfl, rfl⟩ rfl (fun _ => ⟨rfl, rfl⟩) (by simp)
end Go.Proofs.YtmhnlkakbadkgaaGreat
