/- Part 29 of the proof of LockBacks: contracts of functions that the law reaches, or the rules by which they are walked. No condition. -/
import Derived.Test.YtmhnlkakbadkgaaGreatPkbb
namespace Go.Proofs.YtmhnlkakbadkgaaGreat
open Go.RowKit Go.Shelf
set_option maxRecDepth 100000
theorem valM_seq (a : Option Addr) (cap : Nat) (xs : List Int) (b : Nat) (hl : xs.length ≤ 1000000) : SeqC Tryz.prog 329 [.pointer (some ⟨b, 0, none⟩)] [blkF b [.slice a xs.length cap] 271, slF encI 1 (.slice a xs.length cap) xs] encI xs := by
  refine seq_of (tab := tb) (ok := tbOk) [.o (.v (.pointer (some ⟨b, 0, none⟩)))] Tryz.func329 Tryz.ntmps329 rfl rfl (fun _ => rfl) ?_
  intro S
  refine ojs_load1 (S.inF (blkF b [.slice a xs.length cap] 271)) (by simp) (fun A w h => blk_cell (o := 0) rfl _ w h.2) rfl rfl rfl ?_
  refine cjs_loopX (γ := Nat) (fun k => k ≤ xs.length) (fun k => [(7, .o (.v (.int .i64 k)))]) (fun _ => []) (fun k => [S.jF k, S.inF (slF encI 1 (.slice a xs.length cap) xs)]) (fun k => xs.length - k) 0 (Nat.zero_le _) (wk_patch (by repeat' (first | exact trivial | exact Or.inl rfl | refine Or.inr ⟨?_, ?_⟩ | rfl | refine ⟨?_, ?_⟩ | exact lt_all_v)) (by repeat' (first | exact trivial | exact Or.inl rfl | refine Or.inr ⟨?_, ?_⟩ | rfl | refine ⟨?_, ?_⟩ | exact lt_all_v)) (by simp) (by simp [It.X]) D_nil) ?_
  intro k hk
  refine brB_dec (fun h1 => ?_) (fun h1 => ?_)
  · obtain ⟨x, hx⟩ := at_some (xs := xs) (k := k) (by omega)
    refine ojs_fact (S.inF (slF encI 1 (.slice a xs.length cap) xs)) (by simp) (fun A w h => slF_neE hx _ w h.2) ?_
    rintro ⟨b1, off, rfl⟩
    refine ojs_index rfl (by omega) rfl rfl rfl rfl ?_
    refine ojs_load1 (S.inF (slF encI 1 (.slice (some ⟨b1, off, none⟩) xs.length cap) xs)) (by simp) (fun A w h => slF_at hx (j := 0) rfl _ w h.2) rfl rfl rfl ?_
    refine ojs_yield k [slF encI 1 (.slice (some ⟨b1, off, none⟩) xs.length cap) xs] rfl rfl rfl rfl hx (fun _ => rfl) (by simp) (by simp) ?_ ?_
    · refine ojs_arith (z := ((k + 1 : Nat) : Int)) (by first | decide | (rw [wrap_in] <;> omega) | (dsimp only; rw [wrap_in] <;> omega)) rfl rfl rfl rfl ?_
      exact ⟨k + 1, by omega, (by first | omega | (dsimp only; omega)), wk_patch (by repeat' (first | exact trivial | exact Or.inl rfl | refine Or.inr ⟨?_, ?_⟩ | rfl | refine ⟨?_, ?_⟩ | exact lt_all_v)) (by repeat' (first | exact trivial | exact Or.inl rfl | refine Or.inr ⟨?_, ?_⟩ | rfl | refine ⟨?_, ?_⟩ | exact lt_all_v)) (by simp) (by simp [It.X]) D_nil⟩
    · exact endS_stop (k + 1) (by simp) (by omega) (by omega) rfl rfl
  · obtain rfl : k = xs.length := by omega
    exact endS_done (by simp) rfl rfl
theorem valM_c (a : Option Addr) (m cap : Nat) : Cm Tryz.prog 323 [.slice a m cap] [] [] (fun e _ F1 => ∃ b, e = .returned (.func (.func 329) #[] #[.pointer (some ⟨b, 0, none⟩)]) ∧ F1 = [blkF b [.slice a m cap] 271]) := by
  refine cm_of (tab := tb) (ok := tbOk) [.o (.v (.slice a m cap))] Tryz.func323 Tryz.ntmps323 rfl rfl (fun _ _ => rfl) ?_
  intro w0 A0
  exact endR_seal [0] [] rfl rfl rfl rfl ⟨rfl, rfl⟩ rfl (fun ρ => ⟨ρ 0, rfl, rfl⟩) (by simp)
theorem together1_c (is : Bool) (m x : Int) (b : Nat) (hm : modeB m = true) (hx : modeB x = true) : Cm Tryz.prog 308 [.bool is, .int .i64 x, .pointer (some ⟨b, 0, none⟩)] [] [blkF b [.int .i64 m] 63] (rets (.bool (is && fitsM m x))) := by
  refine cm_of (tab := tb) (ok := tbOk) [.o (.v (.bool is)), .o (.v (.int .i64 x)), .o (.v (.pointer (some ⟨b, 0, none⟩)))] Tryz.func308 Tryz.ntmps308 rfl rfl (fun _ _ => rfl) ?_
  intro w0 A0
  refine ojs_loadF1 (cs := [.int .i64 m]) (b := b) (ct := 63) (by simp) rfl rfl rfl rfl ?_
  have h := modeFits_c m x
  rw [hm, hx] at h
  simp only [Bool.true_and, Bool.and_self, cond_true] at h
  refine ojs_call [] [] rfl rfl rfl rfl rfl rfl rfl (by simp) (fun _ => h) (by simp) (.inl rfl) ?_
  rintro e cs F1 _ ⟨rfl, rfl⟩
  cases is
  · exact endR_ok [] rfl rfl ⟨rfl, rfl⟩ rfl (fun _ => ⟨rfl, rfl⟩) (by simp)
  · exact endR_ok [] rfl rfl ⟨rfl, rfl⟩ rfl (fun _ => ⟨rfl, rfl⟩) (by simp)
theorem foldM_c (is : Bool) (m : Int) (b : Nat) (a : Option Addr) (n cap : Nat) (xs : List Int) (hn : n = xs.length) (hl : xs.length ≤ 1000000) (hm : modeB m = true) (hx : xs.all modeB = true) :
    Cm Tryz.prog 307 [.bool is, .slice a n cap, .func (.func 308) #[] #[.pointer (some ⟨b, 0, none⟩)]] [] [blkF b [.int .i64 m] 63, slF encI 1 (.slice a n cap) xs] (rets (.bool (is && xs.all (fitsM m)))) := by
  subst hn
  refine cm_ofD (tab := tb) (ok := tbOk) [.o (.v (.bool is)), .o (.v (.slice a xs.length cap)), .o (.v (.func (.func 308) #[] #[.pointer (some ⟨b, 0, none⟩)]))] Tryz.func307 Tryz.ntmps307 rfl rfl (fun _ _ => rfl) ?_
  intro w0 A0
  refine ojs_call [] [] rfl rfl rfl rfl rfl rfl rfl (by simp) (fun _ => valM_c a xs.length cap) (by simp) (.inl rfl) ?_
  rintro e cs F1 _ ⟨b2, rfl, rfl⟩
  refine cjs_range (γ := Unit) (fun _ _ => True) (fun k _ => ([(0, .c [.v (.bool (is && (xs.take k).all (fitsM m)))] 4), (1, .c [.v (.func (.func 308) #[] #[.pointer (some ⟨b, 0, none⟩)])] 387)], [blkF b2 [.slice a xs.length cap] 271, slF encI 1 (.slice a xs.length cap) xs, blkF b [.int .i64 m] 63])) () (valM_seq a cap xs b2 hl) rfl rfl rfl (fun _ => rfl) rfl (Nat.zero_le _) trivial ?_ (by simp) ?_ ?_
  · have e : (is && (xs.take 0).all (fitsM m)) = is := by simp
    simp only [e]
    exact wk_patch (by repeat' (first | exact trivial | exact Or.inl rfl | refine Or.inr ⟨?_, ?_⟩ | rfl | refine ⟨?_, ?_⟩ | exact lt_all_v)) (by repeat' (first | exact trivial | exact Or.inl rfl | refine Or.inr ⟨?_, ?_⟩ | rfl | refine ⟨?_, ?_⟩ | exact lt_all_v)) (by simp) (by simp) D_nil
  · rintro k x - hxk - l1 w1 A1 M1 N1 hN1
    have hkl := (List.getElem?_eq_some_iff.1 hxk).1
    intro w2 A2 M2 N2 hN2
    refine ⟨rfl, ?_⟩
    refine ojs_call [] [] rfl rfl rfl rfl rfl rfl rfl (by simp) (fun _ => together1_c (is && (xs.take k).all (fitsM m)) m x b hm (List.all_eq_true.1 hx x (List.mem_of_getElem? hxk))) (by simp) (.inl rfl) ?_
    rintro e cs F1 _ ⟨rfl, rfl⟩
    refine ⟨(), trivial, ?_⟩
    have e : (is && (xs.take (k + 1)).all (fitsM m)) = (is && (xs.take k).all (fitsM m) && fitsM m x) := by
      rw [List.take_add_one, hxk]
      simp [List.all_append, Bool.and_assoc]
    simp only [e]
    exact wk_patch (by repeat' (first | exact trivial | exact Or.inl rfl | refine Or.inr ⟨?_, ?_⟩ | rfl | refine ⟨?_, ?_⟩ | exact lt_all_v)) (by repeat' (first | exact trivial | exact Or.inl rfl | refine Or.inr ⟨?_, ?_⟩ | rfl | refine ⟨?_, ?_⟩ | exact lt_all_v)) (by simp) (Nat.le_of_eq hN2) D_nil
  · rintro - -
    have e : (is && (xs.take xs.length).all (fitsM m)) = (is && xs.all (fitsM m)) := by rw [List.take_length]
    simp only [e]
    refine lv_of (lv_mark ret_ne rfl ?_)
    exact lv_ret (endR_ok [] rfl rfl ⟨rfl, rfl⟩ rfl (fun _ => ⟨rfl, rfl⟩) (by simp))
def togB (xs : List Int) : Bool := decide (xs.Pairwise fun a b => fitsM b a = true)
theorem togB_snoc {l : List Int} {x : Int} : togB (l ++ [x]) = (togB l && l.all (fitsM x)) := by
  rw [Bool.eq_iff_iff]
  simp [togB, List.pairwise_append]
def togX (xs : List Int) : Value := bif xs.all modeB then .tuple #[.bool (togB xs), .int .i64 0] else .tuple #[.bool false, .int .i64 130]
theorem slF_takeN {α : Type} {enc : α → List Value} {k m n cap : Nat} {a : Option Addr} {xs : List α} (hn : n ≤ xs.length) {A : Nat → Prop} {w : World} (h : (slF enc k (.slice a m cap) xs).h A w) : (slF enc k (.slice a n cap) (xs.take n)).h A w := by
  rw [← List.take_append_drop n xs] at h
  have := slF_take h
  rwa [List.length_take, Nat.min_eq_left hn] at this
theorem together_c (a : Option Addr) (cap : Nat) (xs : List Int) (hl : xs.length ≤ 1000000) : Cm Tryz.prog 294 [.slice a xs.length cap] [] [slF encI 1 (.slice a xs.length cap) xs] (rets (togX xs)) := by
  refine cm_of (tab := tb) (ok := tbOk) [.o (.v (.slice a xs.length cap))] Tryz.func294 Tryz.ntmps294 rfl rfl (fun _ _ => rfl) ?_
  intro w0 A0
  refine cjs_loopP (γ := Nat) (fun k => k ≤ xs.length ∧ (xs.take k).all modeB = true) (fun k => [(10, .o (.v (.int .i64 k))), (4, .o (.v (.bool (togB (xs.take k)))))]) (fun _ => []) (fun _ => []) (fun k => xs.length - k) 0 ⟨Nat.zero_le _, rfl⟩ ?_ ?_
  · have e : togB (xs.take 0) = true := by simp [togB]
    simp only [e]
    exact wk_patch (by repeat' (first | exact trivial | exact Or.inl rfl | refine Or.inr ⟨?_, ?_⟩ | rfl | refine ⟨?_, ?_⟩ | exact lt_all_v)) (by repeat' (first | exact trivial | exact Or.inl rfl | refine Or.inr ⟨?_, ?_⟩ | rfl | refine ⟨?_, ?_⟩ | exact lt_all_v)) (fun f hf => hf) (by simp) D_nil
  rintro k ⟨hk, hall⟩
  refine brB_dec (fun h1 => ?_) (fun h1 => ?_)
  rotate_left
  · obtain rfl : k = xs.length := by omega
    rw [List.take_length] at hall
    have e : togX xs = .tuple #[.bool (togB (xs.take xs.length)), .int .i64 0] := by rw [List.take_length, togX, hall]; rfl
    rw [e]
    exact endR_ok [] rfl rfl ⟨rfl, rfl⟩ rfl (fun _ => ⟨rfl, rfl⟩) (by simp)
  obtain ⟨x, hx⟩ := at_some (xs := xs) (k := k) (by omega)
  refine ojs_fact (p := k ≤ cap) (slF encI 1 (.slice a xs.length cap) xs) (by simp) (fun A w h => by have := (slF_len h).2; omega) (fun hcap => ?_)
  refine ojs_fact (slF encI 1 (.slice a xs.length cap) xs) (by simp) (slF_neE hx) ?_
  rintro ⟨b, off, rfl⟩
  refine ojs_index rfl (by omega) rfl rfl rfl rfl ?_
  refine ojs_load1 (slF encI 1 (.slice (some ⟨b, off, none⟩) xs.length cap) xs) (by simp) (slF_at hx (j := 0) rfl) rfl rfl rfl ?_
  refine ojs_call [] [] rfl rfl rfl rfl rfl rfl rfl (by simp) (fun _ => modeCheck_c x) (by simp) (.inl rfl) ?_
  rintro e cs F1 _ ⟨rfl, rfl⟩
  unfold modeE
  cases hm : modeB x
  · have e : togX xs = .tuple #[.bool false, .int .i64 130] := by rw [togX, all_noE hx hm]; rfl
    rw [e]
    exact endR_ok [] rfl rfl ⟨rfl, rfl⟩ rfl (fun _ => ⟨rfl, rfl⟩) (by simp)
  refine ojs_sliceH (i := k) rfl hcap rfl rfl rfl rfl ?_
  refine ojs_call (F0 := [slF encI 1 (.slice (some ⟨b, off, none⟩) xs.length cap) xs]) [0] [] rfl rfl rfl rfl rfl rfl rfl (by simp) (fun ρ => (foldM_c (togB (xs.take k)) x (ρ 0) (some ⟨b, off, none⟩) k cap (xs.take k) (by rw [List.length_take]; omega) (by rw [List.length_take]; omega) hm hall).facts (fun A w h f hf => by
    simp only [List.mem_cons, List.not_mem_nil, or_false] at hf
    rcases hf with rfl | rfl
    · exact h _ (by simp [lentV]; exact .inl rfl)
    · exact slF_takeN hk (h (slF encI 1 (.slice (some ⟨b, off, none⟩) xs.length cap) xs) (by simp [lentV])))) (by simp) (.inr (by rintro e cs F1 ⟨_, rfl⟩; rfl)) ?_
  rintro e cs F1 _ ⟨rfl, rfl⟩
  refine ojs_arith (z := ((k + 1 : Nat) : Int)) (by first | decide | (rw [wrap_in] <;> omega) | (dsimp only; rw [wrap_in] <;> omega)) rfl rfl rfl rfl ?_
  refine ⟨k + 1, ⟨by omega, by rw [List.take_add_one, hx]; simp [List.all_append, hall]; simpa using hm⟩, (by first | omega | (dsimp only; omega)), ?_⟩
  have e : togB (xs.take (k + 1)) = (togB (xs.take k) && (xs.take k).all (fitsM x)) := by rw [List.take_add_one, hx]; exact togB_snoc
  simp only [e]
  exact wk_patch (by repeat' (first | exact trivial | exact Or.inl rfl | refine Or.inr ⟨?_, ?_⟩ | rfl | refine ⟨?_, ?_⟩ | exact lt_all_v)) (by repeat' (first | exact trivial | exact Or.inl rfl | refine Or.inr ⟨?_, ?_⟩ | rfl | refine ⟨?_, ?_⟩ | exact lt_all_v)) (fun f hf => hf) (by simp) D_nil
theorem refFits_c (a b : Int) : Cm Tryz.prog 228 [.int .i64 a, .int .i64 b] [] [] (rets (.bool (fitsM a b))) := by
  refine cm_of (tab := tb) (ok := tbOk) [.o (.v (.int .i64 a)), .o (.v (.int .i64 b))] Tryz.func228 Tryz.ntmps228 rfl rfl (fun _ _ => rfl) ?_
  intro w0 A0
  repeat' (first | refine brB_dec (fun _ => ?_) (fun _ => ?_) | refine brB_split (fun _ => ?_) (fun _ => ?_) | (refine endR_ok [] rfl rfl ⟨rfl, rfl⟩ rfl (fun _ => ⟨ret_bool ?_, rfl⟩) (by simp); (rw [Bool.eq_iff_iff]; simp [fitsM] at * <;> (try dsimp only at *) <;> first | omega | (simp_all; done) | (simp_all; omega))) | fail)
end Go.Proofs.YtmhnlkakbadkgaaGreat
namespace Go.Proofs.YtmhnlkakbadkgaaGreat
open Go.RowKit Go.Shelf
set_option maxRecDepth 100000
structure Hd where
  site : Int
  use : Int
  mode : Int
def hdL (x : Hd) : List Value := [.int .i64 x.site, .int .i64 x.use, .int .i64 x.mode]
theorem hdL_len : ∀ x, (hdL x).length = 3 := fun _ => rfl
def hdB (x : Hd) : Bool := (decide (0 ≤ x.site) && decide (x.site ≤ 255)) && (decide (1 ≤ x.use) && decide (x.use ≤ 1099511627776)) && (decide (1 ≤ x.mode) && decide (x.mode ≤ 5))
theorem holdMay_c (x : Hd) : Cm Tryz.prog 246 [.agg (hdL x).toArray] [] [] (rets (.bool (hdB x))) := by
  obtain ⟨site, use, mode⟩ := x
  refine cm_of (tab := tb) (ok := tbOk) [.g [.v (.int .i64 site), .v (.int .i64 use), .v (.int .i64 mode)]] Tryz.func246 Tryz.ntmps246 rfl rfl (fun _ _ => rfl) ?_
  intro w0 A0
  refine ojs_yd (u := .g [.v (.int .i64 site), .v (.int .i64 0), .v (.int .i64 255), .v (.int .i64 use), .v (.int .i64 1), .v (.int .i64 1099511627776), .v (.int .i64 mode), .v (.int .i64 1), .v (.int .i64 5)]) (yd_buildA rfl rfl rfl rfl rfl) rfl ?_
  refine cjs_turns 4 ?_
  refine ojs_yd (yd_arrIdx (i := 0) (m := 3) rfl (by decide) rfl rfl rfl rfl rfl rfl) rfl ?_
  refine brB_dec (fun _ => ?_) (fun _ => ?_)
  · exact endR_ok [] rfl rfl ⟨rfl, rfl⟩ rfl (fun _ => ⟨ret_bool (by cases hcb : hdB _ <;> first | rfl | (exfalso; simp [hdB] at hcb; (try dsimp only at *); omega)), rfl⟩) (by simp)
  refine brB_dec (fun _ => ?_) (fun _ => ?_)
  · exact endR_ok [] rfl rfl ⟨rfl, rfl⟩ rfl (fun _ => ⟨ret_bool (by cases hcb : hdB _ <;> first | rfl | (exfalso; simp [hdB] at hcb; (try dsimp only at *); omega)), rfl⟩) (by simp)
  refine ojs_arith (z := 1) (by decide) rfl rfl rfl rfl ?_
  refine ojs_yd (yd_arrIdx (i := 1) (m := 3) rfl (by decide) rfl rfl rfl rfl rfl rfl) rfl ?_
  refine brB_dec (fun _ => ?_) (fun _ => ?_)
  · exact endR_ok [] rfl rfl ⟨rfl, rfl⟩ rfl (fun _ => ⟨ret_bool (by cases hcb : hdB _ <;> first | rfl | (exfalso; simp [hdB] at hcb; (try dsimp only at *); omega)), rfl⟩) (by simp)
  refine brB_dec (fun _ => ?_) (fun _ => ?_)
  · exact endR_ok [] rfl rfl ⟨rfl, rfl⟩ rfl (fun _ => ⟨ret_bool (by cases hcb : hdB _ <;> first | rfl | (exfalso; simp [hdB] at hcb; (try dsimp only at *); omega)), rfl⟩) (by simp)
  refine ojs_arith (z := 2) (by decide) rfl rfl rfl rfl ?_
  refine ojs_yd (yd_arrIdx (i := 2) (m := 3) rfl (by decide) rfl rfl rfl rfl rfl rfl) rfl ?_
  refine brB_dec (fun _ => ?_) (fun _ => ?_)
  · exact endR_ok [] rfl rfl ⟨rfl, rfl⟩ rfl (fun _ => ⟨ret_bool (by cases hcb : hdB _ <;> first | rfl | (exfalso; simp [hdB] at hcb; (try dsimp only at *); omega)), rfl⟩) (by simp)
  refine brB_dec (fun _ => ?_) (fun _ => ?_)
  · exact endR_ok [] rfl rfl ⟨rfl, rfl⟩ rfl (fun _ => ⟨ret_bool (by cases hcb : hdB _ <;> first | rfl | (exfalso; simp [hdB] at hcb; (try dsimp only at *); omega)), rfl⟩) (by simp)
  refine ojs_arith (z := 3) (by decide) rfl rfl rfl rfl ?_
  exact endR_ok [] rfl rfl ⟨rfl, rfl⟩ rfl (fun _ => ⟨ret_bool (by cases hcb : hdB _ <;> first | rfl | (exfalso; simp [hdB] at hcb; (try dsimp only at *); omega)), rfl⟩) (by simp)
def cmpI (a b : Int) : Int := if a < b then -1 else if b < a then 1 else 0
theorem isNaN_c (a : Int) : Cm Tryz.prog 305 [.int .i64 a] [] [] (rets (.bool false)) := by
  refine cm_of (tab := tb) (ok := tbOk) [.o (.v (.int .i64 a))] Tryz.func305 Tryz.ntmps305 rfl rfl (fun _ _ => rfl) ?_
  intro w0 A0
  exact endR_ok [] rfl rfl ⟨rfl, rfl⟩ rfl (fun _ => ⟨ret_bool (by (simp)), rfl⟩) (by simp)
theorem compareI_c (a b : Int) : Cm Tryz.prog 289 [.int .i64 a, .int .i64 b] [] [] (rets (.int .i64 (cmpI a b))) := by
  refine cm_of (tab := tb) (ok := tbOk) [.o (.v (.int .i64 a)), .o (.v (.int .i64 b))] Tryz.func289 Tryz.ntmps289 rfl rfl (fun _ _ => rfl) ?_
  intro w0 A0
  refine ojs_call [] [] rfl rfl rfl rfl rfl rfl rfl (by simp) (fun _ => isNaN_c a) (by simp) (.inl rfl) ?_
  rintro e cs F1 _ ⟨rfl, rfl⟩
  refine ojs_call [] [] rfl rfl rfl rfl rfl rfl rfl (by simp) (fun _ => isNaN_c b) (by simp) (.inl rfl) ?_
  rintro e cs F1 _ ⟨rfl, rfl⟩
  unfold cmpI
  refine brB_dec (fun h1 => ?_) (fun h1 => ?_)
  · rw [if_pos h1]
    exact endR_ok [] rfl rfl ⟨rfl, rfl⟩ rfl (fun _ => ⟨rfl, rfl⟩) (by simp)
  rw [if_neg h1]
  refine brB_dec (fun h2 => ?_) (fun h2 => ?_)
  · rw [if_pos h2]
    exact endR_ok [] rfl rfl ⟨rfl, rfl⟩ rfl (fun _ => ⟨rfl, rfl⟩) (by simp)
  rw [if_neg h2]
  exact endR_ok [] rfl rfl ⟨rfl, rfl⟩ rfl (fun _ => ⟨rfl, rfl⟩) (by simp)
theorem holdAhead_c (x y : Hd) : Cm Tryz.prog 250 [.agg (hdL x).toArray, .agg (hdL y).toArray] [] [] (rets (.int .i64 (cmpI x.site y.site))) := by
  refine cm_of (tab := tb) (ok := tbOk) [.g [.v (.int .i64 x.site), .v (.int .i64 x.use), .v (.int .i64 x.mode)], .g [.v (.int .i64 y.site), .v (.int .i64 y.use), .v (.int .i64 y.mode)]] Tryz.func250 Tryz.ntmps250 rfl rfl (fun _ _ => rfl) ?_
  intro w0 A0
  refine ojs_call [] [] rfl rfl rfl rfl rfl rfl rfl (by simp) (fun _ => compareI_c x.site y.site) (by simp) (.inl rfl) ?_
  rintro e cs F1 _ ⟨rfl, rfl⟩
  exact endR_ok [] rfl rfl ⟨rfl, rfl⟩ rfl (fun _ => ⟨rfl, rfl⟩) (by simp)
def modesH (xs : List Hd) : List Int := xs.map Hd.mode
theorem modesH_snoc {xs : List Hd} {k : Nat} {x : Hd} (hx : xs[k]? = some x) : (modesH (xs.take (k + 1))).flatMap encI = (modesH (xs.take k)).flatMap encI ++ [.int .i64 x.mode] := by
  rw [List.take_add_one, hx]
  simp [modesH, encI]
def modesR (xs : List Hd) : OutT := fun e _ F1 => ∃ a c, e = .returned (.slice a xs.length c) ∧ F1 = [slF encI 1 (.slice a xs.length c) (modesH xs)]
theorem holdModes_c (a : Option Addr) (cap : Nat) (xs : List Hd) (hl : xs.length ≤ 1000000) : Cm Tryz.prog 243 [.agg #[.slice a xs.length cap]] [] [slF hdL 3 (.slice a xs.length cap) xs] (modesR xs) := by
  refine cm_of (tab := tb) (ok := tbOk) [.g [.v (.slice a xs.length cap)]] Tryz.func243 Tryz.ntmps243 rfl rfl (fun _ _ => rfl) ?_
  intro w0 A0
  refine cjs_weak (wk_own 63 1) ?_
  refine cjs_loopP (γ := Nat × Option Addr × Nat) (fun g => g.1 ≤ xs.length) (fun g => [(8, .o (.v (.int .i64 g.1))), (2, .o (.v (.slice g.2.1 g.1 g.2.2)))]) (fun g => [(1, .own (.slice g.2.1 g.1 g.2.2) 63 1 g.1 ((modesH (xs.take g.1)).flatMap encI))]) (fun _ => []) (fun g => xs.length - g.1) (0, none, 0) (Nat.zero_le _) (wk_patch (by repeat' (first | exact trivial | exact Or.inl rfl | refine Or.inr ⟨?_, ?_⟩ | rfl | refine ⟨?_, ?_⟩ | exact lt_all_v)) (by repeat' (first | exact trivial | exact Or.inl rfl | refine Or.inr ⟨?_, ?_⟩ | rfl | refine ⟨?_, ?_⟩ | exact lt_all_v)) (fun f hf => hf) (by simp) D_nil) ?_
  rintro ⟨k, a1, c1⟩ hk
  simp only at hk
  refine brB_dec (fun h1 => ?_) (fun h1 => ?_)
  rotate_left
  · obtain rfl : k = xs.length := by dsimp only at h1; omega
    refine endR_weak (wk_seal (j := 1) (v := .slice a1 xs.length c1) (m := xs.length) (enc := encI) (xs := modesH xs) (.inl rfl) (fun _ => rfl) (by simp [modesH]) (by rw [← List.take_length (l := xs)]; simp only [List.take_length]; rfl)) ?_
    exact endR_ok [slF encI 1 (.slice a1 xs.length c1) (modesH xs)] rfl rfl ⟨rfl, rfl⟩ rfl (fun _ => ⟨a1, c1, rfl, rfl⟩) (by simp)
  obtain ⟨x, hx⟩ := at_some (xs := xs) (k := k) (by dsimp only at h1; omega)
  refine ojs_fact (slF hdL 3 (.slice a xs.length cap) xs) (by simp) (slF_neE hx) ?_
  rintro ⟨b, off, rfl⟩
  refine ojs_index (i := k) rfl (by dsimp only at h1; omega) rfl rfl rfl rfl ?_
  refine ojs_loadN (vs := hdL x) (slF hdL 3 (.slice (some ⟨b, off, none⟩) xs.length cap) xs) (by simp) (slF_atN hx) rfl rfl rfl ?_
  refine ojs_append 1 (m' := 1) (news := [.int .i64 x.mode]) rfl rfl rfl rfl rfl rfl rfl rfl rfl (by decide) rfl rfl rfl (srcL (news := [.int .i64 x.mode]) rfl rfl) rfl (by simp [Value.oneCell']) (by omega) (by simp only [maxLen]; omega) ?_
  intro a2 c2
  refine ojs_arith (z := ((k + 1 : Nat) : Int)) (by first | decide | (rw [wrap_in] <;> omega) | (dsimp only; rw [wrap_in] <;> omega)) rfl rfl rfl rfl ?_
  refine ⟨(k + 1, a2, c2), by dsimp only at h1; dsimp only; omega, by dsimp only at h1; dsimp only; omega, ?_⟩
  simp only [modesH_snoc hx]
  exact wk_patch (by repeat' (first | exact trivial | exact Or.inl rfl | refine Or.inr ⟨?_, ?_⟩ | rfl | refine ⟨?_, ?_⟩ | exact lt_all_v)) (by repeat' (first | exact trivial | exact Or.inl rfl | refine Or.inr ⟨?_, ?_⟩ | rfl | refine ⟨?_, ?_⟩ | exact lt_all_v)) (fun f hf => hf) (by simp) D_nil
end Go.Proofs.YtmhnlkakbadkgaaGreat
namespace Go.Proofs.YtmhnlkakbadkgaaGreat
open Go.RowKit Go.Shelf
set_option maxRecDepth 100000
def riseB (xs : List Hd) : Bool := decide (xs.Pairwise fun a b => a.site < b.site)
def holdB (xs : List Hd) : Bool := xs.all hdB && riseB xs && togB (modesH xs)
theorem rise_snoc {xs : List Hd} {k : Nat} {x : Hd} (hx : xs[k]? = some x) (h : (xs.take k).Pairwise fun a b => a.site < b.site) (h2 : ∀ y, 0 < k → xs[k - 1]? = some y → y.site < x.site) : (xs.take (k + 1)).Pairwise fun a b => a.site < b.site := by
  rw [List.take_add_one, hx]
  simp only [Option.toList_some]
  rw [List.pairwise_append]
  refine ⟨h, List.pairwise_singleton _ _, fun a ha b hb => ?_⟩
  rw [List.mem_singleton] at hb
  subst hb
  obtain ⟨j, hj⟩ := List.mem_iff_getElem?.1 ha
  have hjl := (List.getElem?_eq_some_iff.1 hj).1
  have hkl := (List.getElem?_eq_some_iff.1 hx).1
  rw [List.length_take] at hjl
  have hl : (xs.take k)[k - 1]? = xs[k - 1]? := List.getElem?_take_of_lt (by omega)
  obtain ⟨y, hy⟩ := at_some (xs := xs) (k := k - 1) (by omega)
  have h3 := h2 y (by omega) hy
  by_cases he : j = k - 1
  · subst he
    rw [hl, hy] at hj
    cases hj
    exact h3
  · have h4 := List.pairwise_iff_getElem.1 h j (k - 1) (by rw [List.length_take]; omega) (by rw [List.length_take]; omega) (by omega)
    rw [(List.getElem?_eq_some_iff.1 hj).2, (List.getElem?_eq_some_iff.1 (hl.trans hy)).2] at h4
    omega
theorem holdB_no {xs : List Hd} {k : Nat} {x : Hd} (hx : xs[k]? = some x) (h : hdB x = false ∨ ∃ y, 0 < k ∧ xs[k - 1]? = some y ∧ x.site ≤ y.site) : holdB xs = false := by
  rw [Bool.eq_false_iff]
  intro hw
  simp only [holdB, riseB, Bool.and_eq_true, decide_eq_true_eq] at hw
  rcases h with h | ⟨y, h0, hy, hs⟩
  · rw [List.all_eq_true.1 hw.1.1 x (List.mem_of_getElem? hx)] at h
    cases h
  · obtain ⟨h1, e1⟩ := List.getElem?_eq_some_iff.1 hy
    obtain ⟨h2, e2⟩ := List.getElem?_eq_some_iff.1 hx
    have := List.pairwise_iff_getElem.1 hw.1.2 (k - 1) k h1 h2 (by omega)
    rw [e1, e2] at this
    omega
theorem modes_all {xs : List Hd} (h : xs.all hdB = true) : (modesH xs).all modeB = true := by
  rw [List.all_eq_true]
  intro m hm
  obtain ⟨x, hx, rfl⟩ := List.mem_map.1 hm
  have := List.all_eq_true.1 h x hx
  simp only [hdB, Bool.and_eq_true, decide_eq_true_eq] at this
  simp [modeB]
  omega
set_option maxHeartbeats 2000000 in
theorem holdRight_c (a : Option Addr) (cap : Nat) (xs : List Hd) (hl : xs.length ≤ 1000000) : Cm Tryz.prog 259 [.agg #[.slice a xs.length cap]] [] [slF hdL 3 (.slice a xs.length cap) xs] (rets (.bool (holdB xs))) := by
  refine cm_of (tab := tb) (ok := tbOk) [.g [.v (.slice a xs.length cap)]] Tryz.func259 Tryz.ntmps259 rfl rfl (fun _ _ => rfl) ?_
  intro w0 A0
  refine cjs_loopP (γ := Nat) (fun k => k ≤ xs.length ∧ (xs.take k).all hdB = true ∧ (xs.take k).Pairwise fun a b => a.site < b.site) (fun k => [(11, .o (.v (.int .i64 k)))]) (fun _ => []) (fun _ => []) (fun k => xs.length - k) 0 ⟨Nat.zero_le _, rfl, List.Pairwise.nil⟩ (wk_patch (by repeat' (first | exact trivial | exact Or.inl rfl | refine Or.inr ⟨?_, ?_⟩ | rfl | refine ⟨?_, ?_⟩ | exact lt_all_v)) (by repeat' (first | exact trivial | exact Or.inl rfl | refine Or.inr ⟨?_, ?_⟩ | rfl | refine ⟨?_, ?_⟩ | exact lt_all_v)) (fun f hf => hf) (by simp) D_nil) ?_
  rintro k ⟨hk, hall, hri⟩
  refine brB_dec (fun h1 => ?_) (fun h1 => ?_)
  rotate_left
  · obtain rfl : k = xs.length := by omega
    rw [List.take_length] at hall hri
    refine ojs_call [] [] rfl rfl rfl rfl rfl rfl rfl (by simp) (fun _ => holdModes_c a cap xs hl) (by simp) (.inl rfl) ?_
    rintro e cs F1 _ ⟨a1, c1, rfl, rfl⟩
    have hml : (modesH xs).length = xs.length := by simp [modesH]
    have hT := together_c a1 c1 (modesH xs) (by omega)
    rw [togX, modes_all hall, hml] at hT
    have e : holdB xs = togB (modesH xs) := by simp [holdB, riseB, hri]; intro h x hx; exact List.all_eq_true.1 hall x hx
    rw [e]
    refine ojs_call [] [] rfl rfl rfl rfl rfl rfl rfl (by simp) (fun _ => hT) (by simp) (.inl rfl) ?_
    rintro e cs F1 _ ⟨rfl, rfl⟩
    cases togB (modesH xs)
    · exact endR_ok [] rfl rfl ⟨rfl, rfl⟩ rfl (fun _ => ⟨rfl, rfl⟩) (by simp)
    · exact endR_ok [] rfl rfl ⟨rfl, rfl⟩ rfl (fun _ => ⟨rfl, rfl⟩) (by simp)
  obtain ⟨x, hx⟩ := at_some (xs := xs) (k := k) (by omega)
  refine ojs_fact (slF hdL 3 (.slice a xs.length cap) xs) (by simp) (slF_neE hx) ?_
  rintro ⟨b, off, rfl⟩
  refine ojs_index (i := k) rfl (by omega) rfl rfl rfl rfl ?_
  refine ojs_loadN (vs := hdL x) (slF hdL 3 (.slice (some ⟨b, off, none⟩) xs.length cap) xs) (by simp) (slF_atN hx) rfl rfl rfl ?_
  have next : (hdB x = true) → (∀ y, 0 < k → xs[k - 1]? = some y → y.site < x.site) → (xs.take (k + 1)).all hdB = true ∧ (xs.take (k + 1)).Pairwise fun a b => a.site < b.site := fun h1 h2 =>
    ⟨by rw [List.take_add_one, hx]; simp [List.all_append]; exact ⟨fun y hy => List.all_eq_true.1 hall y hy, h1⟩, rise_snoc hx hri h2⟩
  refine cjs_drawn [1, 15] (.op 0 <| .op 1 <| .op 2 <| .op 3 <| .op 4 <| .op 5 <| .op 6 <| .op 7 <| .op 8 <| .op 9 <| .op 10 <| .op 11 <| .op 12 <| .op 13 <| .op 14 <| .op 15 <| .op 16 <| .op 17 <| .op 18 .z) [0, 1] [] [] [slF hdL 3 (.slice (some ⟨b, off, none⟩) xs.length cap) xs] (by kernel_rfl) (by kernel_rfl) rfl (by simp) (by simp) ?_
  intro N
  refine ojs_call [] [] rfl rfl rfl rfl rfl rfl rfl (by simp) (fun _ => holdMay_c x) (by simp) (.inl rfl) ?_
  rintro e cs F1 _ ⟨rfl, rfl⟩
  refine ⟨⟨(by repeat' (first | exact trivial | refine ⟨Or.inl rfl, ?_⟩ | refine ⟨Or.inr ⟨rfl, Nat.le_of_ble_eq_true rfl, _, rfl, rfl, rfl⟩, ?_⟩)), by simp⟩, ?_⟩
  cases hw : hdB x
  · rw [holdB_no hx (.inl hw)]
    exact endR_ok [] rfl rfl ⟨rfl, rfl⟩ rfl (fun _ => ⟨rfl, rfl⟩) (by simp)
  refine brB_dec (fun h2 => ?_) (fun h2 => ?_)
  · obtain ⟨y, hy⟩ := at_some (xs := xs) (k := k - 1) (by omega)
    refine ⟨_, yd_arith (z := ((k - 1 : Nat) : Int)) (by rw [wrap_in] <;> omega) rfl rfl rfl rfl, ?_⟩
    refine ⟨_, yd_index (i := k - 1) rfl (by omega) rfl rfl rfl rfl, ?_⟩
    refine ⟨_, yd_loadN (vs := hdL y) (slF hdL 3 (.slice (some ⟨b, off, none⟩) xs.length cap) xs) (by simp) (slF_atN hy) rfl rfl rfl, ?_⟩
    refine ojs_call [] [] rfl rfl rfl rfl rfl rfl rfl (by simp) (fun _ => holdAhead_c y x) (by simp) (.inl rfl) ?_
    rintro e cs F1 _ ⟨rfl, rfl⟩
    refine ⟨⟨(by repeat' (first | exact trivial | refine ⟨Or.inl rfl, ?_⟩ | refine ⟨Or.inr ⟨rfl, Nat.le_of_ble_eq_true rfl, _, rfl, rfl, rfl⟩, ?_⟩)), by simp⟩, ?_⟩
    by_cases hs : y.site < x.site
    · have e : cmpI y.site x.site = -1 := by unfold cmpI; rw [if_pos hs]
      rw [e]
      refine ojs_arith (z := ((k + 1 : Nat) : Int)) (by first | decide | (rw [wrap_in] <;> omega) | (dsimp only; rw [wrap_in] <;> omega)) rfl rfl rfl rfl ?_
      exact ⟨k + 1, ⟨by omega, next hw (fun z _ hz => by rw [hy] at hz; cases hz; exact hs)⟩, (by first | omega | (dsimp only; omega)), wk_patch (by repeat' (first | exact trivial | exact Or.inl rfl | refine Or.inr ⟨?_, ?_⟩ | rfl | refine ⟨?_, ?_⟩ | exact lt_all_v)) (by repeat' (first | exact trivial | exact Or.inl rfl | refine Or.inr ⟨?_, ?_⟩ | rfl | refine ⟨?_, ?_⟩ | exact lt_all_v)) (fun f hf => hf) (by simp) D_nil⟩
    · have e : 0 ≤ cmpI y.site x.site := by unfold cmpI; rw [if_neg hs]; split <;> omega
      refine brB_dec (fun _ => ?_) (fun h3 => absurd e h3)
      rw [holdB_no hx (.inr ⟨y, by omega, hy, by omega⟩)]
      exact endR_ok [] rfl rfl ⟨rfl, rfl⟩ rfl (fun _ => ⟨rfl, rfl⟩) (by simp)
  · refine ojs_arith (z := ((k + 1 : Nat) : Int)) (by first | decide | (rw [wrap_in] <;> omega) | (dsimp only; rw [wrap_in] <;> omega)) rfl rfl rfl rfl ?_
    exact ⟨k + 1, ⟨by omega, next hw (fun z h0 _ => by omega)⟩, (by first | omega | (dsimp only; omega)), wk_patch (by repeat' (first | exact trivial | exact Or.inl rfl | refine Or.inr ⟨?_, ?_⟩ | rfl | refine ⟨?_, ?_⟩ | exact lt_all_v)) (by repeat' (first | exact trivial | exact Or.inl rfl | refine Or.inr ⟨?_, ?_⟩ | rfl | refine ⟨?_, ?_⟩ | exact lt_all_v)) (fun f hf => hf) (by simp) D_nil⟩
end Go.Proofs.YtmhnlkakbadkgaaGreat
