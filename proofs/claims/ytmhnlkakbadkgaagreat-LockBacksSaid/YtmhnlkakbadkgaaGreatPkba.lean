/- Part 27 of the proof of LockBacks: contracts of functions that the law reaches, or the rules by which they are walked. No condition. -/
import Derived.Test.YtmhnlkakbadkgaaGreatPkaz
import Derived.Test.YtmhnlkakbadkgaaGreatPkah
namespace Go.Proofs.YtmhnlkakbadkgaaGreat
open Go.RowKit Go.Shelf
set_option maxRecDepth 100000
theorem flatCtr : flatK Tryz.prog 9 31 = some [4, 4, 8] := by kernel_rfl
theorem okCtr : eqOk Tryz.prog 31 = true := by kernel_rfl
structure Slt where
  use : Int
  state : Int
  mode : Int
  prio : Int
  due : Int
  ctr : Ctr
def sltL (x : Slt) : List Value := [.int .i64 x.use, .int .i64 x.state, .int .i64 x.mode, .int .i64 x.prio, .int .i64 x.due, .int .i64 x.ctr.value, .int .i64 x.ctr.floor, .int .u64 x.ctr.version]
def sltOpen (x : Slt) : Bool := decide (x.state = 1) || decide (x.state = 2)
def sltStat (x : Slt) : Sta := bif sltOpen x then ⟨x.use - 1, true, x.mode, x.prio⟩ else ⟨x.use, false, 0, 0⟩
def slt1B (x : Slt) : Bool := (decide (0 ≤ x.use) && decide (x.use ≤ 1099511627776)) && (decide (0 ≤ x.state) && decide (x.state ≤ 5)) && ((x.use == 0) == (x.state == 0))
def slt2B (x : Slt) : Bool := bif sltOpen x then staB (sltStat x) else decide (x.mode = 0) && decide (x.prio = 0)
def slt3B (x : Slt) : Bool := decide (x.due = 0) || (decide (x.state = 1) && tickB x.due)
def slt4B (x : Slt) : Bool := bif decide (x.state = 2) then ctrB x.ctr else decide (x.ctr.value = 0) && decide (x.ctr.floor = 0) && decide (x.ctr.version = 0)
def sltB (x : Slt) : Bool := slt1B x && slt2B x && slt3B x && slt4B x
theorem slt1_c (x : Slt) (b : Nat) : Cm Tryz.prog 130 [.pointer (some ⟨b, 0, none⟩)] [] [blkF b (sltL x) 166] (rets (.bool (slt1B x))) := by
  refine cm_of (tab := tb) (ok := tbOk) [.o (.v (.pointer (some ⟨b, 0, none⟩)))] Tryz.func130 Tryz.ntmps130 rfl rfl (fun _ _ => rfl) ?_
  intro w0 A0
  (refine ojs_loadF1 (cs := sltL x) (b := b) (ct := 166) (by simp) rfl rfl rfl rfl ?_)
  refine brB_dec (fun h0 => ?_) (fun h0 => ?_)
  rotate_left
  · have e : slt1B x = false := by simp only [slt1B, Bool.and_eq_false_iff, decide_eq_false_iff_not]; omega
    rw [e]
    exact endR_ok [] rfl rfl ⟨rfl, rfl⟩ rfl (fun _ => ⟨rfl, rfl⟩) (by simp)
  (refine ojs_loadF1 (cs := sltL x) (b := b) (ct := 166) (by simp) rfl rfl rfl rfl ?_)
  refine brB_dec (fun h1 => ?_) (fun h1 => ?_)
  rotate_left
  · have e : slt1B x = false := by simp only [slt1B, Bool.and_eq_false_iff, decide_eq_false_iff_not]; omega
    rw [e]
    exact endR_ok [] rfl rfl ⟨rfl, rfl⟩ rfl (fun _ => ⟨rfl, rfl⟩) (by simp)
  (refine ojs_loadF1 (cs := sltL x) (b := b) (ct := 166) (by simp) rfl rfl rfl rfl ?_)
  refine brB_dec (fun h2 => ?_) (fun h2 => ?_)
  rotate_left
  · have e : slt1B x = false := by simp only [slt1B, Bool.and_eq_false_iff, decide_eq_false_iff_not]; omega
    rw [e]
    exact endR_ok [] rfl rfl ⟨rfl, rfl⟩ rfl (fun _ => ⟨rfl, rfl⟩) (by simp)
  (refine ojs_loadF1 (cs := sltL x) (b := b) (ct := 166) (by simp) rfl rfl rfl rfl ?_)
  refine brB_dec (fun h3 => ?_) (fun h3 => ?_)
  rotate_left
  · have e : slt1B x = false := by simp only [slt1B, Bool.and_eq_false_iff, decide_eq_false_iff_not]; omega
    rw [e]
    exact endR_ok [] rfl rfl ⟨rfl, rfl⟩ rfl (fun _ => ⟨rfl, rfl⟩) (by simp)
  (refine ojs_loadF1 (cs := sltL x) (b := b) (ct := 166) (by simp) rfl rfl rfl rfl ?_)
  (refine ojs_loadF1 (cs := sltL x) (b := b) (ct := 166) (by simp) rfl rfl rfl rfl ?_)
  refine ojs_yd (yd_boolEq (by kernel_rfl) rfl rfl rfl rfl) rfl ?_
  have e : slt1B x = ((x.use == 0) == (x.state == 0)) := by
    simp only [slt1B, decide_eq_true h0, decide_eq_true h1, decide_eq_true h2, decide_eq_true h3, Bool.true_and]
  rw [e]
  exact endR_ok [] rfl rfl ⟨rfl, rfl⟩ rfl (fun _ => ⟨rfl, rfl⟩) (by simp)
theorem sltOpen_c (x : Slt) : Cm Tryz.prog 78 [.agg (sltL x).toArray] [] [] (rets (.bool (sltOpen x))) := by
  refine cm_of (tab := tb) (ok := tbOk) [.g [.v (.int .i64 x.use), .v (.int .i64 x.state), .v (.int .i64 x.mode), .v (.int .i64 x.prio), .v (.int .i64 x.due), .v (.int .i64 x.ctr.value), .v (.int .i64 x.ctr.floor), .v (.int .u64 x.ctr.version)]] Tryz.func78 Tryz.ntmps78 rfl rfl (fun _ _ => rfl) ?_
  intro w0 A0
  repeat' (first | refine brB_dec (fun _ => ?_) (fun _ => ?_) | refine brB_split (fun _ => ?_) (fun _ => ?_) | (refine endR_ok [] rfl rfl ⟨rfl, rfl⟩ rfl (fun _ => ⟨ret_bool ?_, rfl⟩) (by simp); (rw [Bool.eq_iff_iff]; simp [sltOpen] at * <;> (try dsimp only at *) <;> first | omega | (simp_all; done) | (simp_all; omega))) | fail)
theorem sltStat_c (x : Slt) (hx : -9223372036854775808 < x.use ∧ x.use ≤ 9223372036854775807) : Cm Tryz.prog 132 [.agg (sltL x).toArray] [] [] (rets (.agg (staL (sltStat x)).toArray)) := by
  refine cm_of (tab := tb) (ok := tbOk) [.g [.v (.int .i64 x.use), .v (.int .i64 x.state), .v (.int .i64 x.mode), .v (.int .i64 x.prio), .v (.int .i64 x.due), .v (.int .i64 x.ctr.value), .v (.int .i64 x.ctr.floor), .v (.int .u64 x.ctr.version)]] Tryz.func132 Tryz.ntmps132 rfl rfl (fun _ _ => rfl) ?_
  intro w0 A0
  refine ojs_call [] [] rfl rfl rfl rfl rfl rfl rfl (by simp) (fun _ => sltOpen_c x) (by simp) (.inl rfl) ?_
  rintro e cs F1 _ ⟨rfl, rfl⟩
  unfold sltStat
  cases h : sltOpen x
  · exact endR_ok [] rfl rfl ⟨rfl, rfl⟩ rfl (fun _ => ⟨rfl, rfl⟩) (by simp)
  · refine ojs_arith (wrap_in (r := x.use - 1) (by omega) (by omega)) rfl rfl rfl rfl ?_
    exact endR_ok [] rfl rfl ⟨rfl, rfl⟩ rfl (fun _ => ⟨rfl, rfl⟩) (by simp)
theorem slotTick_c (n : Int) : Cm Tryz.prog 134 [.int .i64 n] [] [] (rets (.bool (tickB n))) := by
  refine cm_of (tab := tb) (ok := tbOk) [.o (.v (.int .i64 n))] Tryz.func134 Tryz.ntmps134 rfl rfl (fun _ _ => rfl) ?_
  intro w0 A0
  refine ojs_call [] [] rfl rfl rfl rfl rfl rfl rfl (by simp) (fun _ => timerAt_c n) (by simp) (.inl rfl) ?_
  rintro e cs F1 _ ⟨v, rfl, rfl⟩
  cases h : tickB n
  · exact endR_ok [] rfl rfl ⟨rfl, rfl⟩ rfl (fun _ => ⟨rfl, rfl⟩) (by simp)
  · exact endR_ok [] rfl rfl ⟨rfl, rfl⟩ rfl (fun _ => ⟨rfl, rfl⟩) (by simp)
theorem slt2_c (x : Slt) (hx : -9223372036854775808 < x.use ∧ x.use ≤ 9223372036854775807) (b : Nat) : Cm Tryz.prog 131 [.pointer (some ⟨b, 0, none⟩)] [] [blkF b (sltL x) 166] (rets (.bool (slt2B x))) := by
  refine cm_of (tab := tb) (ok := tbOk) [.o (.v (.pointer (some ⟨b, 0, none⟩)))] Tryz.func131 Tryz.ntmps131 rfl rfl (fun _ _ => rfl) ?_
  intro w0 A0
  refine ojs_loadFN (vs := sltL x) (cs := sltL x) (b := b) (ct := 166) (by simp) rfl rfl rfl rfl ?_
  refine ojs_call [] [] rfl rfl rfl rfl rfl rfl rfl (by simp) (fun _ => sltOpen_c x) (by simp) (.inl rfl) ?_
  rintro e cs F1 _ ⟨rfl, rfl⟩
  unfold slt2B
  cases h : sltOpen x
  · (refine ojs_loadF1 (cs := sltL x) (b := b) (ct := 166) (by simp) rfl rfl rfl rfl ?_)
    refine brB_split (fun h1 => ?_) (fun h1 => ?_)
    · (refine ojs_loadF1 (cs := sltL x) (b := b) (ct := 166) (by simp) rfl rfl rfl rfl ?_)
      refine brB_split (fun h2 => ?_) (fun h2 => ?_)
      · have e : (decide (x.mode = 0) && decide (x.prio = 0)) = true := by simp at h1 h2; simp [h1, h2]
        rw [e]
        exact endR_ok [] rfl rfl ⟨rfl, rfl⟩ rfl (fun _ => ⟨rfl, rfl⟩) (by simp)
      · refine ojs_loadFN (vs := sltL x) (cs := sltL x) (b := b) (ct := 166) (by simp) rfl rfl rfl rfl ?_
        refine ojs_call [] [] rfl rfl rfl rfl rfl rfl rfl (by simp) (fun _ => sltOpen_c x) (by simp) (.inl rfl) ?_
        rintro e cs F1 _ ⟨rfl, rfl⟩
        rw [h]
        have e : (decide (x.mode = 0) && decide (x.prio = 0)) = false := by simp at h1 h2; simp [h2]
        rw [e]
        exact endR_ok [] rfl rfl ⟨rfl, rfl⟩ rfl (fun _ => ⟨rfl, rfl⟩) (by simp)
    · refine ojs_loadFN (vs := sltL x) (cs := sltL x) (b := b) (ct := 166) (by simp) rfl rfl rfl rfl ?_
      refine ojs_call [] [] rfl rfl rfl rfl rfl rfl rfl (by simp) (fun _ => sltOpen_c x) (by simp) (.inl rfl) ?_
      rintro e cs F1 _ ⟨rfl, rfl⟩
      rw [h]
      have e : (decide (x.mode = 0) && decide (x.prio = 0)) = false := by simp at h1; simp [h1]
      rw [e]
      exact endR_ok [] rfl rfl ⟨rfl, rfl⟩ rfl (fun _ => ⟨rfl, rfl⟩) (by simp)
  · refine ojs_loadFN (vs := sltL x) (cs := sltL x) (b := b) (ct := 166) (by simp) rfl rfl rfl rfl ?_
    refine ojs_call [] [] rfl rfl rfl rfl rfl rfl rfl (by simp) (fun _ => sltOpen_c x) (by simp) (.inl rfl) ?_
    rintro e cs F1 _ ⟨rfl, rfl⟩
    rw [h]
    refine ojs_loadFN (vs := sltL x) (cs := sltL x) (b := b) (ct := 166) (by simp) rfl rfl rfl rfl ?_
    refine ojs_call [] [] rfl rfl rfl rfl rfl rfl rfl (by simp) (fun _ => sltStat_c x hx) (by simp) (.inl rfl) ?_
    rintro e cs F1 _ ⟨rfl, rfl⟩
    refine ojs_call [] [] rfl rfl rfl rfl rfl rfl rfl (by simp) (fun _ => staCheck_c (sltStat x)) (by simp) (.inl rfl) ?_
    rintro e cs F1 _ ⟨rfl, rfl⟩
    unfold staE
    cases h2 : staB (sltStat x)
    · exact endR_ok [] rfl rfl ⟨rfl, rfl⟩ rfl (fun _ => ⟨rfl, rfl⟩) (by simp)
    · exact endR_ok [] rfl rfl ⟨rfl, rfl⟩ rfl (fun _ => ⟨rfl, rfl⟩) (by simp)
theorem slt3_c (x : Slt) (b : Nat) : Cm Tryz.prog 133 [.pointer (some ⟨b, 0, none⟩)] [] [blkF b (sltL x) 166] (rets (.bool (slt3B x))) := by
  refine cm_of (tab := tb) (ok := tbOk) [.o (.v (.pointer (some ⟨b, 0, none⟩)))] Tryz.func133 Tryz.ntmps133 rfl rfl (fun _ _ => rfl) ?_
  intro w0 A0
  repeat' (first | refine brB_dec (fun _ => ?_) (fun _ => ?_) | refine brB_split (fun _ => ?_) (fun _ => ?_) | (refine endR_ok [] rfl rfl ⟨rfl, rfl⟩ rfl (fun _ => ⟨ret_bool ?_, rfl⟩) (by simp); (rw [Bool.eq_iff_iff]; simp [slt3B] at * <;> (try dsimp only at *) <;> first | omega | (simp_all; done) | (simp_all; omega))) | first | (refine ojs_loadF1 (cs := sltL x) (b := b) (ct := 166) (by simp) rfl rfl rfl rfl ?_) | (refine ojs_call [] [] rfl rfl rfl rfl rfl rfl rfl (by simp) (fun _ => slotTick_c _) (by simp) (.inl rfl) ?_; rintro e cs F1 _ ⟨rfl, rfl⟩))
theorem slt4_c (x : Slt) (b : Nat) : Cm Tryz.prog 135 [.pointer (some ⟨b, 0, none⟩)] [] [blkF b (sltL x) 166] (rets (.bool (slt4B x))) := by
  refine cm_of (tab := tb) (ok := tbOk) [.o (.v (.pointer (some ⟨b, 0, none⟩)))] Tryz.func135 Tryz.ntmps135 rfl rfl (fun _ _ => rfl) ?_
  intro w0 A0
  unfold slt4B
  (refine ojs_loadF1 (cs := sltL x) (b := b) (ct := 166) (by simp) rfl rfl rfl rfl ?_)
  refine brB_split (fun h1 => ?_) (fun h1 => ?_)
  · have e : decide (x.state = 2) = true := by simpa using h1
    rw [e]
    refine ojs_loadFN (vs := ctrL x.ctr) (cs := sltL x) (b := b) (ct := 166) (by simp) rfl rfl rfl rfl ?_
    refine ojs_call [] [] rfl rfl rfl rfl rfl rfl rfl (by simp) (fun _ => ctrCheck_c x.ctr) (by simp) (.inl rfl) ?_
    rintro e cs F1 _ ⟨rfl, rfl⟩
    unfold ctrE
    cases h2 : ctrB x.ctr
    · (refine ojs_loadF1 (cs := sltL x) (b := b) (ct := 166) (by simp) rfl rfl rfl rfl ?_)
      refine brB_split (fun h3 => ?_) (fun h3 => ?_)
      · simp at h1 h3; exact absurd h1 h3
      · exact endR_ok [] rfl rfl ⟨rfl, rfl⟩ rfl (fun _ => ⟨rfl, rfl⟩) (by simp)
    · exact endR_ok [] rfl rfl ⟨rfl, rfl⟩ rfl (fun _ => ⟨rfl, rfl⟩) (by simp)
  · have e : decide (x.state = 2) = false := by simpa using h1
    rw [e]
    (refine ojs_loadF1 (cs := sltL x) (b := b) (ct := 166) (by simp) rfl rfl rfl rfl ?_)
    refine brB_split (fun h3 => ?_) (fun h3 => ?_)
    · refine ojs_loadFN (vs := ctrL x.ctr) (cs := sltL x) (b := b) (ct := 166) (by simp) rfl rfl rfl rfl ?_
      refine ojs_yd (yd_eqF (xs := ctrL x.ctr) (ys := [.int .i64 0, .int .i64 0, .int .u64 0]) (r := (x.ctr.value == 0 && (x.ctr.floor == 0 && (x.ctr.version == 0 && true)))) (ks := [4, 4, 8]) flatCtr okCtr rfl rfl rfl (fun _ => rfl) (fun _ => rfl) rfl) rfl ?_
      exact endR_ok [] rfl rfl ⟨rfl, rfl⟩ rfl (fun _ => ⟨ret_bool (by (rw [Bool.eq_iff_iff]; simp [and_assoc])), rfl⟩) (by simp)
    · simp at h1 h3; exact absurd h3 h1
def sltI (x : Slt) : Prop := -9223372036854775808 < x.use ∧ x.use ≤ 9223372036854775807
theorem slotMay_c (x : Slt) : Cm Tryz.prog 75 [.agg (sltL x).toArray] [] [] (rets (.bool (sltB x))) := by
  refine cm_of (tab := tb) (ok := tbOk) [.g [.v (.int .i64 x.use), .v (.int .i64 x.state), .v (.int .i64 x.mode), .v (.int .i64 x.prio), .v (.int .i64 x.due), .v (.int .i64 x.ctr.value), .v (.int .i64 x.ctr.floor), .v (.int .u64 x.ctr.version)]] Tryz.func75 Tryz.ntmps75 rfl rfl (fun _ _ => rfl) ?_
  intro w0 A0
  refine ojs_yd (u := .g [.f (.func 130) [] [.p 0 0], .f (.func 131) [] [.p 0 0], .f (.func 133) [] [.p 0 0], .f (.func 135) [] [.p 0 0]]) (yd_buildA rfl rfl rfl rfl rfl) rfl ?_
  refine ojs_yd (yd_sliceArr rfl rfl rfl) rfl ?_
  refine ojs_inl Tryz.func136 Tryz.ntmps136 rfl rfl rfl rfl rfl rfl rfl ?_
  intro w1 A1 M1 N1 hN1
  refine ojs_inl Tryz.func194 Tryz.ntmps194 rfl rfl rfl rfl rfl rfl rfl ?_
  intro w2 A2 M2 N2 hN2
  refine cjs_turns 5 ?_
  refine ojs_indexL (i := 0) rfl (by decide) rfl rfl rfl rfl ?_
  refine ojs_inl Tryz.func137 Tryz.ntmps137 rfl rfl rfl rfl rfl rfl rfl ?_
  intro w30 A30 M30 N30 hN30
  refine ojs_call [0] [] rfl rfl rfl rfl rfl rfl rfl (by simp) (fun ρ => slt1_c x (ρ 0)) (by simp) (.inr (by rintro e cs F1 ⟨_, rfl⟩; rfl)) ?_
  rintro e cs F1 _ ⟨rfl, rfl⟩
  cases h1 : slt1B x
  · have e : sltB x = false := by simp [sltB, h1]
    rw [e]
    refine ⟨rfl, ?_⟩
    refine ⟨rfl, ?_⟩
    refine ⟨rfl, ?_⟩
    exact endR_ok [] rfl rfl ⟨rfl, rfl⟩ rfl (fun _ => ⟨rfl, rfl⟩) (by simp)
  refine ⟨rfl, ?_⟩
  refine ojs_arith (z := 1) (by decide) rfl rfl rfl rfl ?_
  have hx : sltI x := by simp [slt1B] at h1; unfold sltI; omega
  refine ojs_indexL (i := 1) rfl (by decide) rfl rfl rfl rfl ?_
  refine ojs_inl Tryz.func137 Tryz.ntmps137 rfl rfl rfl rfl rfl rfl rfl ?_
  intro w31 A31 M31 N31 hN31
  refine ojs_call [0] [] rfl rfl rfl rfl rfl rfl rfl (by simp) (fun ρ => slt2_c x hx (ρ 0)) (by simp) (.inr (by rintro e cs F1 ⟨_, rfl⟩; rfl)) ?_
  rintro e cs F1 _ ⟨rfl, rfl⟩
  cases h2 : slt2B x
  · have e : sltB x = false := by simp [sltB, h2]
    rw [e]
    refine ⟨rfl, ?_⟩
    refine ⟨rfl, ?_⟩
    refine ⟨rfl, ?_⟩
    exact endR_ok [] rfl rfl ⟨rfl, rfl⟩ rfl (fun _ => ⟨rfl, rfl⟩) (by simp)
  refine ⟨rfl, ?_⟩
  refine ojs_arith (z := 2) (by decide) rfl rfl rfl rfl ?_
  refine ojs_indexL (i := 2) rfl (by decide) rfl rfl rfl rfl ?_
  refine ojs_inl Tryz.func137 Tryz.ntmps137 rfl rfl rfl rfl rfl rfl rfl ?_
  intro w32 A32 M32 N32 hN32
  refine ojs_call [0] [] rfl rfl rfl rfl rfl rfl rfl (by simp) (fun ρ => slt3_c x (ρ 0)) (by simp) (.inr (by rintro e cs F1 ⟨_, rfl⟩; rfl)) ?_
  rintro e cs F1 _ ⟨rfl, rfl⟩
  cases h3 : slt3B x
  · have e : sltB x = false := by simp [sltB, h3]
    rw [e]
    refine ⟨rfl, ?_⟩
    refine ⟨rfl, ?_⟩
    refine ⟨rfl, ?_⟩
    exact endR_ok [] rfl rfl ⟨rfl, rfl⟩ rfl (fun _ => ⟨rfl, rfl⟩) (by simp)
  refine ⟨rfl, ?_⟩
  refine ojs_arith (z := 3) (by decide) rfl rfl rfl rfl ?_
  refine ojs_indexL (i := 3) rfl (by decide) rfl rfl rfl rfl ?_
  refine ojs_inl Tryz.func137 Tryz.ntmps137 rfl rfl rfl rfl rfl rfl rfl ?_
  intro w33 A33 M33 N33 hN33
  refine ojs_call [0] [] rfl rfl rfl rfl rfl rfl rfl (by simp) (fun ρ => slt4_c x (ρ 0)) (by simp) (.inr (by rintro e cs F1 ⟨_, rfl⟩; rfl)) ?_
  rintro e cs F1 _ ⟨rfl, rfl⟩
  cases h4 : slt4B x
  · have e : sltB x = false := by simp [sltB, h4]
    rw [e]
    refine ⟨rfl, ?_⟩
    refine ⟨rfl, ?_⟩
    refine ⟨rfl, ?_⟩
    exact endR_ok [] rfl rfl ⟨rfl, rfl⟩ rfl (fun _ => ⟨rfl, rfl⟩) (by simp)
  refine ⟨rfl, ?_⟩
  refine ojs_arith (z := 4) (by decide) rfl rfl rfl rfl ?_
  have e : sltB x = true := by simp [sltB, h1, h2, h3, h4]
  rw [e]
  refine ⟨rfl, ?_⟩
  refine ⟨rfl, ?_⟩
  exact endR_ok [] rfl rfl ⟨rfl, rfl⟩ rfl (fun _ => ⟨rfl, rfl⟩) (by simp)
end Go.Proofs.YtmhnlkakbadkgaaGreat
namespace Go.Proofs.YtmhnlkakbadkgaaGreat
open Go.RowKit Go.Shelf
set_option maxRecDepth 100000
theorem caughtIdleS : CaughtIdle Tryz.prog 72 := by
  intro n pe K lb w
  have hn : ∀ w : World, (binOp .neq 20 .nilIface .nilIface).run Tryz.prog w = .ok (.bool false) w := fun _ => by kernel_rfl
  refine callsDIn_of_wpSIn Tryz.func72 rfl trivial fun c₀ cs hu => ?_
  simp only [Tryz.ntmps72, List.size_toArray, List.length_cons, List.length_nil, Nat.reduceAdd, Nat.reduceSub, Array.replicate_succ, Array.replicate_zero, List.push_toArray, List.append_toArray, List.nil_append, List.cons_append]
  apply wpSIn_seq
  apply wpSIn_region
  simp [wpOpsSIn, go_sem, recoverD, hu, Exit.thenS]
  refine wpSIn_of_wpIn rfl (wpIn_wide.2 ?_)
  generalize hQ : (fun e a' w' => bodyPostS _ _ _ _ _ e a' _ w') = Q
  have HQ := Lib.hid hQ
  clear hQ
  go_wp2
  rw [← HQ.out]
  cases c₀
  simp_all [bodyPostS, results, Tryz.results72]
set_option maxRecDepth 100000 in
set_option maxHeartbeats 1000000 in
theorem caughtUpS : CaughtUp Tryz.prog 72 46 46 := by
  intro nn pe K lb n older w R hnn hE hK hR
  have hn : ∀ (w : World) (n : Int), (binOp .neq 20 (.iface 46 (.int .i64 n)) .nilIface).run Tryz.prog w = .ok (.bool true) w := fun _ _ => by kernel_rfl
  have ht : ∀ (w : World) (n : Int), (Instr.typeAssert (.iface 46 (.int .i64 n)) 20 46 true).run Tryz.prog w = .ok (.tuple #[.int .i64 n, .bool true]) w := fun _ _ => by kernel_rfl
  have eK : ∀ args w, (callFunc K args).run Tryz.prog w = .ok (.enter K args) w := hE
  refine callsDIn_of_wpSIn Tryz.func72 rfl trivial fun c₀ cs hu => ?_
  simp only [Tryz.ntmps72, List.size_toArray, List.length_cons, List.length_nil, Nat.reduceAdd, Nat.reduceSub, Array.replicate_succ, Array.replicate_zero, List.push_toArray, List.append_toArray, List.nil_append, List.cons_append]
  apply wpSIn_seq
  apply wpSIn_region
  simp [wpOpsSIn, go_sem, recoverD, hu, Exit.thenS]
  refine wpSIn_of_wpIn rfl (wpIn_wide.2 ?_)
  generalize hQ : (fun e a' w' => bodyPostS _ _ _ _ _ e a' _ w') = Q
  have HQ := Lib.hid hQ
  clear hQ
  go_wp2_with fail
  refine hK.mono ?_
  rintro e w1 ⟨rfl, hr⟩
  obtain ⟨v, hv⟩ := hR w1 hr
  have c1 := cells1 hv
  go_wp2
  rw [← HQ.out]
  cases c₀
  simp_all [bodyPostS, results, Tryz.results72]
  exact ⟨w1, hr, rfl⟩
theorem mustS_c (b : Bool) (e : Int) : Cm Tryz.prog 79 [.bool b, .int .i64 e] [] [] (mustE 46 b e) := by
  refine cm_of (tab := tb) (ok := tbOk) [.o (.v (.bool b)), .o (.v (.int .i64 e))] Tryz.func79 Tryz.ntmps79 rfl rfl (fun _ _ => rfl) ?_
  intro w0 A0
  cases b
  · refine ojs_yd (yd_iface (by kernel_rfl) rfl rfl) rfl ?_
    refine ojs_panic rfl rfl ?_
    exact endP_ok [] rfl ⟨rfl, rfl⟩ rfl (fun _ => ⟨.inr ⟨rfl, rfl⟩, rfl⟩) (by simp)
  · exact endR_ok [] rfl rfl ⟨rfl, rfl⟩ rfl (fun _ => ⟨.inl ⟨rfl, rfl⟩, rfl⟩) (by simp)
theorem sltL_len : ∀ x, (sltL x).length = 8 := fun _ => rfl
def slotsB (n l s : Int) (xs : List Slt) : Bool := shapeB n l s && decide ((xs.length : Int) = s) && xs.all sltB
theorem ixSlt_idx {F0 : List Fact} {g : Nat} {lb : List Value} (hg : alook tb.fn g = some ()) (p : Slt → Bool) {a : Option Addr} {cap : Nat} {xs : List Slt} (hlen : xs.length ≤ 1099511627776) (hc : ∀ x ∈ xs, Cm Tryz.prog g (.agg (sltL x).toArray :: lb) [] F0 (rets (.bool (p x)))) :
    Cm Tryz.prog 76 [.slice a xs.length cap, .func (.func g) #[] lb.toArray] [] (slF sltL 8 (.slice a xs.length cap) xs :: F0) (rets (.int .i64 (idxI p xs))) := by
  refine cm_of (tab := tb) (ok := tbOk) [.o (.v (.slice a xs.length cap)), .o (.v (.func (.func g) #[] lb.toArray))] Tryz.func76 Tryz.ntmps76 rfl rfl (fun _ _ => rfl) ?_
  intro w0 A0
  refine cjs_loopP (γ := Nat) (fun k => k ≤ xs.length ∧ ∀ (j : Nat) x, j < k → xs[j]? = some x → p x = false) (fun k => [(8, .o (.v (.int .i64 k)))]) (fun _ => []) (fun _ => []) (fun k => xs.length - k) 0 ⟨Nat.zero_le _, fun j x hj => by omega⟩ (wk_patch (by repeat' (first | exact trivial | exact Or.inl rfl | refine Or.inr ⟨?_, ?_⟩ | rfl | refine ⟨?_, ?_⟩ | exact lt_all_v)) (by repeat' (first | exact trivial | exact Or.inl rfl | refine Or.inr ⟨?_, ?_⟩ | rfl | refine ⟨?_, ?_⟩ | exact lt_all_v)) (fun f hf => hf) (by simp) D_nil) ?_
  rintro k ⟨hk, hno⟩
  refine brB_dec (fun h1 => ?_) (fun h1 => ?_)
  · obtain ⟨x, hx⟩ := at_some (xs := xs) (k := k) (by omega)
    skip
    refine ojs_fact (slF sltL 8 (.slice a xs.length cap) xs) (by simp) (slF_neE hx) ?_
    rintro ⟨b, off, rfl⟩
    refine ojs_index rfl (by omega) rfl rfl rfl rfl ?_
    refine ojs_loadN (vs := sltL x) (slF sltL 8 (.slice (some ⟨b, off, none⟩) xs.length cap) xs) (by simp) (slF_atN hx) rfl rfl rfl ?_
    have hc2 : ∀ ρ : Nm, Cm Tryz.prog g (argV ρ [] [TV.g [.v (.int .i64 x.use), .v (.int .i64 x.state), .v (.int .i64 x.mode), .v (.int .i64 x.prio), .v (.int .i64 x.due), .v (.int .i64 x.ctr.value), .v (.int .i64 x.ctr.floor), .v (.int .u64 x.ctr.version)]] (lb.map PV.v)) [] F0 (rets (.bool (p x))) := fun ρ => by
      have e : argV ρ [] [TV.g [.v (.int .i64 x.use), .v (.int .i64 x.state), .v (.int .i64 x.mode), .v (.int .i64 x.prio), .v (.int .i64 x.due), .v (.int .i64 x.ctr.value), .v (.int .i64 x.ctr.floor), .v (.int .u64 x.ctr.version)]] (lb.map PV.v) = .agg (sltL x).toArray :: lb := (argV_lb ρ [TV.g [.v (.int .i64 x.use), .v (.int .i64 x.state), .v (.int .i64 x.mode), .v (.int .i64 x.prio), .v (.int .i64 x.due), .v (.int .i64 x.ctr.value), .v (.int .i64 x.ctr.floor), .v (.int .u64 x.ctr.version)]] lb).trans rfl
      rw [e]; exact hc x (List.mem_of_getElem? hx)
    refine ojs_call [] [] rfl rfl rfl rfl hg rfl rfl (by simp) (fun ρ => hc2 ρ) (fun f hf => List.mem_cons_of_mem _ hf) (.inl rfl) ?_
    rintro e cs F1 _ ⟨rfl, rfl⟩
    cases hb : p x
    · refine ojs_arith (z := ((k + 1 : Nat) : Int)) (by first | decide | (rw [wrap_in] <;> omega) | (dsimp only; rw [wrap_in] <;> omega)) rfl rfl rfl rfl ?_
      refine ⟨k + 1, ⟨by omega, fun j y hj hy => ?_⟩, (by first | omega | (dsimp only; omega)), wk_patch (by repeat' (first | exact trivial | exact Or.inl rfl | refine Or.inr ⟨?_, ?_⟩ | rfl | refine ⟨?_, ?_⟩ | exact lt_all_v)) (by repeat' (first | exact trivial | exact Or.inl rfl | refine Or.inr ⟨?_, ?_⟩ | rfl | refine ⟨?_, ?_⟩ | exact lt_all_v)) (fun f hf => hf) (by simp) D_nil⟩
      rcases Nat.lt_succ_iff_lt_or_eq.1 hj with h | rfl
      · exact hno j y h hy
      · rw [hx] at hy; cases hy; exact hb
    · exact endR_ok [] rfl rfl ⟨rfl, rfl⟩ rfl (fun _ => ⟨by rw [idxI_atE hno hx hb]; rfl, rfl⟩) (by simp)
  · obtain rfl : k = xs.length := by omega
    exact endR_ok [] rfl rfl ⟨rfl, rfl⟩ rfl (fun _ => ⟨by rw [idxI_noneE (fun j x hj => hno j x (List.getElem?_eq_some_iff.1 hj).1 hj)]; rfl, rfl⟩) (by simp)
theorem ixSlt_con {F0 : List Fact} {g : Nat} {lb : List Value} (hg : alook tb.fn g = some ()) (p : Slt → Bool) {a : Option Addr} {cap : Nat} {xs : List Slt} (hlen : xs.length ≤ 1099511627776) (hc : ∀ x ∈ xs, Cm Tryz.prog g (.agg (sltL x).toArray :: lb) [] F0 (rets (.bool (p x)))) :
    Cm Tryz.prog 127 [.slice a xs.length cap, .func (.func g) #[] lb.toArray] [] (slF sltL 8 (.slice a xs.length cap) xs :: F0) (rets (.bool (xs.any p))) := by
  refine cm_of (tab := tb) (ok := tbOk) [.o (.v (.slice a xs.length cap)), .o (.v (.func (.func g) #[] lb.toArray))] Tryz.func127 Tryz.ntmps127 rfl rfl (fun _ _ => rfl) ?_
  intro w0 A0
  refine ojs_call [] [] rfl rfl rfl rfl rfl rfl rfl (by simp) (fun _ => ixSlt_idx hg p hlen hc) (fun f hf => hf) (.inl rfl) ?_
  rintro e cs F1 _ ⟨rfl, rfl⟩
  exact endR_ok [] rfl rfl ⟨rfl, rfl⟩ rfl (fun _ => ⟨ret_bool idxI_any, rfl⟩) (by simp)
theorem slotRight1_c (x : Slt) : Cm Tryz.prog 128 [.agg (sltL x).toArray] [] [] (rets (.bool (!sltB x))) := by
  refine cm_of (tab := tb) (ok := tbOk) [.g [.v (.int .i64 x.use), .v (.int .i64 x.state), .v (.int .i64 x.mode), .v (.int .i64 x.prio), .v (.int .i64 x.due), .v (.int .i64 x.ctr.value), .v (.int .i64 x.ctr.floor), .v (.int .u64 x.ctr.version)]] Tryz.func128 Tryz.ntmps128 rfl rfl (fun _ _ => rfl) ?_
  intro w0 A0
  refine ojs_call [] [] rfl rfl rfl rfl rfl rfl rfl (by simp) (fun _ => slotMay_c x) (by simp) (.inl rfl) ?_
  rintro e cs F1 _ ⟨rfl, rfl⟩
  exact endR_ok [] rfl rfl ⟨rfl, rfl⟩ rfl (fun _ => ⟨rfl, rfl⟩) (by simp)
theorem boolIdx0_c : Cm Tryz.prog 129 [.slice none 0 0, .bool false] [] [] (rets (.bool false)) := by
  refine cm_of (tab := tb) (ok := tbOk) [.o (.v (.slice none 0 0)), .o (.v (.bool false))] Tryz.func129 Tryz.ntmps129 rfl rfl (fun _ _ => rfl) ?_
  intro w0 A0
  refine ojs_inl Tryz.func193 Tryz.ntmps193 rfl rfl rfl rfl rfl rfl rfl ?_
  intro w1 A1 M1 N1 hN1
  refine cjs_turns 1 ?_
  refine ⟨rfl, ?_⟩
  exact endR_ok [] rfl rfl ⟨rfl, rfl⟩ rfl (fun _ => ⟨rfl, rfl⟩) (by simp)
theorem slotRight0_c (n l s : Int) (a : Option Addr) (cap : Nat) (xs : List Slt) (hx : xs.length ≤ 1000000) : Cm Tryz.prog 74 [.agg #[.int .i64 n, .int .i64 l, .int .i64 s], .slice a xs.length cap, .slice none 0 0] [] [slF sltL 8 (.slice a xs.length cap) xs] (mustE 46 (slotsB n l s xs) 2) := by
  refine cm_of (tab := tb) (ok := tbOk) [.g [.v (.int .i64 n), .v (.int .i64 l), .v (.int .i64 s)], .o (.v (.slice a xs.length cap)), .o (.v (.slice none 0 0))] Tryz.func74 Tryz.ntmps74 rfl rfl (fun _ _ => rfl) ?_
  intro w0 A0
  refine ojs_call [] [] rfl rfl rfl rfl rfl rfl rfl (by simp) (fun _ => siteCheck_c n l s) (by simp) (.inl rfl) ?_
  rintro e cs F1 _ ⟨rfl, rfl⟩
  unfold slotsB shapeE
  cases hs : shapeB n l s
  · refine ojs_call [] [] rfl rfl rfl rfl rfl rfl rfl (by simp) (fun _ => mustS_c false 2) (by simp) (.inl rfl) ?_
    rintro e cs F1 _ ⟨⟨h, _⟩ | ⟨_, rfl⟩, rfl⟩
    · cases h
    · exact endP_ok [] rfl ⟨rfl, rfl⟩ rfl (fun _ => ⟨.inr ⟨rfl, rfl⟩, rfl⟩) (by simp)
  refine brB_split (fun h1 => ?_) (fun h1 => ?_)
  rotate_left
  · have e : decide ((xs.length : Int) = s) = false := by simp at h1; simpa using h1
    rw [e]
    refine ojs_call [] [] rfl rfl rfl rfl rfl rfl rfl (by simp) (fun _ => mustS_c false 2) (by simp) (.inl rfl) ?_
    rintro e cs F1 _ ⟨⟨h, _⟩ | ⟨_, rfl⟩, rfl⟩
    · cases h
    · exact endP_ok [] rfl ⟨rfl, rfl⟩ rfl (fun _ => ⟨.inr ⟨rfl, rfl⟩, rfl⟩) (by simp)
  have e : decide ((xs.length : Int) = s) = true := by simp at h1; simpa using h1
  rw [e]
  refine ojs_call [] [] rfl rfl rfl rfl rfl rfl rfl (by simp) (fun _ => ixSlt_con (F0 := []) (lb := []) (a := a) (cap := cap) (xs := xs) rfl (fun x => !sltB x) (by omega) (fun x _ => slotRight1_c x)) (by simp) (.inl rfl) ?_
  rintro e cs F1 _ ⟨rfl, rfl⟩
  have e2 : (!xs.any fun x => !sltB x) = xs.all sltB := by rw [List.all_eq_not_any_not]
  rw [← e2]
  cases xs.any fun x => !sltB x
  rotate_left
  · refine ojs_call [] [] rfl rfl rfl rfl rfl rfl rfl (by simp) (fun _ => mustS_c false 2) (by simp) (.inl rfl) ?_
    rintro e cs F1 _ ⟨⟨h, _⟩ | ⟨_, rfl⟩, rfl⟩
    · cases h
    · exact endP_ok [] rfl ⟨rfl, rfl⟩ rfl (fun _ => ⟨.inr ⟨rfl, rfl⟩, rfl⟩) (by simp)
  refine ojs_call [] [] rfl rfl rfl rfl rfl rfl rfl (by simp) (fun _ => mustS_c true 2) (by simp) (.inl rfl) ?_
  rintro e cs F1 _ ⟨⟨_, rfl⟩ | ⟨h, _⟩, rfl⟩
  rotate_left
  · cases h
  refine ojs_call [] [] rfl rfl rfl rfl rfl rfl rfl (by simp) (fun _ => boolIdx0_c) (by simp) (.inl rfl) ?_
  rintro e cs F1 _ ⟨rfl, rfl⟩
  refine ojs_call [] [] rfl rfl rfl rfl rfl rfl rfl (by simp) (fun _ => mustS_c true 2) (by simp) (.inl rfl) ?_
  rintro e cs F1 _ ⟨⟨_, rfl⟩ | ⟨h, _⟩, rfl⟩
  rotate_left
  · cases h
  exact endR_ok [] rfl rfl ⟨rfl, rfl⟩ rfl (fun _ => ⟨.inl ⟨rfl, rfl⟩, rfl⟩) (by simp)
theorem slotCheckK_c : Cm Tryz.prog 171 [] [] [] (fun e cs F1 => e = .returned (.tuple #[]) ∧ cs = [] ∧ F1 = []) := by
  refine cm_of (tab := tb) (ok := tbOk) [] Tryz.func171 Tryz.ntmps171 rfl rfl (fun _ _ => rfl) ?_
  intro w0 A0
  exact endR_ok [] rfl rfl ⟨rfl, rfl⟩ rfl (fun _ => ⟨rfl, rfl, rfl⟩) (by simp)
def slotsE (n l s : Int) (xs : List Slt) : Int := bif slotsB n l s xs then 0 else 2
theorem slotCheck_c (n l s : Int) (a : Option Addr) (cap : Nat) (xs : List Slt) (hx : xs.length ≤ 1000000) : Cm Tryz.prog 103 [.agg #[.int .i64 n, .int .i64 l, .int .i64 s], .slice a xs.length cap] [] [slF sltL 8 (.slice a xs.length cap) xs] (rets (.int .i64 (slotsE n l s xs))) := by
  refine cm_ofD (tab := tb) (ok := tbOk) [.g [.v (.int .i64 n), .v (.int .i64 l), .v (.int .i64 s)], .o (.v (.slice a xs.length cap))] Tryz.func103 Tryz.ntmps103 rfl rfl (fun _ _ => rfl) ?_
  intro w0 A0
  refine ojs_caughtV rfl rfl rfl rfl rfl rfl rfl rfl ?_
  refine ojs_call [] [] rfl rfl rfl rfl rfl rfl rfl (by simp) (fun _ => slotRight0_c n l s a cap xs hx) (by simp) (.inl rfl) ?_
  rintro e cs F1 _ ⟨⟨hb, rfl⟩ | ⟨hb, rfl⟩, rfl⟩
  · refine lv_idle caughtIdleS (enters_of Tryz.func72 (by kernel_rfl) rfl) (lv_ret ?_)
    unfold slotsE
    rw [hb]
    exact endR_ok [] rfl rfl ⟨rfl, rfl⟩ rfl (fun _ => ⟨rfl, rfl⟩) (by simp)
  · refine lv_up [] caughtUpS (enters_of Tryz.func72 (by kernel_rfl) rfl) (enters_of Tryz.func171 (by kernel_rfl) rfl) rfl (by simp) (fun ρ => slotCheckK_c) rfl (lv_ret ?_)
    unfold slotsE
    rw [hb]
    exact endR_ok [] rfl rfl ⟨rfl, rfl⟩ rfl (fun _ => ⟨rfl, rfl⟩) (by simp)
end Go.Proofs.YtmhnlkakbadkgaaGreat
namespace Go.Proofs.YtmhnlkakbadkgaaGreat
open Go.RowKit Go.Shelf
set_option maxRecDepth 100000
def wantB (m p : Int) : Bool := (decide (1 ≤ m) && decide (m ≤ 5)) && (decide (0 ≤ p) && decide (p ≤ 3))
theorem refWants_c (m p : Int) : Cm Tryz.prog 180 [.int .i64 m, .int .i64 p] [] [] (rets (.bool (wantB m p))) := by
  refine cm_of (tab := tb) (ok := tbOk) [.o (.v (.int .i64 m)), .o (.v (.int .i64 p))] Tryz.func180 Tryz.ntmps180 rfl rfl (fun _ _ => rfl) ?_
  intro w0 A0
  repeat' (first | refine brB_dec (fun _ => ?_) (fun _ => ?_) | refine brB_split (fun _ => ?_) (fun _ => ?_) | (refine endR_ok [] rfl rfl ⟨rfl, rfl⟩ rfl (fun _ => ⟨ret_bool ?_, rfl⟩) (by simp); (rw [Bool.eq_iff_iff]; simp [wantB, modeB] at * <;> (try dsimp only at *) <;> first | omega | (simp_all; done) | (simp_all; omega))) | (refine ojs_call [] [] rfl rfl rfl rfl rfl rfl rfl (by simp) (fun _ => refMode_c _) (by simp) (.inl rfl) ?_; rintro e cs F1 _ ⟨rfl, rfl⟩))
theorem beq_iffD {p q : Prop} [Decidable p] [Decidable q] : ((decide p == decide q) = true) ↔ (p ↔ q) := by
  by_cases hp : p <;> by_cases hq : q <;> simp [hp, hq]
theorem sltB_iff {x : Slt} : sltB x = true ↔ ((0 ≤ x.use ∧ x.use ≤ 1099511627776) ∧ (0 ≤ x.state ∧ x.state ≤ 5) ∧ (x.use = 0 ↔ x.state = 0)) ∧ ((x.state = 1 ∨ x.state = 2) → 1 ≤ x.use ∧ wantB x.mode x.prio = true) ∧ (¬ (x.state = 1 ∨ x.state = 2) → x.mode = 0 ∧ x.prio = 0) ∧ (x.due = 0 ∨ (x.state = 1 ∧ tickB x.due = true)) ∧ (x.state = 2 → ctrB x.ctr = true) ∧ (x.state ≠ 2 → x.ctr.value = 0 ∧ x.ctr.floor = 0 ∧ x.ctr.version = 0) := by
  have e1 : ((x.use == 0) == (x.state == 0)) = true ↔ (x.use = 0 ↔ x.state = 0) := beq_iffD (p := x.use = 0) (q := x.state = 0)
  simp only [sltB, slt1B, slt2B, slt3B, slt4B, Bool.and_eq_true, Bool.or_eq_true, decide_eq_true_eq, e1]
  by_cases h1 : x.state = 1
  · have hO : sltOpen x = true := by simp [sltOpen, h1]
    rw [hO]
    cases ht : tickB x.due <;> simp [sltStat, hO, staB, wantB, h1] <;> omega
  by_cases h2 : x.state = 2
  · have hO : sltOpen x = true := by simp [sltOpen, h2]
    rw [hO]
    cases ht : ctrB x.ctr <;> simp [sltStat, hO, staB, wantB, h2] <;> omega
  · have hO : sltOpen x = false := by simp [sltOpen, h1, h2]
    rw [hO]
    simp [h1, h2]
    omega
end Go.Proofs.YtmhnlkakbadkgaaGreat
