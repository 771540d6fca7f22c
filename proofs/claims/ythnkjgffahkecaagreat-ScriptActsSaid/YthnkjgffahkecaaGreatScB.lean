/- Acts, by the symbolic run: the parts of an act; those of an ask, by its kind. -/
import Derived.Test.YthnkjgffahkecaaGreatScA
namespace Go.Proofs.YthnkjgffahkecaaGreat
open Go.RowKit Go.Shelf

theorem blk_cell {b o : Nat} {cs : List Value} {t : TypeId} {v : Value} (hv : cs[o]? = some v) (A : Nat → Prop) (w : World) (h : (blkF b cs t).h A w) : w.cell? ⟨b, o, none⟩ = some v := (cell_of_list (o := o) h.2).trans hv
theorem named1_c (a : Ac) : Cm Tryz.prog 38 [.agg (actL a).toArray] [] [] (rets (.int .i64 a.ask.kind)) := by
  refine cm_of (tab := tb) (ok := tbOk) [.g [.v (.int .i64 a.kind), .v (.int .i64 a.node), .v (.int .i64 a.at_), .v (.int .i64 a.num), .v (.int .i64 a.ask.kind), .v (.int .i64 a.ask.lock), .v (.int .i64 a.ask.mode), .v (.int .i64 a.ask.prio), .v (.int .i64 a.ask.ticks), .v (.int .i64 a.ask.slot), .v (.int .i64 a.ask.use), .v (.int .i64 a.ask.chg), .v (.int .i64 a.k0), .v (.int .i64 a.k1)]] Tryz.func38 Tryz.ntmps38 rfl rfl (fun _ _ => rfl) ?_
  intro w0 A0
  exact endR_ok [] rfl rfl ⟨rfl, rfl⟩ rfl (fun _ => ⟨rfl, rfl⟩) (by simp)
theorem named2_c (a : Ac) (z : Int) (b : Nat) : Cm Tryz.prog 39 [.pointer (some ⟨b, 0, none⟩), .int .i64 z] [(b, actL a, 39)] [] (putC (actL { a with ask := { a.ask with kind := z } })) := by
  refine cm_of (tab := tb) (ok := tbOk) [.o (.p 0 0), .o (.v (.int .i64 z))] Tryz.func39 Tryz.ntmps39 rfl rfl (fun ρ h => by simp [TV.den, SV.den, h 0 b rfl]) ?_
  intro w0 A0
  exact endR_ok [] rfl rfl ⟨rfl, rfl⟩ rfl (fun _ => ⟨rfl, rfl, rfl⟩) (by simp)
def byG (z : Int) : Int := if 0 < z then z - 1 else z
def byP (z : Int) : Int := if 0 ≤ z then z + 1 else z
theorem chg1_c (a : Ac) (h : a.ask.chg ≤ 9223372036854775807) : Cm Tryz.prog 94 [.agg (actL a).toArray] [] [] (rets (.int .i64 (byG a.ask.chg))) := by
  refine cm_of (tab := tb) (ok := tbOk) [.g [.v (.int .i64 a.kind), .v (.int .i64 a.node), .v (.int .i64 a.at_), .v (.int .i64 a.num), .v (.int .i64 a.ask.kind), .v (.int .i64 a.ask.lock), .v (.int .i64 a.ask.mode), .v (.int .i64 a.ask.prio), .v (.int .i64 a.ask.ticks), .v (.int .i64 a.ask.slot), .v (.int .i64 a.ask.use), .v (.int .i64 a.ask.chg), .v (.int .i64 a.k0), .v (.int .i64 a.k1)]] Tryz.func94 Tryz.ntmps94 rfl rfl (fun _ _ => rfl) ?_
  intro w0 A0
  refine brB_dec (fun h1 => ?_) (fun h1 => ?_)
  · refine ojs_arith (z := a.ask.chg - 1) (by rw [wrap_in] <;> omega) rfl rfl rfl rfl ?_
    exact endR_ok [] rfl rfl ⟨rfl, rfl⟩ rfl (fun _ => ⟨by unfold byG; rw [if_pos h1]; rfl, rfl⟩) (by simp)
  · exact endR_ok [] rfl rfl ⟨rfl, rfl⟩ rfl (fun _ => ⟨by unfold byG; rw [if_neg h1]; rfl, rfl⟩) (by simp)
theorem chg2_c (a : Ac) (z : Int) (b : Nat) (h1 : -128 ≤ z) (h2 : z ≤ 127) : Cm Tryz.prog 95 [.pointer (some ⟨b, 0, none⟩), .int .i64 z] [(b, actL a, 39)] [] (putC (actL { a with ask := { a.ask with chg := byP z } })) := by
  refine cm_of (tab := tb) (ok := tbOk) [.o (.p 0 0), .o (.v (.int .i64 z))] Tryz.func95 Tryz.ntmps95 rfl rfl (fun ρ h => by simp [TV.den, SV.den, h 0 b rfl]) ?_
  intro w0 A0
  refine brB_dec (fun h3 => ?_) (fun h3 => ?_)
  · refine ojs_arith (z := z + 1) (by rw [wrap_in] <;> omega) rfl rfl rfl rfl ?_
    exact endR_ok [] rfl rfl ⟨rfl, rfl⟩ rfl (fun _ => ⟨rfl, by unfold byP; rw [if_pos h3]; rfl, rfl⟩) (by simp)
  · exact endR_ok [] rfl rfl ⟨rfl, rfl⟩ rfl (fun _ => ⟨rfl, by unfold byP; rw [if_neg h3]; rfl, rfl⟩) (by simp)
theorem changes_c : Cm Tryz.prog 67 [] [] [] (rets (.agg #[.int .i64 (-128), .int .i64 127, .func (.func 94) #[] #[], .func (.func 95) #[] #[]])) := by
  refine cm_of (tab := tb) (ok := tbOk) [] Tryz.func67 Tryz.ntmps67 rfl rfl (fun _ _ => rfl) ?_
  intro w0 A0
  exact endR_ok [] rfl rfl ⟨rfl, rfl⟩ rfl (fun _ => ⟨rfl, rfl⟩) (by simp)
theorem kept1_c (i : Nat) (hi : i < 2) (a : Ac) (b : Nat) : Cm Tryz.prog 72 [.agg (actL a).toArray, .pointer (some ⟨b, 0, none⟩)] [] [blkF b [.int .i64 i] 3] (rets (.int .i64 (if i = 0 then a.k0 else a.k1))) := by
  refine cm_of (tab := tb) (ok := tbOk) [.g [.v (.int .i64 a.kind), .v (.int .i64 a.node), .v (.int .i64 a.at_), .v (.int .i64 a.num), .v (.int .i64 a.ask.kind), .v (.int .i64 a.ask.lock), .v (.int .i64 a.ask.mode), .v (.int .i64 a.ask.prio), .v (.int .i64 a.ask.ticks), .v (.int .i64 a.ask.slot), .v (.int .i64 a.ask.use), .v (.int .i64 a.ask.chg), .v (.int .i64 a.k0), .v (.int .i64 a.k1)], .o (.v (.pointer (some ⟨b, 0, none⟩)))] Tryz.func72 Tryz.ntmps72 rfl rfl (fun _ _ => rfl) ?_
  intro w0 A0
  refine ojs_load1 (blkF b [.int .i64 i] 3) (by simp) (blk_cell rfl) rfl rfl rfl ?_
  refine ojs_indexA (i := i) rfl hi rfl rfl rfl rfl ?_
  obtain rfl | rfl : i = 0 ∨ i = 1 := by omega
  · exact endR_ok [] rfl rfl ⟨rfl, rfl⟩ rfl (fun _ => ⟨rfl, rfl⟩) (by simp)
  · exact endR_ok [] rfl rfl ⟨rfl, rfl⟩ rfl (fun _ => ⟨rfl, rfl⟩) (by simp)
theorem kept2_c (i : Nat) (hi : i < 2) (a : Ac) (z : Int) (b c : Nat) : Cm Tryz.prog 73 [.pointer (some ⟨b, 0, none⟩), .int .i64 z, .pointer (some ⟨c, 0, none⟩)] [(b, actL a, 39)] [blkF c [.int .i64 i] 3] (putC (actL (if i = 0 then { a with k0 := z } else { a with k1 := z }))) := by
  refine cm_of (tab := tb) (ok := tbOk) [.o (.p 0 0), .o (.v (.int .i64 z)), .o (.v (.pointer (some ⟨c, 0, none⟩)))] Tryz.func73 Tryz.ntmps73 rfl rfl (fun ρ h => by simp [TV.den, SV.den, h 0 b rfl]) ?_
  intro w0 A0
  refine cjs_drawn [6] (.op 0 <| .op 1 <| .op 2 <| .op 3 <| .op 4 <| .op 5 <| .op 6 .z) [] [] [] [blkF c [.int .i64 i] 3] (by kernel_rfl) (by kernel_rfl) rfl (by simp) (by simp) ?_
  intro N
  refine ⟨_, yd_load1 (blkF c [.int .i64 i] 3) (by simp) (blk_cell rfl) rfl rfl rfl, ?_⟩
  refine ⟨_, yd_indexA (i := i) rfl hi rfl rfl rfl rfl, ?_⟩
  obtain rfl | rfl : i = 0 ∨ i = 1 := by omega
  all_goals (refine ⟨⟨(by repeat' (first | exact trivial | refine ⟨Or.inl rfl, ?_⟩ | refine ⟨Or.inr ⟨rfl, Nat.le_of_ble_eq_true rfl, _, rfl, rfl, rfl⟩, ?_⟩)), by simp⟩, ?_⟩)
  · exact endR_ok [] rfl rfl ⟨rfl, rfl⟩ rfl (fun _ => ⟨rfl, rfl, rfl⟩) (by simp)
  · exact endR_ok [] rfl rfl ⟨rfl, rfl⟩ rfl (fun _ => ⟨rfl, rfl, rfl⟩) (by simp)
def keptR (i : Int) : OutT := fun e _ F1 => ∃ b, e = .returned (.agg #[.int .i64 0, .int .i64 255, .func (.func 72) #[] #[.pointer (some ⟨b, 0, none⟩)], .func (.func 73) #[] #[.pointer (some ⟨b, 0, none⟩)]]) ∧ F1 = [blkF b [.int .i64 i] 3]
theorem kept_c (i : Int) : Cm Tryz.prog 44 [.int .i64 i] [] [] (keptR i) := by
  refine cm_of (tab := tb) (ok := tbOk) [.o (.v (.int .i64 i))] Tryz.func44 Tryz.ntmps44 rfl rfl (fun _ _ => rfl) ?_
  intro w0 A0
  exact endR_seal [0] [] rfl rfl rfl rfl ⟨rfl, rfl⟩ rfl (fun ρ => ⟨ρ 0, rfl, rfl⟩) (by simp)
def Pt := Int × Int × Value × Value
def encPt (p : Pt) : List Value := [.int .i64 p.1, .int .i64 p.2.1, p.2.2.1, p.2.2.2]
theorem encPt_len (p : Pt) : (encPt p).length = 4 := rfl
abbrev fnV (f : Nat) : Value := .func (.func f) #[] #[]
def ptNodes (n : Int) : Pt := (0, n - 1, fnV 59, fnV 60)
def ptLocks (l : Int) : Pt := (0, l - 1, fnV 82, fnV 83)
def ptSlots (s : Int) : Pt := (0, s - 1, fnV 84, fnV 85)
def ptModes : Pt := (1, 5, fnV 88, fnV 89)
def ptPrios : Pt := (0, 3, fnV 90, fnV 91)
def ptTicks : Pt := (0, 255, fnV 92, fnV 93)
def ptUses : Pt := (1, 256, fnV 86, fnV 87)
def ptChanges : Pt := (-128, 127, fnV 94, fnV 95)
def ptPlaces : Pt := (0, 255, fnV 68, fnV 69)
def ptStops : Pt := (0, 255, fnV 70, fnV 71)
def ptKept (b : Nat) : Pt := (0, 255, .func (.func 72) #[] #[.pointer (some ⟨b, 0, none⟩)], .func (.func 73) #[] #[.pointer (some ⟨b, 0, none⟩)])
def ptKind : Pt := (1, 7, fnV 38, fnV 39)

/-- What an ask names, by its kind. -/
def tickP (l s : Int) : List Pt := [ptLocks l, ptSlots s, ptUses]
def asksP (l s q : Int) : List Pt :=
  if q = 1 then [ptLocks l, ptModes, ptPrios, ptTicks] else if q = 2 then [ptLocks l, ptModes, ptPrios] else if q = 3 then tickP l s else if q = 4 then tickP l s else if q = 5 then tickP l s else if q = 6 then tickP l s
  else if q = 7 then tickP l s ++ [ptChanges] else []
abbrev ptV (p : Pt) : Value := .agg (encPt p).toArray
/-- A map of the parts of asks. -/
def askMF (l s : Int) (v : Value) : Fact where
  h A w := ∃ g ms, v = .map (some g) ∧ (objF g (mapO ms)).h A w ∧ ∀ q, (∃ u, mlook ms q = some u ∧ (slF encPt 4 u (asksP l s q)).h A w ∧ asksP l s q ≠ []) ∨ (mlook ms q = none ∧ asksP l s q = [])
  ok := fun {A A' w w'} hA hw hg h => by
    obtain ⟨g, ms, e, h1, h2⟩ := h
    refine ⟨g, ms, e, (objF g (mapO ms)).ok hA hw hg h1, fun q => ?_⟩
    rcases h2 q with ⟨u, e1, e2, e3⟩ | h3
    · exact .inl ⟨u, e1, (slF encPt 4 u _).ok hA hw hg e2, e3⟩
    · exact .inr h3
set_option maxHeartbeats 4000000 in
theorem asks_c (n l s : Int) (hs : 1 ≤ n ∧ n ≤ 64 ∧ 1 ≤ l ∧ l ≤ 8 ∧ 1 ≤ s ∧ s ≤ 4) : Cm Tryz.prog 41 [.agg (shL n l s).toArray] [] [] (fun e _ F1 => ∃ v, e = .returned v ∧ F1 = [askMF l s v]) := by
  refine cm_of (tab := tb) (ok := tbOk) [.g [.v (.int .i64 n), .v (.int .i64 l), .v (.int .i64 s)]] Tryz.func41 Tryz.ntmps41 rfl rfl (fun _ _ => rfl) ?_
  intro w0 A0
  have hs3 : 1 ≤ l ∧ l ≤ 8 ∧ 1 ≤ s ∧ s ≤ 4 := by omega
  refine cjs_drawn [1, 3, 4, 5] (.op 0 <| .op 2 <| .op 1 <| .op 3 <| .op 4 <| .op 5 <| .op 6 .z) [0] [] [] [] (by kernel_rfl) (by kernel_rfl) rfl (by simp) (by simp) ?_
  intro N
  refine ojs_call [] [] rfl rfl rfl rfl rfl rfl rfl (by simp) (fun _ => scr_locks n l s hs) (by simp) (.inl rfl) ?_
  rintro e cs F1 _ ⟨rfl, rfl⟩
  refine ⟨⟨(by repeat' (first | exact trivial | refine ⟨Or.inl rfl, ?_⟩ | refine ⟨Or.inr ⟨rfl, Nat.le_of_ble_eq_true rfl, _, rfl, rfl, rfl⟩, ?_⟩)), by simp⟩, ?_⟩
  refine ojs_call [] [] rfl rfl rfl rfl rfl rfl rfl (by simp) (fun _ => scr_slots n l s hs) (by simp) (.inl rfl) ?_
  rintro e cs F1 _ ⟨rfl, rfl⟩
  refine ⟨⟨(by repeat' (first | exact trivial | refine ⟨Or.inl rfl, ?_⟩ | refine ⟨Or.inr ⟨rfl, Nat.le_of_ble_eq_true rfl, _, rfl, rfl, rfl⟩, ?_⟩)), by simp⟩, ?_⟩
  refine ojs_call [] [] rfl rfl rfl rfl rfl rfl rfl (by simp) (fun _ => scr_uses) (by simp) (.inl rfl) ?_
  rintro e cs F1 _ ⟨rfl, rfl⟩
  refine ⟨⟨(by repeat' (first | exact trivial | refine ⟨Or.inl rfl, ?_⟩ | refine ⟨Or.inr ⟨rfl, Nat.le_of_ble_eq_true rfl, _, rfl, rfl, rfl⟩, ?_⟩)), by simp⟩, ?_⟩
  refine ⟨⟨(by repeat' (first | exact trivial | refine ⟨Or.inl rfl, ?_⟩ | refine ⟨Or.inr ⟨rfl, Nat.le_of_ble_eq_true rfl, _, rfl, rfl, rfl⟩, ?_⟩)), by simp⟩, ?_⟩
  refine cjs_litOwn 3 4 ((tickP l s).flatMap encPt) rfl rfl rfl (by decide) fun g => ?_
  refine cjs_weak (wk_seal (j := 1) (enc := encPt) (xs := tickP l s) (.inl rfl) encPt_len rfl rfl) ?_
  refine cjs_lit ⟨_, [(1, .o (.p 0 0)), (3, .o (.v (.slice (some ⟨g, 0, none⟩) 3 3)))], [(0, .c [.v (.int .i64 n), .v (.int .i64 l), .v (.int .i64 s)] 23)], 2, [slF encPt 4 (.slice (some ⟨g, 0, none⟩) 3 3) (tickP l s)], fun _ => [],
    [(1, fun v => v = Value.agg (shL n l s).toArray), (2, fun v => v = ptV (ptLocks l)), (3, fun v => v = ptV ptModes), (4, fun v => v = ptV ptPrios), (5, fun v => v = ptV ptTicks), (6, fun v => ∃ g, v = .slice (some ⟨g, 0, none⟩) 4 4), (8, fun v => v = Value.agg (shL n l s).toArray), (9, fun v => v = ptV (ptLocks l)), (10, fun v => v = ptV ptModes), (11, fun v => v = ptV ptPrios), (12, fun v => ∃ g, v = .slice (some ⟨g, 0, none⟩) 3 3), (14, fun v => v = Value.slice (some ⟨g, 0, none⟩) 3 3), (16, fun v => v = Value.slice (some ⟨g, 0, none⟩) 3 3), (18, fun v => v = Value.slice (some ⟨g, 0, none⟩) 3 3), (20, fun v => v = Value.slice (some ⟨g, 0, none⟩) 3 3), (22, fun v => v = Value.slice (some ⟨g, 0, none⟩) 3 3), (23, fun v => v = Value.slice (some ⟨g, 0, none⟩) 3 3), (24, fun v => v = ptV ptChanges), (25, fun v => ∃ g, v = .slice (some ⟨g, 0, none⟩) 1 1), (26, fun v => ∃ a c, v = .slice a 4 c)], [(6, fun v => [slF encPt 4 v [ptLocks l, ptModes, ptPrios, ptTicks]]), (12, fun v => [slF encPt 4 v [ptLocks l, ptModes, ptPrios]]), (25, fun v => [slF encPt 4 v [ptChanges]]), (26, fun v => [slF encPt 4 v (tickP l s ++ [ptChanges])])], 0, [(7, 1, 6), (13, 2, 12), (15, 3, 14), (17, 4, 16), (19, 5, 18), (21, 6, 20), (27, 7, 26)], [28, 29]⟩ rfl [29, 6, 12, 14, 16, 18, 20, 26] (by kernel_rfl) (by kernel_rfl) (by kernel_rfl) (by kernel_rfl) (by kernel_rfl) (by kernel_rfl) (by kernel_rfl) (by kernel_rfl) (by exact Nat.zero_le _) (fun _ _ _ => rfl)
    (wk_dead.trans (wk_patch (by repeat' (first | exact trivial | exact Or.inl rfl | refine Or.inr ⟨?_, ?_⟩ | rfl | refine ⟨?_, ?_⟩ | exact lt_all_v)) (by repeat' (first | exact trivial | exact Or.inl rfl | refine Or.inr ⟨?_, ?_⟩ | rfl | refine ⟨?_, ?_⟩ | exact lt_all_v)) (by simp) (by simp) D_nil)) ?_ ?_
  · refine ⟨fun done env mp T nn F hi hd H => ?_, ?_⟩
    · -- 0: makeMap 98 none
      exact lit_makeMap H rfl hi rfl rfl rfl rfl (fun _ => (show True from trivial)) (fun _ => rfl)
    refine ⟨fun done env mp T nn F hi hd H => ?_, ?_⟩
    · -- 1: load 23 t1
      have b1 : alook T 1 = some (.o (.p 0 0)) := H.hT 1 _ rfl
      refine ojs_vis [(1, .o (.p 0 0))] (fun p hp => by simp only [List.mem_cons, List.not_mem_nil, or_false] at hp; rcases hp with rfl <;> first | exact b1) ?_
      refine opK_sound ?_
      exact litK_val (v := Value.agg (shL n l s).toArray) H rfl (fun p hp => by simp only [List.mem_cons, List.not_mem_nil, or_false] at hp; rcases hp with rfl <;> first | exact b1) (fun _ => rfl) (show Value.agg (shL n l s).toArray = Value.agg (shL n l s).toArray from rfl) hi rfl rfl rfl rfl (Nat.le_refl _) (fun A w h => h)
    refine ⟨fun done env mp T nn F hi hd H => ?_, ?_⟩
    · -- 2: call { callee := value (func 61), args := #[t11], argTypes :
      have d1 := dep_done hd 1 rfl
      have t1 : alook T 11 = some (.o (.v (Value.agg (shL n l s).toArray))) := (H.ht 1 _ 11 rfl rfl d1).trans (congrArg (fun v => some (TV.o (.v v))) (show env 1 = Value.agg (shL n l s).toArray from H.hv 1 d1))
      refine ojs_vis [(11, .o (.v (Value.agg (shL n l s).toArray)))] (fun p hp => by simp only [List.mem_cons, List.not_mem_nil, or_false] at hp; rcases hp with rfl <;> first | exact t1) ?_
      refine ojs_call [] [] rfl rfl rfl rfl rfl rfl rfl (by simp) (fun _ => scr_locks n l s hs) (by simp) (.inl rfl) ?_
      rintro e cs F1 _ ⟨rfl, rfl⟩
      exact litK_val (v := ptV (ptLocks l)) H rfl (fun p hp => by simp only [List.mem_cons, List.not_mem_nil, or_false] at hp; rcases hp with rfl <;> first | exact t1) (fun _ => rfl) (show ptV (ptLocks l) = ptV (ptLocks l) from rfl) hi rfl rfl rfl rfl (Nat.le_refl _) (fun A w h => h)
    refine ⟨fun done env mp T nn F hi hd H => ?_, ?_⟩
    · -- 3: call { callee := value (func 64), args := #[], argTypes := #
      refine ojs_vis [] (fun p hp => by cases hp) ?_
      refine ojs_call [] [] rfl rfl rfl rfl rfl rfl rfl (by simp) (fun _ => scr_modes) (by simp) (.inl rfl) ?_
      rintro e cs F1 _ ⟨rfl, rfl⟩
      exact litK_val (v := ptV ptModes) H rfl (fun p hp => by cases hp) (fun _ => rfl) (show ptV ptModes = ptV ptModes from rfl) hi rfl rfl rfl rfl (Nat.le_refl _) (fun A w h => h)
    refine ⟨fun done env mp T nn F hi hd H => ?_, ?_⟩
    · -- 4: call { callee := value (func 65), args := #[], argTypes := #
      refine ojs_vis [] (fun p hp => by cases hp) ?_
      refine ojs_call [] [] rfl rfl rfl rfl rfl rfl rfl (by simp) (fun _ => scr_prios) (by simp) (.inl rfl) ?_
      rintro e cs F1 _ ⟨rfl, rfl⟩
      exact litK_val (v := ptV ptPrios) H rfl (fun p hp => by cases hp) (fun _ => rfl) (show ptV ptPrios = ptV ptPrios from rfl) hi rfl rfl rfl rfl (Nat.le_refl _) (fun A w h => h)
    refine ⟨fun done env mp T nn F hi hd H => ?_, ?_⟩
    · -- 5: call { callee := value (func 66), args := #[], argTypes := #
      refine ojs_vis [] (fun p hp => by cases hp) ?_
      refine ojs_call [] [] rfl rfl rfl rfl rfl rfl rfl (by simp) (fun _ => scr_ticks) (by simp) (.inl rfl) ?_
      rintro e cs F1 _ ⟨rfl, rfl⟩
      exact litK_val (v := ptV ptTicks) H rfl (fun p hp => by cases hp) (fun _ => rfl) (show ptV ptTicks = ptV ptTicks from rfl) hi rfl rfl rfl rfl (Nat.le_refl _) (fun A w h => h)
    refine ⟨fun done env mp T nn F hi hd H => ?_, ?_⟩
    · -- 6: buildSlice 60 4 #[(0, t12), (1, t13), (2, t14), (3, t15)]
      have d2 := dep_done hd 2 rfl
      have t2 : alook T 12 = some (.o (.v (ptV (ptLocks l)))) := (H.ht 2 _ 12 rfl rfl d2).trans (congrArg (fun v => some (TV.o (.v v))) (show env 2 = ptV (ptLocks l) from H.hv 2 d2))
      have d3 := dep_done hd 3 rfl
      have t3 : alook T 13 = some (.o (.v (ptV ptModes))) := (H.ht 3 _ 13 rfl rfl d3).trans (congrArg (fun v => some (TV.o (.v v))) (show env 3 = ptV ptModes from H.hv 3 d3))
      have d4 := dep_done hd 4 rfl
      have t4 : alook T 14 = some (.o (.v (ptV ptPrios))) := (H.ht 4 _ 14 rfl rfl d4).trans (congrArg (fun v => some (TV.o (.v v))) (show env 4 = ptV ptPrios from H.hv 4 d4))
      have d5 := dep_done hd 5 rfl
      have t5 : alook T 15 = some (.o (.v (ptV ptTicks))) := (H.ht 5 _ 15 rfl rfl d5).trans (congrArg (fun v => some (TV.o (.v v))) (show env 5 = ptV ptTicks from H.hv 5 d5))
      refine ojs_vis [(12, .o (.v (ptV (ptLocks l)))), (13, .o (.v (ptV ptModes))), (14, .o (.v (ptV ptPrios))), (15, .o (.v (ptV ptTicks)))] (fun p hp => by simp only [List.mem_cons, List.not_mem_nil, or_false] at hp; rcases hp with rfl | rfl | rfl | rfl <;> first | exact t2 | exact t3 | exact t4 | exact t5) ?_
      refine opK_sound ?_
      exact litK_slice (cells := ([ptLocks l, ptModes, ptPrios, ptTicks]).flatMap encPt) ([ptLocks l, ptModes, ptPrios, ptTicks]) H rfl (fun p hp => by simp only [List.mem_cons, List.not_mem_nil, or_false] at hp; rcases hp with rfl | rfl | rfl | rfl <;> first | exact t2 | exact t3 | exact t4 | exact t5) rfl rfl encPt_len rfl (by decide) (fun g => (show ∃ g', Value.slice (some ⟨g, 0, none⟩) 4 4 = .slice (some ⟨g', 0, none⟩) 4 4 from ⟨g, rfl⟩)) hi rfl rfl rfl rfl (fun g A w h _ f hf => by cases List.mem_singleton.1 hf; exact h)
    refine ⟨fun done env mp T nn F hi hd H => ?_, ?_⟩
    · -- 7: insert 98 t10 (const (int i64 1)) t16
      exact lit_insert (j := 6) (v := undef) H hi rfl rfl rfl rfl rfl rfl rfl (by kernel_rfl) rfl rfl (dep_done hd 0 rfl) (dep_done hd 6 rfl) (H.ht 0 _ 10 rfl rfl (dep_done hd 0 rfl)) (H.ht 6 _ 16 rfl rfl (dep_done hd 6 rfl)) (show True from trivial) rfl
    refine ⟨fun done env mp T nn F hi hd H => ?_, ?_⟩
    · -- 8: load 23 t1
      have b1 : alook T 1 = some (.o (.p 0 0)) := H.hT 1 _ rfl
      refine ojs_vis [(1, .o (.p 0 0))] (fun p hp => by simp only [List.mem_cons, List.not_mem_nil, or_false] at hp; rcases hp with rfl <;> first | exact b1) ?_
      refine opK_sound ?_
      exact litK_val (v := Value.agg (shL n l s).toArray) H rfl (fun p hp => by simp only [List.mem_cons, List.not_mem_nil, or_false] at hp; rcases hp with rfl <;> first | exact b1) (fun _ => rfl) (show Value.agg (shL n l s).toArray = Value.agg (shL n l s).toArray from rfl) hi rfl rfl rfl rfl (Nat.le_refl _) (fun A w h => h)
    refine ⟨fun done env mp T nn F hi hd H => ?_, ?_⟩
    · -- 9: call { callee := value (func 61), args := #[t17], argTypes :
      have d8 := dep_done hd 8 rfl
      have t8 : alook T 17 = some (.o (.v (Value.agg (shL n l s).toArray))) := (H.ht 8 _ 17 rfl rfl d8).trans (congrArg (fun v => some (TV.o (.v v))) (show env 8 = Value.agg (shL n l s).toArray from H.hv 8 d8))
      refine ojs_vis [(17, .o (.v (Value.agg (shL n l s).toArray)))] (fun p hp => by simp only [List.mem_cons, List.not_mem_nil, or_false] at hp; rcases hp with rfl <;> first | exact t8) ?_
      refine ojs_call [] [] rfl rfl rfl rfl rfl rfl rfl (by simp) (fun _ => scr_locks n l s hs) (by simp) (.inl rfl) ?_
      rintro e cs F1 _ ⟨rfl, rfl⟩
      exact litK_val (v := ptV (ptLocks l)) H rfl (fun p hp => by simp only [List.mem_cons, List.not_mem_nil, or_false] at hp; rcases hp with rfl <;> first | exact t8) (fun _ => rfl) (show ptV (ptLocks l) = ptV (ptLocks l) from rfl) hi rfl rfl rfl rfl (Nat.le_refl _) (fun A w h => h)
    refine ⟨fun done env mp T nn F hi hd H => ?_, ?_⟩
    · -- 10: call { callee := value (func 64), args := #[], argTypes := #
      refine ojs_vis [] (fun p hp => by cases hp) ?_
      refine ojs_call [] [] rfl rfl rfl rfl rfl rfl rfl (by simp) (fun _ => scr_modes) (by simp) (.inl rfl) ?_
      rintro e cs F1 _ ⟨rfl, rfl⟩
      exact litK_val (v := ptV ptModes) H rfl (fun p hp => by cases hp) (fun _ => rfl) (show ptV ptModes = ptV ptModes from rfl) hi rfl rfl rfl rfl (Nat.le_refl _) (fun A w h => h)
    refine ⟨fun done env mp T nn F hi hd H => ?_, ?_⟩
    · -- 11: call { callee := value (func 65), args := #[], argTypes := #
      refine ojs_vis [] (fun p hp => by cases hp) ?_
      refine ojs_call [] [] rfl rfl rfl rfl rfl rfl rfl (by simp) (fun _ => scr_prios) (by simp) (.inl rfl) ?_
      rintro e cs F1 _ ⟨rfl, rfl⟩
      exact litK_val (v := ptV ptPrios) H rfl (fun p hp => by cases hp) (fun _ => rfl) (show ptV ptPrios = ptV ptPrios from rfl) hi rfl rfl rfl rfl (Nat.le_refl _) (fun A w h => h)
    refine ⟨fun done env mp T nn F hi hd H => ?_, ?_⟩
    · -- 12: buildSlice 60 3 #[(0, t18), (1, t19), (2, t20)]
      have d9 := dep_done hd 9 rfl
      have t9 : alook T 18 = some (.o (.v (ptV (ptLocks l)))) := (H.ht 9 _ 18 rfl rfl d9).trans (congrArg (fun v => some (TV.o (.v v))) (show env 9 = ptV (ptLocks l) from H.hv 9 d9))
      have d10 := dep_done hd 10 rfl
      have t10 : alook T 19 = some (.o (.v (ptV ptModes))) := (H.ht 10 _ 19 rfl rfl d10).trans (congrArg (fun v => some (TV.o (.v v))) (show env 10 = ptV ptModes from H.hv 10 d10))
      have d11 := dep_done hd 11 rfl
      have t11 : alook T 20 = some (.o (.v (ptV ptPrios))) := (H.ht 11 _ 20 rfl rfl d11).trans (congrArg (fun v => some (TV.o (.v v))) (show env 11 = ptV ptPrios from H.hv 11 d11))
      refine ojs_vis [(18, .o (.v (ptV (ptLocks l)))), (19, .o (.v (ptV ptModes))), (20, .o (.v (ptV ptPrios)))] (fun p hp => by simp only [List.mem_cons, List.not_mem_nil, or_false] at hp; rcases hp with rfl | rfl | rfl <;> first | exact t9 | exact t10 | exact t11) ?_
      refine opK_sound ?_
      exact litK_slice (cells := ([ptLocks l, ptModes, ptPrios]).flatMap encPt) ([ptLocks l, ptModes, ptPrios]) H rfl (fun p hp => by simp only [List.mem_cons, List.not_mem_nil, or_false] at hp; rcases hp with rfl | rfl | rfl <;> first | exact t9 | exact t10 | exact t11) rfl rfl encPt_len rfl (by decide) (fun g => (show ∃ g', Value.slice (some ⟨g, 0, none⟩) 3 3 = .slice (some ⟨g', 0, none⟩) 3 3 from ⟨g, rfl⟩)) hi rfl rfl rfl rfl (fun g A w h _ f hf => by cases List.mem_singleton.1 hf; exact h)
    refine ⟨fun done env mp T nn F hi hd H => ?_, ?_⟩
    · -- 13: insert 98 t10 (const (int i64 2)) t21
      exact lit_insert (j := 12) (v := undef) H hi rfl rfl rfl rfl rfl rfl rfl (by kernel_rfl) rfl rfl (dep_done hd 0 rfl) (dep_done hd 12 rfl) (H.ht 0 _ 10 rfl rfl (dep_done hd 0 rfl)) (H.ht 12 _ 21 rfl rfl (dep_done hd 12 rfl)) (show True from trivial) rfl
    refine ⟨fun done env mp T nn F hi hd H => ?_, ?_⟩
    · -- 14: move t3
      have b3 : alook T 3 = some (.o (.v (.slice (some ⟨g, 0, none⟩) 3 3))) := H.hT 3 _ rfl
      refine ojs_vis [(3, .o (.v (.slice (some ⟨g, 0, none⟩) 3 3)))] (fun p hp => by simp only [List.mem_cons, List.not_mem_nil, or_false] at hp; rcases hp with rfl <;> first | exact b3) ?_
      refine opK_sound ?_
      exact litK_val (v := Value.slice (some ⟨g, 0, none⟩) 3 3) H rfl (fun p hp => by simp only [List.mem_cons, List.not_mem_nil, or_false] at hp; rcases hp with rfl <;> first | exact b3) (fun _ => rfl) (show Value.slice (some ⟨g, 0, none⟩) 3 3 = Value.slice (some ⟨g, 0, none⟩) 3 3 from rfl) hi rfl rfl rfl rfl (Nat.le_refl _) (fun A w h => h)
    refine ⟨fun done env mp T nn F hi hd H => ?_, ?_⟩
    · -- 15: insert 98 t10 (const (int i64 3)) t22
      exact lit_insert (j := 14) (v := undef) H hi rfl rfl rfl rfl rfl rfl rfl (by kernel_rfl) rfl rfl (dep_done hd 0 rfl) (dep_done hd 14 rfl) (H.ht 0 _ 10 rfl rfl (dep_done hd 0 rfl)) (H.ht 14 _ 22 rfl rfl (dep_done hd 14 rfl)) (show True from trivial) rfl
    refine ⟨fun done env mp T nn F hi hd H => ?_, ?_⟩
    · -- 16: move t3
      have b3 : alook T 3 = some (.o (.v (.slice (some ⟨g, 0, none⟩) 3 3))) := H.hT 3 _ rfl
      refine ojs_vis [(3, .o (.v (.slice (some ⟨g, 0, none⟩) 3 3)))] (fun p hp => by simp only [List.mem_cons, List.not_mem_nil, or_false] at hp; rcases hp with rfl <;> first | exact b3) ?_
      refine opK_sound ?_
      exact litK_val (v := Value.slice (some ⟨g, 0, none⟩) 3 3) H rfl (fun p hp => by simp only [List.mem_cons, List.not_mem_nil, or_false] at hp; rcases hp with rfl <;> first | exact b3) (fun _ => rfl) (show Value.slice (some ⟨g, 0, none⟩) 3 3 = Value.slice (some ⟨g, 0, none⟩) 3 3 from rfl) hi rfl rfl rfl rfl (Nat.le_refl _) (fun A w h => h)
    refine ⟨fun done env mp T nn F hi hd H => ?_, ?_⟩
    · -- 17: insert 98 t10 (const (int i64 4)) t23
      exact lit_insert (j := 16) (v := undef) H hi rfl rfl rfl rfl rfl rfl rfl (by kernel_rfl) rfl rfl (dep_done hd 0 rfl) (dep_done hd 16 rfl) (H.ht 0 _ 10 rfl rfl (dep_done hd 0 rfl)) (H.ht 16 _ 23 rfl rfl (dep_done hd 16 rfl)) (show True from trivial) rfl
    refine ⟨fun done env mp T nn F hi hd H => ?_, ?_⟩
    · -- 18: move t3
      have b3 : alook T 3 = some (.o (.v (.slice (some ⟨g, 0, none⟩) 3 3))) := H.hT 3 _ rfl
      refine ojs_vis [(3, .o (.v (.slice (some ⟨g, 0, none⟩) 3 3)))] (fun p hp => by simp only [List.mem_cons, List.not_mem_nil, or_false] at hp; rcases hp with rfl <;> first | exact b3) ?_
      refine opK_sound ?_
      exact litK_val (v := Value.slice (some ⟨g, 0, none⟩) 3 3) H rfl (fun p hp => by simp only [List.mem_cons, List.not_mem_nil, or_false] at hp; rcases hp with rfl <;> first | exact b3) (fun _ => rfl) (show Value.slice (some ⟨g, 0, none⟩) 3 3 = Value.slice (some ⟨g, 0, none⟩) 3 3 from rfl) hi rfl rfl rfl rfl (Nat.le_refl _) (fun A w h => h)
    refine ⟨fun done env mp T nn F hi hd H => ?_, ?_⟩
    · -- 19: insert 98 t10 (const (int i64 5)) t24
      exact lit_insert (j := 18) (v := undef) H hi rfl rfl rfl rfl rfl rfl rfl (by kernel_rfl) rfl rfl (dep_done hd 0 rfl) (dep_done hd 18 rfl) (H.ht 0 _ 10 rfl rfl (dep_done hd 0 rfl)) (H.ht 18 _ 24 rfl rfl (dep_done hd 18 rfl)) (show True from trivial) rfl
    refine ⟨fun done env mp T nn F hi hd H => ?_, ?_⟩
    · -- 20: move t3
      have b3 : alook T 3 = some (.o (.v (.slice (some ⟨g, 0, none⟩) 3 3))) := H.hT 3 _ rfl
      refine ojs_vis [(3, .o (.v (.slice (some ⟨g, 0, none⟩) 3 3)))] (fun p hp => by simp only [List.mem_cons, List.not_mem_nil, or_false] at hp; rcases hp with rfl <;> first | exact b3) ?_
      refine opK_sound ?_
      exact litK_val (v := Value.slice (some ⟨g, 0, none⟩) 3 3) H rfl (fun p hp => by simp only [List.mem_cons, List.not_mem_nil, or_false] at hp; rcases hp with rfl <;> first | exact b3) (fun _ => rfl) (show Value.slice (some ⟨g, 0, none⟩) 3 3 = Value.slice (some ⟨g, 0, none⟩) 3 3 from rfl) hi rfl rfl rfl rfl (Nat.le_refl _) (fun A w h => h)
    refine ⟨fun done env mp T nn F hi hd H => ?_, ?_⟩
    · -- 21: insert 98 t10 (const (int i64 6)) t25
      exact lit_insert (j := 20) (v := undef) H hi rfl rfl rfl rfl rfl rfl rfl (by kernel_rfl) rfl rfl (dep_done hd 0 rfl) (dep_done hd 20 rfl) (H.ht 0 _ 10 rfl rfl (dep_done hd 0 rfl)) (H.ht 20 _ 25 rfl rfl (dep_done hd 20 rfl)) (show True from trivial) rfl
    refine ⟨fun done env mp T nn F hi hd H => ?_, ?_⟩
    · -- 22: move t3
      have b3 : alook T 3 = some (.o (.v (.slice (some ⟨g, 0, none⟩) 3 3))) := H.hT 3 _ rfl
      refine ojs_vis [(3, .o (.v (.slice (some ⟨g, 0, none⟩) 3 3)))] (fun p hp => by simp only [List.mem_cons, List.not_mem_nil, or_false] at hp; rcases hp with rfl <;> first | exact b3) ?_
      refine opK_sound ?_
      exact litK_val (v := Value.slice (some ⟨g, 0, none⟩) 3 3) H rfl (fun p hp => by simp only [List.mem_cons, List.not_mem_nil, or_false] at hp; rcases hp with rfl <;> first | exact b3) (fun _ => rfl) (show Value.slice (some ⟨g, 0, none⟩) 3 3 = Value.slice (some ⟨g, 0, none⟩) 3 3 from rfl) hi rfl rfl rfl rfl (Nat.le_refl _) (fun A w h => h)
    refine ⟨fun done env mp T nn F hi hd H => ?_, ?_⟩
    · -- 23: slice 60 t26 none (some (const (int i64 3))) (some (const (i
      have d22 := dep_done hd 22 rfl
      have t22 : alook T 26 = some (.o (.v (Value.slice (some ⟨g, 0, none⟩) 3 3))) := (H.ht 22 _ 26 rfl rfl d22).trans (congrArg (fun v => some (TV.o (.v v))) (show env 22 = Value.slice (some ⟨g, 0, none⟩) 3 3 from H.hv 22 d22))
      refine ojs_vis [(26, .o (.v (Value.slice (some ⟨g, 0, none⟩) 3 3)))] (fun p hp => by simp only [List.mem_cons, List.not_mem_nil, or_false] at hp; subst hp; exact t22) ?_
      refine ojs_yd (yd_slice3 (i := 3) rfl rfl (by decide) (by decide) rfl rfl rfl rfl rfl) rfl ?_
      exact litK_val (v := Value.slice (some ⟨g, 0, none⟩) 3 3) H rfl (fun p hp => by simp only [List.mem_cons, List.not_mem_nil, or_false] at hp; subst hp; exact t22) (fun _ => rfl) (show Value.slice (some ⟨g, 0, none⟩) 3 3 = Value.slice (some ⟨g, 0, none⟩) 3 3 from rfl) hi rfl rfl rfl rfl (Nat.le_refl _) (fun A w h => h)
    refine ⟨fun done env mp T nn F hi hd H => ?_, ?_⟩
    · -- 24: call { callee := value (func 67), args := #[], argTypes := #
      refine ojs_vis [] (fun p hp => by cases hp) ?_
      refine ojs_call [] [] rfl rfl rfl rfl rfl rfl rfl (by simp) (fun _ => changes_c) (by simp) (.inl rfl) ?_
      rintro e cs F1 _ ⟨rfl, rfl⟩
      exact litK_val (v := ptV ptChanges) H rfl (fun p hp => by cases hp) (fun _ => rfl) (show ptV ptChanges = ptV ptChanges from rfl) hi rfl rfl rfl rfl (Nat.le_refl _) (fun A w h => h)
    refine ⟨fun done env mp T nn F hi hd H => ?_, ?_⟩
    · -- 25: buildSlice 60 1 #[(0, t28)]
      have d24 := dep_done hd 24 rfl
      have t24 : alook T 28 = some (.o (.v (ptV ptChanges))) := (H.ht 24 _ 28 rfl rfl d24).trans (congrArg (fun v => some (TV.o (.v v))) (show env 24 = ptV ptChanges from H.hv 24 d24))
      refine ojs_vis [(28, .o (.v (ptV ptChanges)))] (fun p hp => by simp only [List.mem_cons, List.not_mem_nil, or_false] at hp; rcases hp with rfl <;> first | exact t24) ?_
      refine opK_sound ?_
      exact litK_slice (cells := ([ptChanges]).flatMap encPt) ([ptChanges]) H rfl (fun p hp => by simp only [List.mem_cons, List.not_mem_nil, or_false] at hp; rcases hp with rfl <;> first | exact t24) rfl rfl encPt_len rfl (by decide) (fun g => (show ∃ g', Value.slice (some ⟨g, 0, none⟩) 1 1 = .slice (some ⟨g', 0, none⟩) 1 1 from ⟨g, rfl⟩)) hi rfl rfl rfl rfl (fun g A w h _ f hf => by cases List.mem_singleton.1 hf; exact h)
    refine ⟨fun done env mp T nn F hi hd H => ?_, ?_⟩
    · -- 26: call { callee := builtin append, args := #[t27, t29], argTyp
      have d23 := dep_done hd 23 rfl
      have t23 : alook T 27 = some (.o (.v (Value.slice (some ⟨g, 0, none⟩) 3 3))) := (H.ht 23 _ 27 rfl rfl d23).trans (congrArg (fun v => some (TV.o (.v v))) (show env 23 = Value.slice (some ⟨g, 0, none⟩) 3 3 from H.hv 23 d23))
      obtain ⟨g25, e25⟩ : ∃ g, env 25 = .slice (some ⟨g, 0, none⟩) 1 1 := H.hv 25 (dep_done hd 25 rfl)
      have d25 := dep_done hd 25 rfl
      have t25 : alook T 29 = some (.o (.v (.slice (some ⟨g25, 0, none⟩) 1 1))) := (H.ht 25 _ 29 rfl rfl d25).trans (congrArg (fun v => some (TV.o (.v v))) e25)
      have hv : ∀ p ∈ [(27, TV.o (.v (Value.slice (some ⟨g, 0, none⟩) 3 3))), (29, .o (.v (.slice (some ⟨g25, 0, none⟩) 1 1)))], alook T p.1 = some p.2 := (fun p hp => by simp only [List.mem_cons, List.not_mem_nil, or_false] at hp; rcases hp with rfl | rfl <;> first | exact t23 | exact t25)
      have hf25 : slF encPt 4 (.slice (some ⟨g25, 0, none⟩) 1 1) [ptChanges] ∈ F := by rw [← e25]; exact H.hs 25 d25 _ (List.mem_singleton.2 rfl)
      refine ojs_vis _ hv ?_
      refine ojs_appendF (xs := tickP l s) rfl rfl rfl rfl rfl (H.hF _ (List.mem_singleton.2 rfl)) encPt_len rfl rfl rfl rfl rfl rfl (srcF (ys := [ptChanges]) rfl hf25 encPt_len) rfl (by decide) (by decide) (by decide) ?_
      intro a1 c1
      exact litK_own (tickP l s ++ [ptChanges]) H rfl hv rfl (by simp [List.flatMap_append]) encPt_len rfl (show ∃ a c, Value.slice a1 4 c1 = .slice a 4 c from ⟨a1, c1, rfl⟩) hi rfl rfl rfl rfl (fun A w h _ f hf => by cases List.mem_singleton.1 hf; exact h)
    refine ⟨fun done env mp T nn F hi hd H => ?_, ?_⟩
    · -- 27: insert 98 t10 (const (int i64 7)) t30
      exact lit_insert (j := 26) (v := undef) H hi rfl rfl rfl rfl rfl rfl rfl (by kernel_rfl) rfl rfl (dep_done hd 0 rfl) (dep_done hd 26 rfl) (H.ht 0 _ 10 rfl rfl (dep_done hd 0 rfl)) (H.ht 26 _ 30 rfl rfl (dep_done hd 26 rfl)) (show True from trivial) rfl
    refine ⟨fun done env mp T nn F hi hd H => ?_, ?_⟩
    · -- 28: move t10
      have dj := dep_done hd 0 rfl
      have tj := H.ht 0 _ 10 rfl rfl dj
      refine ojs_vis [(10, .o (.v (env 0)))] (fun p hp => by simp only [List.mem_cons, List.not_mem_nil, or_false] at hp; subst hp; exact tj) ?_
      refine opK_sound ?_
      exact litK_eq H rfl (fun p hp => by simp only [List.mem_cons, List.not_mem_nil, or_false] at hp; subst hp; exact tj) (show True from trivial) hi rfl rfl rfl (Nat.le_refl _) (fun A w h => h)
    refine ⟨fun done env mp T nn F hi hd H => ?_, ?_⟩
    · -- 29: assign t31
      have dj := dep_done hd 28 rfl
      have tj := H.ht 28 _ 31 rfl rfl dj
      rw [H.pm.2.2 28 (by simp) dj] at tj
      refine ojs_vis [(31, .o (.v (env 0)))] (fun p hp => by simp only [List.mem_cons, List.not_mem_nil, or_false] at hp; subst hp; exact tj) ?_
      refine opK_sound ?_
      exact litK_eq H rfl (fun p hp => by simp only [List.mem_cons, List.not_mem_nil, or_false] at hp; subst hp; exact tj) (show True from trivial) hi rfl rfl rfl (Nat.le_refl _) (fun A w h => h)
    exact trivial
  · intro done env mp hall hv hpm
    obtain ⟨h1, h2, h3⟩ := hpm
    obtain ⟨g0, ms, e0, rfl, hms⟩ := h2 (hall 0 rfl)
    have e29 : env 29 = .map (some g0) := (h3 29 (by simp) (hall 29 rfl)).trans e0
    have e14 : env 14 = .slice (some ⟨g, 0, none⟩) 3 3 := hv 14 rfl
    have e16 : env 16 = .slice (some ⟨g, 0, none⟩) 3 3 := hv 16 rfl
    have e18 : env 18 = .slice (some ⟨g, 0, none⟩) 3 3 := hv 18 rfl
    have e20 : env 20 = .slice (some ⟨g, 0, none⟩) 3 3 := hv 20 rfl
    refine endR_weak (wk_sealOb (j := 2) rfl rfl) ?_
    refine endR_facts [askMF l s (.map (some g0))] (fun A w h f hf => ?_) ?_
    · cases List.mem_singleton.1 hf
      refine ⟨g0, ms, rfl, h _ (List.mem_cons_self ..), fun q => ?_⟩
      rw [hms]
      simp only [mspec, hall 7 rfl, hall 13 rfl, hall 15 rfl, hall 17 rfl, hall 19 rfl, hall 21 rfl, hall 27 rfl, and_true]
      unfold asksP
      by_cases q1 : q = 1
      · subst q1; exact .inl ⟨env 6, by simp, h _ (List.mem_cons_of_mem _ (List.mem_append_left _ (List.mem_flatMap.2 ⟨6, by simp, List.mem_singleton.2 rfl⟩))), by simp⟩
      by_cases q2 : q = 2
      · subst q2; exact .inl ⟨env 12, by simp, h _ (List.mem_cons_of_mem _ (List.mem_append_left _ (List.mem_flatMap.2 ⟨12, by simp, List.mem_singleton.2 rfl⟩))), by simp⟩
      by_cases q3 : q = 3
      · subst q3; exact .inl ⟨env 14, by simp, by rw [e14]; exact h _ (by simp), by simp [tickP]⟩
      by_cases q4 : q = 4
      · subst q4; exact .inl ⟨env 16, by simp, by rw [e16]; exact h _ (by simp), by simp [tickP]⟩
      by_cases q5 : q = 5
      · subst q5; exact .inl ⟨env 18, by simp, by rw [e18]; exact h _ (by simp), by simp [tickP]⟩
      by_cases q6 : q = 6
      · subst q6; exact .inl ⟨env 20, by simp, by rw [e20]; exact h _ (by simp), by simp [tickP]⟩
      by_cases q7 : q = 7
      · subst q7; exact .inl ⟨env 26, by simp, h _ (List.mem_cons_of_mem _ (List.mem_append_left _ (List.mem_flatMap.2 ⟨26, by simp, List.mem_singleton.2 rfl⟩))), by simp⟩
      · exact .inr ⟨by simp [q1, q2, q3, q4, q5, q6, q7], by simp [q1, q2, q3, q4, q5, q6, q7]⟩
    · exact endR_ok [askMF l s (.map (some g0))] rfl rfl ⟨rfl, rfl⟩ rfl (fun _ => ⟨.map (some g0), by rw [show retV _ _ = env 29 from rfl, e29], rfl⟩) (by simp)


end Go.Proofs.YthnkjgffahkecaaGreat
