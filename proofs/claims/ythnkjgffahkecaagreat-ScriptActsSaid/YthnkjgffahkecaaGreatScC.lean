/- Acts, by the symbolic run: what an act names. -/
import Derived.Test.YthnkjgffahkecaaGreatScB
namespace Go.Proofs.YthnkjgffahkecaaGreat
open Go.RowKit Go.Shelf

/-- What an act names, by its kind. -/
def namedP (n l s k q : Int) (b0 b1 : Nat) : List Pt :=
  if k = 1 then [ptNodes n, ptKind] ++ asksP l s q else if k = 2 then [ptNodes n] else if k = 3 then [ptPlaces] else if k = 4 then [ptPlaces] else if k = 5 then [ptPlaces] else if k = 6 then [ptNodes n, ptStops]
  else if k = 7 then [ptNodes n, ptKept b0, ptKept b1] else if k = 8 then [ptNodes n] else []
def namedF (n l s k q : Int) (v : Value) : Fact where
  h A w := ∃ b0 b1 a c, v = .slice a (namedP n l s k q b0 b1).length c ∧ (blkF b0 [.int .i64 0] 3).h A w ∧ (blkF b1 [.int .i64 1] 3).h A w ∧ (slF encPt 4 v (namedP n l s k q b0 b1)).h A w
  ok := fun hA hw hg ⟨b0, b1, a, c, h0, h1, h2, h3⟩ => ⟨b0, b1, a, c, h0, (blkF b0 _ _).ok hA hw hg h1, (blkF b1 _ _).ok hA hw hg h2, (slF encPt 4 _ _).ok hA hw hg h3⟩
/-- A list of parts that hangs on no box. -/
def plainP (v : Value) (xs : List Pt) : Fact where
  h A w := (∃ a c, v = .slice a xs.length c) ∧ (slF encPt 4 v xs).h A w
  ok := fun hA hw hg ⟨h1, h2⟩ => ⟨h1, (slF encPt 4 v xs).ok hA hw hg h2⟩
def keptF (i : Int) (v : Value) : Fact where
  h A w := ∃ b, v = ptV (ptKept b) ∧ (blkF b [.int .i64 i] 3).h A w
  ok := fun hA hw hg ⟨b, h1, h2⟩ => ⟨b, h1, (blkF b _ _).ok hA hw hg h2⟩
theorem ptKept_inj {b c : Nat} (h : ptV (ptKept b) = ptV (ptKept c)) : b = c := by
  simp [ptV, encPt, ptKept] at h
  exact h
theorem slF_nilE {α : Type} {enc : α → List Value} {k : Nat} {A : Nat → Prop} {w : World} : (slF enc k (.slice none 0 0) []).h A w := ⟨none, 0, rfl, ⟨Nat.le_refl _, fun _ => rfl⟩, .inl rfl⟩
theorem asksP_len {l s q : Int} : (asksP l s q).length ≤ 4 := by
  unfold asksP
  repeat' split
  all_goals (simp [tickP])
theorem partsInfo : ∃ i, Tryz.prog.info? 60 = some i ∧ i.zero = some (.slice none 0 0) := by
  have : (Tryz.prog.info? 60).map (fun i => i.zero) = some (some (.slice none 0 0)) := by kernel_rfl
  simpa using this
set_option maxHeartbeats 8000000 in
theorem named_c (n l s k q : Int) (hs : 1 ≤ n ∧ n ≤ 64 ∧ 1 ≤ l ∧ l ≤ 8 ∧ 1 ≤ s ∧ s ≤ 4) (hk : 1 ≤ k ∧ k ≤ 8) : Cm Tryz.prog 20 [.agg (shL n l s).toArray, .int .i64 k, .int .i64 q] [] [] (fun e _ F1 => ∃ v, e = .returned v ∧ F1 = [namedF n l s k q v]) := by
  refine cm_of (tab := tb) (ok := tbOk) [.g [.v (.int .i64 n), .v (.int .i64 l), .v (.int .i64 s)], .o (.v (.int .i64 k)), .o (.v (.int .i64 q))] Tryz.func20 Tryz.ntmps20 rfl rfl (fun _ _ => rfl) ?_
  intro w0 A0
  refine cjs_lit ⟨_, [(1, .o (.v (.int .i64 k))), (2, .o (.v (.int .i64 q))), (3, .o (.p 0 0)), (7, .o (.p 1 0))], [(0, .c [.v (.int .i64 n), .v (.int .i64 l), .v (.int .i64 s)] 23), (1, .c [.v (.int .i64 1), .v (.int .i64 7), .v (fnV 38), .v (fnV 39)] 65)], 2, [], fun _ => [],
    [(1, fun v => v = Value.agg (shL n l s).toArray), (2, fun v => v = ptV (ptNodes n)), (3, fun v => v = ptV ptKind), (4, fun v => ∃ g, v = .slice (some ⟨g, 0, none⟩) 2 2), (5, fun v => v = Value.agg (shL n l s).toArray), (7, fun v => v = Value.int .i64 q), (8, fun v => asksP l s q ≠ [] ∨ (v = .slice none 0 0 ∧ asksP l s q = [])), (11, fun v => v = Value.agg (shL n l s).toArray), (12, fun v => v = ptV (ptNodes n)), (15, fun v => v = ptV ptPlaces), (18, fun v => v = ptV ptPlaces), (21, fun v => v = ptV ptPlaces), (24, fun v => v = Value.agg (shL n l s).toArray), (25, fun v => v = ptV (ptNodes n)), (26, fun v => v = ptV ptStops), (29, fun v => v = Value.agg (shL n l s).toArray), (30, fun v => v = ptV (ptNodes n)), (31, fun v => ∃ b, v = ptV (ptKept b)), (32, fun v => ∃ b, v = ptV (ptKept b)), (35, fun v => v = Value.agg (shL n l s).toArray), (36, fun v => v = ptV (ptNodes n)), (40, fun v => v = Value.int .i64 k)], [(4, fun v => [slF encPt 4 v [ptNodes n, ptKind]]), (6, fun v => [askMF l s v]), (8, fun v => [slF encPt 4 v (asksP l s q)]), (9, fun v => [plainP v ([ptNodes n, ptKind] ++ asksP l s q)]), (13, fun v => [plainP v [ptNodes n]]), (16, fun v => [plainP v [ptPlaces]]), (19, fun v => [plainP v [ptPlaces]]), (22, fun v => [plainP v [ptPlaces]]), (27, fun v => [plainP v [ptNodes n, ptStops]]), (31, fun v => [keptF 0 v]), (32, fun v => [keptF 1 v]), (33, fun v => [namedF n l s 7 q v]), (37, fun v => [plainP v [ptNodes n]]), (41, fun v => [namedF n l s k q v]), (42, fun v => [namedF n l s k q v])], 0, [(10, 1, 9), (14, 2, 13), (17, 3, 16), (20, 4, 19), (23, 5, 22), (28, 6, 27), (34, 7, 33), (38, 8, 37)], [39]⟩ rfl [42, 31, 32] (by kernel_rfl) (by kernel_rfl) (by kernel_rfl) (by kernel_rfl) (by kernel_rfl) (by kernel_rfl) (by kernel_rfl) (by kernel_rfl) (by exact Nat.zero_le _) (fun _ _ _ => rfl)
    (wk_dead.trans (wk_patch (by repeat' (first | exact trivial | exact Or.inl rfl | refine Or.inr ⟨?_, ?_⟩ | rfl | refine ⟨?_, ?_⟩ | exact lt_all_v)) (by repeat' (first | exact trivial | exact Or.inl rfl | refine Or.inr ⟨?_, ?_⟩ | rfl | refine ⟨?_, ?_⟩ | exact lt_all_v)) (by simp) (by simp) D_nil)) ?_ ?_
  · refine ⟨fun done env mp T nn F hi hd H => ?_, ?_⟩
    · -- 0: makeMap 102 none
      exact lit_makeMap H rfl hi rfl rfl rfl rfl (fun _ => (show True from trivial)) (fun _ => rfl)
    refine ⟨fun done env mp T nn F hi hd H => ?_, ?_⟩
    · -- 1: load 23 t3
      have b3 : alook T 3 = some (.o (.p 0 0)) := H.hT 3 _ rfl
      refine ojs_vis [(3, .o (.p 0 0))] (fun p hp => by simp only [List.mem_cons, List.not_mem_nil, or_false] at hp; rcases hp with rfl <;> first | exact b3) ?_
      refine opK_sound ?_
      exact litK_val (v := Value.agg (shL n l s).toArray) H rfl (fun p hp => by simp only [List.mem_cons, List.not_mem_nil, or_false] at hp; rcases hp with rfl <;> first | exact b3) (fun _ => rfl) (show Value.agg (shL n l s).toArray = Value.agg (shL n l s).toArray from rfl) hi rfl rfl rfl rfl (Nat.le_refl _) (fun A w h => h)
    refine ⟨fun done env mp T nn F hi hd H => ?_, ?_⟩
    · -- 2: call { callee := value (func 40), args := #[t10], argTypes :
      have d1 := dep_done hd 1 rfl
      have t1 : alook T 10 = some (.o (.v (Value.agg (shL n l s).toArray))) := (H.ht 1 _ 10 rfl rfl d1).trans (congrArg (fun v => some (TV.o (.v v))) (show env 1 = Value.agg (shL n l s).toArray from H.hv 1 d1))
      refine ojs_vis [(10, .o (.v (Value.agg (shL n l s).toArray)))] (fun p hp => by simp only [List.mem_cons, List.not_mem_nil, or_false] at hp; rcases hp with rfl <;> first | exact t1) ?_
      refine ojs_call [] [] rfl rfl rfl rfl rfl rfl rfl (by simp) (fun _ => scr_nodes n l s hs) (by simp) (.inl rfl) ?_
      rintro e cs F1 _ ⟨rfl, rfl⟩
      exact litK_val (v := ptV (ptNodes n)) H rfl (fun p hp => by simp only [List.mem_cons, List.not_mem_nil, or_false] at hp; rcases hp with rfl <;> first | exact t1) (fun _ => rfl) (show ptV (ptNodes n) = ptV (ptNodes n) from rfl) hi rfl rfl rfl rfl (Nat.le_refl _) (fun A w h => h)
    refine ⟨fun done env mp T nn F hi hd H => ?_, ?_⟩
    · -- 3: load 65 t7
      have b7 : alook T 7 = some (.o (.p 1 0)) := H.hT 7 _ rfl
      refine ojs_vis [(7, .o (.p 1 0))] (fun p hp => by simp only [List.mem_cons, List.not_mem_nil, or_false] at hp; rcases hp with rfl <;> first | exact b7) ?_
      refine opK_sound ?_
      exact litK_val (v := ptV ptKind) H rfl (fun p hp => by simp only [List.mem_cons, List.not_mem_nil, or_false] at hp; rcases hp with rfl <;> first | exact b7) (fun _ => rfl) (show ptV ptKind = ptV ptKind from rfl) hi rfl rfl rfl rfl (Nat.le_refl _) (fun A w h => h)
    refine ⟨fun done env mp T nn F hi hd H => ?_, ?_⟩
    · -- 4: buildSlice 60 2 #[(0, t11), (1, t12)]
      have d2 := dep_done hd 2 rfl
      have t2 : alook T 11 = some (.o (.v (ptV (ptNodes n)))) := (H.ht 2 _ 11 rfl rfl d2).trans (congrArg (fun v => some (TV.o (.v v))) (show env 2 = ptV (ptNodes n) from H.hv 2 d2))
      have d3 := dep_done hd 3 rfl
      have t3 : alook T 12 = some (.o (.v (ptV ptKind))) := (H.ht 3 _ 12 rfl rfl d3).trans (congrArg (fun v => some (TV.o (.v v))) (show env 3 = ptV ptKind from H.hv 3 d3))
      refine ojs_vis [(11, .o (.v (ptV (ptNodes n)))), (12, .o (.v (ptV ptKind)))] (fun p hp => by simp only [List.mem_cons, List.not_mem_nil, or_false] at hp; rcases hp with rfl | rfl <;> first | exact t2 | exact t3) ?_
      refine opK_sound ?_
      exact litK_slice (cells := ([ptNodes n, ptKind]).flatMap encPt) ([ptNodes n, ptKind]) H rfl (fun p hp => by simp only [List.mem_cons, List.not_mem_nil, or_false] at hp; rcases hp with rfl | rfl <;> first | exact t2 | exact t3) rfl rfl encPt_len rfl (by decide) (fun g => (show ∃ g', Value.slice (some ⟨g, 0, none⟩) 2 2 = .slice (some ⟨g', 0, none⟩) 2 2 from ⟨g, rfl⟩)) hi rfl rfl rfl rfl (fun g A w h _ f hf => by cases List.mem_singleton.1 hf; exact h)
    refine ⟨fun done env mp T nn F hi hd H => ?_, ?_⟩
    · -- 5: load 23 t3
      have b3 : alook T 3 = some (.o (.p 0 0)) := H.hT 3 _ rfl
      refine ojs_vis [(3, .o (.p 0 0))] (fun p hp => by simp only [List.mem_cons, List.not_mem_nil, or_false] at hp; rcases hp with rfl <;> first | exact b3) ?_
      refine opK_sound ?_
      exact litK_val (v := Value.agg (shL n l s).toArray) H rfl (fun p hp => by simp only [List.mem_cons, List.not_mem_nil, or_false] at hp; rcases hp with rfl <;> first | exact b3) (fun _ => rfl) (show Value.agg (shL n l s).toArray = Value.agg (shL n l s).toArray from rfl) hi rfl rfl rfl rfl (Nat.le_refl _) (fun A w h => h)
    refine ⟨fun done env mp T nn F hi hd H => ?_, ?_⟩
    · -- 6: call { callee := value (func 41), args := #[t14], argTypes :
      have d5 := dep_done hd 5 rfl
      have t5 : alook T 14 = some (.o (.v (Value.agg (shL n l s).toArray))) := (H.ht 5 _ 14 rfl rfl d5).trans (congrArg (fun v => some (TV.o (.v v))) (show env 5 = Value.agg (shL n l s).toArray from H.hv 5 d5))
      refine ojs_vis [(14, .o (.v (Value.agg (shL n l s).toArray)))] (fun p hp => by simp only [List.mem_cons, List.not_mem_nil, or_false] at hp; rcases hp with rfl <;> first | exact t5) ?_
      refine ojs_call [] [] rfl rfl rfl rfl rfl rfl rfl (by simp) (fun _ => asks_c n l s hs) (by simp) (.inl rfl) ?_
      rintro e cs F1 _ ⟨v, rfl, rfl⟩
      exact litK_val (v := v) H rfl (fun p hp => by simp only [List.mem_cons, List.not_mem_nil, or_false] at hp; rcases hp with rfl <;> first | exact t5) (fun _ => rfl) (show True from trivial) hi rfl rfl rfl rfl (Nat.le_refl _) (fun A w h f hf => h f hf)
    refine ⟨fun done env mp T nn F hi hd H => ?_, ?_⟩
    · -- 7: move t2
      have b2 : alook T 2 = some (.o (.v (.int .i64 q))) := H.hT 2 _ rfl
      refine ojs_vis [(2, .o (.v (.int .i64 q)))] (fun p hp => by simp only [List.mem_cons, List.not_mem_nil, or_false] at hp; rcases hp with rfl <;> first | exact b2) ?_
      refine opK_sound ?_
      exact litK_val (v := Value.int .i64 q) H rfl (fun p hp => by simp only [List.mem_cons, List.not_mem_nil, or_false] at hp; rcases hp with rfl <;> first | exact b2) (fun _ => rfl) (show Value.int .i64 q = Value.int .i64 q from rfl) hi rfl rfl rfl rfl (Nat.le_refl _) (fun A w h => h)
    refine ⟨fun done env mp T nn F hi hd H => ?_, ?_⟩
    · -- 8: lookup 98 t15 t16 false
      have d7 := dep_done hd 7 rfl
      have t7 : alook T 16 = some (.o (.v (.int .i64 q))) := (H.ht 7 _ 16 rfl rfl d7).trans (congrArg (fun v => some (TV.o (.v v))) (show env 7 = .int .i64 q from H.hv 7 d7))
      have d6 := dep_done hd 6 rfl
      have t6 := H.ht 6 _ 15 rfl rfl d6
      have hf6 : askMF l s (env 6) ∈ F := H.hs 6 d6 _ (List.mem_singleton.2 rfl)
      refine ojs_ex (p := fun x : Nat × List (Int × Value) × Value => env 6 = .map (some x.1) ∧ ((mlook x.2.1 q = some x.2.2 ∧ asksP l s q ≠ []) ∨ (mlook x.2.1 q = none ∧ x.2.2 = .slice none 0 0 ∧ asksP l s q = []))) (fun x => [objF x.1 (mapO x.2.1), slF encPt 4 x.2.2 (asksP l s q)]) (fun A w h => ?_) ?_
      · obtain ⟨g, ms, e1, e2, e3⟩ := h _ hf6
        rcases e3 q with ⟨u, e4, e5, e6⟩ | ⟨e4, e5⟩
        · exact ⟨(g, ms, u), ⟨e1, .inl ⟨e4, e6⟩⟩, fun f hf => by simp only [List.mem_cons, List.not_mem_nil, or_false] at hf; rcases hf with rfl | rfl; exact e2; exact e5⟩
        · exact ⟨(g, ms, .slice none 0 0), ⟨e1, .inr ⟨e4, rfl, e5⟩⟩, fun f hf => by simp only [List.mem_cons, List.not_mem_nil, or_false] at hf; rcases hf with rfl | rfl; exact e2; rw [e5]; exact slF_nilE⟩
      rintro ⟨g6, ms, u⟩ ⟨e6, hu⟩
      simp only at e6 hu
      rw [e6] at t6
      have hv : ∀ p ∈ [(15, TV.o (.v (.map (some g6)))), (16, .o (.v (.int .i64 q)))], alook T p.1 = some p.2 := (fun p hp => by simp only [List.mem_cons, List.not_mem_nil, or_false] at hp; rcases hp with rfl | rfl <;> first | exact t6 | exact t7)
      refine ojs_vis _ hv ?_
      obtain ⟨ti, hti, hz⟩ : ∃ i, Tryz.prog.info? 60 = some i ∧ i.zero = some (.slice none 0 0) := partsInfo
      refine ojs_yd (yd_lookupF (List.mem_cons_self ..) rfl (by kernel_rfl) hti rfl rfl (hu.elim (fun h => .inl h.1) (fun h => .inr ⟨h.1, by rw [h.2.1]; exact hz⟩))) rfl ?_
      exact litK_val (v := u) H rfl hv (fun _ => rfl) (show asksP l s q ≠ [] ∨ (u = .slice none 0 0 ∧ asksP l s q = []) from hu.elim (fun h => .inl h.2) (fun h => .inr ⟨h.2.1, h.2.2⟩)) hi rfl rfl rfl rfl (Nat.le_refl _) (fun A w h f hf => by rcases List.mem_append.1 hf with hf | hf; cases List.mem_singleton.1 hf; exact h _ (List.mem_cons_of_mem _ (List.mem_cons_self ..)); exact h f (List.mem_cons_of_mem _ (List.mem_cons_of_mem _ hf)))
    refine ⟨fun done env mp T nn F hi hd H => ?_, ?_⟩
    · -- 9: call { callee := builtin append, args := #[t13, t17], argTyp
      obtain ⟨g4, e4⟩ : ∃ g, env 4 = .slice (some ⟨g, 0, none⟩) 2 2 := H.hv 4 (dep_done hd 4 rfl)
      have d4 := dep_done hd 4 rfl
      have t4 : alook T 13 = some (.o (.v (.slice (some ⟨g4, 0, none⟩) 2 2))) := (H.ht 4 _ 13 rfl rfl d4).trans (congrArg (fun v => some (TV.o (.v v))) e4)
      have d8 := dep_done hd 8 rfl
      have t8 := H.ht 8 _ 17 rfl rfl d8
      have hf4 : slF encPt 4 (.slice (some ⟨g4, 0, none⟩) 2 2) [ptNodes n, ptKind] ∈ F := by rw [← e4]; exact H.hs 4 d4 _ (List.mem_singleton.2 rfl)
      have hf8 : slF encPt 4 (env 8) (asksP l s q) ∈ F := H.hs 8 d8 _ (List.mem_singleton.2 rfl)
      have hp8 : asksP l s q ≠ [] ∨ (env 8 = .slice none 0 0 ∧ asksP l s q = []) := H.hv 8 d8
      rcases hp8 with hne | ⟨e8, hnil⟩
      · refine ojs_ex (p := fun x : Option Addr × Nat => env 8 = .slice x.1 (asksP l s q).length x.2) (fun _ => []) (fun A w h => ?_) ?_
        · obtain ⟨a, c, e1, _⟩ := h _ hf8
          exact ⟨(a, c), e1, fun f hf => by cases hf⟩
        rintro ⟨a8, c8⟩ (e8 : env 8 = .slice a8 _ c8)
        rw [e8] at t8 hf8
        have hv : ∀ p ∈ [(13, TV.o (.v (.slice (some ⟨g4, 0, none⟩) 2 2))), (17, .o (.v (.slice a8 (asksP l s q).length c8)))], alook T p.1 = some p.2 := (fun p hp => by simp only [List.mem_cons, List.not_mem_nil, or_false] at hp; rcases hp with rfl | rfl <;> first | exact t4 | exact t8)
        refine ojs_vis _ hv ?_
        have hle : (asksP l s q).length ≤ 4 := asksP_len
        have hlp : 0 < (asksP l s q).length := List.length_pos_iff.2 hne
        refine ojs_appendF (xs := [ptNodes n, ptKind]) rfl rfl rfl rfl rfl (List.mem_append_right _ hf4) encPt_len rfl rfl rfl rfl rfl rfl (srcF (ys := asksP l s q) rfl (List.mem_append_right _ hf8) encPt_len) (flat_length encPt_len _) hlp (by omega) (by simp only [maxLen]; omega) ?_
        intro a1 c1
        exact litK_own ([ptNodes n, ptKind] ++ asksP l s q) H rfl hv rfl (by simp) encPt_len (by simp; omega) (show True from trivial) hi rfl rfl rfl rfl (fun A w h _ f hf => by cases List.mem_singleton.1 hf; exact ⟨⟨a1, c1, by rw [show ([ptNodes n, ptKind] ++ asksP l s q).length = 2 + (asksP l s q).length by simp; omega]⟩, h⟩)
      · rw [e8] at t8
        have hv : ∀ p ∈ [(13, TV.o (.v (.slice (some ⟨g4, 0, none⟩) 2 2))), (17, .o (.v (.slice none 0 0)))], alook T p.1 = some p.2 := (fun p hp => by simp only [List.mem_cons, List.not_mem_nil, or_false] at hp; rcases hp with rfl | rfl <;> first | exact t4 | exact t8)
        refine ojs_vis _ hv ?_
        refine ojs_yd (yd_append0 rfl rfl rfl rfl rfl (by decide) rfl rfl) rfl ?_
        exact litK_val (v := .slice (some ⟨g4, 0, none⟩) 2 2) H rfl hv (fun _ => rfl) (show True from trivial) hi rfl rfl rfl rfl (Nat.le_refl _) (fun A w h f hf => by rcases List.mem_append.1 hf with hf | hf; cases List.mem_singleton.1 hf; exact ⟨⟨_, _, by rw [hnil]; rfl⟩, by rw [hnil]; exact h _ hf4⟩; exact h f hf)
    refine ⟨fun done env mp T nn F hi hd H => ?_, ?_⟩
    · -- 10: insert 102 t9 (const (int i64 1)) t18
      exact lit_insert (j := 9) (v := undef) H hi rfl rfl rfl rfl rfl rfl rfl (by kernel_rfl) rfl rfl (dep_done hd 0 rfl) (dep_done hd 9 rfl) (H.ht 0 _ 9 rfl rfl (dep_done hd 0 rfl)) (H.ht 9 _ 18 rfl rfl (dep_done hd 9 rfl)) (show True from trivial) rfl
    refine ⟨fun done env mp T nn F hi hd H => ?_, ?_⟩
    · -- 11: load 23 t3
      have b3 : alook T 3 = some (.o (.p 0 0)) := H.hT 3 _ rfl
      refine ojs_vis [(3, .o (.p 0 0))] (fun p hp => by simp only [List.mem_cons, List.not_mem_nil, or_false] at hp; rcases hp with rfl <;> first | exact b3) ?_
      refine opK_sound ?_
      exact litK_val (v := Value.agg (shL n l s).toArray) H rfl (fun p hp => by simp only [List.mem_cons, List.not_mem_nil, or_false] at hp; rcases hp with rfl <;> first | exact b3) (fun _ => rfl) (show Value.agg (shL n l s).toArray = Value.agg (shL n l s).toArray from rfl) hi rfl rfl rfl rfl (Nat.le_refl _) (fun A w h => h)
    refine ⟨fun done env mp T nn F hi hd H => ?_, ?_⟩
    · -- 12: call { callee := value (func 40), args := #[t19], argTypes :
      have d11 := dep_done hd 11 rfl
      have t11 : alook T 19 = some (.o (.v (Value.agg (shL n l s).toArray))) := (H.ht 11 _ 19 rfl rfl d11).trans (congrArg (fun v => some (TV.o (.v v))) (show env 11 = Value.agg (shL n l s).toArray from H.hv 11 d11))
      refine ojs_vis [(19, .o (.v (Value.agg (shL n l s).toArray)))] (fun p hp => by simp only [List.mem_cons, List.not_mem_nil, or_false] at hp; rcases hp with rfl <;> first | exact t11) ?_
      refine ojs_call [] [] rfl rfl rfl rfl rfl rfl rfl (by simp) (fun _ => scr_nodes n l s hs) (by simp) (.inl rfl) ?_
      rintro e cs F1 _ ⟨rfl, rfl⟩
      exact litK_val (v := ptV (ptNodes n)) H rfl (fun p hp => by simp only [List.mem_cons, List.not_mem_nil, or_false] at hp; rcases hp with rfl <;> first | exact t11) (fun _ => rfl) (show ptV (ptNodes n) = ptV (ptNodes n) from rfl) hi rfl rfl rfl rfl (Nat.le_refl _) (fun A w h => h)
    refine ⟨fun done env mp T nn F hi hd H => ?_, ?_⟩
    · -- 13: buildSlice 60 1 #[(0, t20)]
      have d12 := dep_done hd 12 rfl
      have t12 : alook T 20 = some (.o (.v (ptV (ptNodes n)))) := (H.ht 12 _ 20 rfl rfl d12).trans (congrArg (fun v => some (TV.o (.v v))) (show env 12 = ptV (ptNodes n) from H.hv 12 d12))
      refine ojs_vis [(20, .o (.v (ptV (ptNodes n))))] (fun p hp => by simp only [List.mem_cons, List.not_mem_nil, or_false] at hp; rcases hp with rfl <;> first | exact t12) ?_
      refine opK_sound ?_
      exact litK_slice (cells := ([ptNodes n]).flatMap encPt) ([ptNodes n]) H rfl (fun p hp => by simp only [List.mem_cons, List.not_mem_nil, or_false] at hp; rcases hp with rfl <;> first | exact t12) rfl rfl encPt_len rfl (by decide) (fun g => (show True from trivial)) hi rfl rfl rfl rfl (fun g A w h _ f hf => by cases List.mem_singleton.1 hf; exact ⟨⟨_, _, rfl⟩, h⟩)
    refine ⟨fun done env mp T nn F hi hd H => ?_, ?_⟩
    · -- 14: insert 102 t9 (const (int i64 2)) t21
      exact lit_insert (j := 13) (v := undef) H hi rfl rfl rfl rfl rfl rfl rfl (by kernel_rfl) rfl rfl (dep_done hd 0 rfl) (dep_done hd 13 rfl) (H.ht 0 _ 9 rfl rfl (dep_done hd 0 rfl)) (H.ht 13 _ 21 rfl rfl (dep_done hd 13 rfl)) (show True from trivial) rfl
    refine ⟨fun done env mp T nn F hi hd H => ?_, ?_⟩
    · -- 15: call { callee := value (func 42), args := #[], argTypes := #
      refine ojs_vis [] (fun p hp => by cases hp) ?_
      refine ojs_call [] [] rfl rfl rfl rfl rfl rfl rfl (by simp) (fun _ => scr_places) (by simp) (.inl rfl) ?_
      rintro e cs F1 _ ⟨rfl, rfl⟩
      exact litK_val (v := ptV ptPlaces) H rfl (fun p hp => by cases hp) (fun _ => rfl) (show ptV ptPlaces = ptV ptPlaces from rfl) hi rfl rfl rfl rfl (Nat.le_refl _) (fun A w h => h)
    refine ⟨fun done env mp T nn F hi hd H => ?_, ?_⟩
    · -- 16: buildSlice 60 1 #[(0, t22)]
      have d15 := dep_done hd 15 rfl
      have t15 : alook T 22 = some (.o (.v (ptV ptPlaces))) := (H.ht 15 _ 22 rfl rfl d15).trans (congrArg (fun v => some (TV.o (.v v))) (show env 15 = ptV ptPlaces from H.hv 15 d15))
      refine ojs_vis [(22, .o (.v (ptV ptPlaces)))] (fun p hp => by simp only [List.mem_cons, List.not_mem_nil, or_false] at hp; rcases hp with rfl <;> first | exact t15) ?_
      refine opK_sound ?_
      exact litK_slice (cells := ([ptPlaces]).flatMap encPt) ([ptPlaces]) H rfl (fun p hp => by simp only [List.mem_cons, List.not_mem_nil, or_false] at hp; rcases hp with rfl <;> first | exact t15) rfl rfl encPt_len rfl (by decide) (fun g => (show True from trivial)) hi rfl rfl rfl rfl (fun g A w h _ f hf => by cases List.mem_singleton.1 hf; exact ⟨⟨_, _, rfl⟩, h⟩)
    refine ⟨fun done env mp T nn F hi hd H => ?_, ?_⟩
    · -- 17: insert 102 t9 (const (int i64 3)) t23
      exact lit_insert (j := 16) (v := undef) H hi rfl rfl rfl rfl rfl rfl rfl (by kernel_rfl) rfl rfl (dep_done hd 0 rfl) (dep_done hd 16 rfl) (H.ht 0 _ 9 rfl rfl (dep_done hd 0 rfl)) (H.ht 16 _ 23 rfl rfl (dep_done hd 16 rfl)) (show True from trivial) rfl
    refine ⟨fun done env mp T nn F hi hd H => ?_, ?_⟩
    · -- 18: call { callee := value (func 42), args := #[], argTypes := #
      refine ojs_vis [] (fun p hp => by cases hp) ?_
      refine ojs_call [] [] rfl rfl rfl rfl rfl rfl rfl (by simp) (fun _ => scr_places) (by simp) (.inl rfl) ?_
      rintro e cs F1 _ ⟨rfl, rfl⟩
      exact litK_val (v := ptV ptPlaces) H rfl (fun p hp => by cases hp) (fun _ => rfl) (show ptV ptPlaces = ptV ptPlaces from rfl) hi rfl rfl rfl rfl (Nat.le_refl _) (fun A w h => h)
    refine ⟨fun done env mp T nn F hi hd H => ?_, ?_⟩
    · -- 19: buildSlice 60 1 #[(0, t24)]
      have d18 := dep_done hd 18 rfl
      have t18 : alook T 24 = some (.o (.v (ptV ptPlaces))) := (H.ht 18 _ 24 rfl rfl d18).trans (congrArg (fun v => some (TV.o (.v v))) (show env 18 = ptV ptPlaces from H.hv 18 d18))
      refine ojs_vis [(24, .o (.v (ptV ptPlaces)))] (fun p hp => by simp only [List.mem_cons, List.not_mem_nil, or_false] at hp; rcases hp with rfl <;> first | exact t18) ?_
      refine opK_sound ?_
      exact litK_slice (cells := ([ptPlaces]).flatMap encPt) ([ptPlaces]) H rfl (fun p hp => by simp only [List.mem_cons, List.not_mem_nil, or_false] at hp; rcases hp with rfl <;> first | exact t18) rfl rfl encPt_len rfl (by decide) (fun g => (show True from trivial)) hi rfl rfl rfl rfl (fun g A w h _ f hf => by cases List.mem_singleton.1 hf; exact ⟨⟨_, _, rfl⟩, h⟩)
    refine ⟨fun done env mp T nn F hi hd H => ?_, ?_⟩
    · -- 20: insert 102 t9 (const (int i64 4)) t25
      exact lit_insert (j := 19) (v := undef) H hi rfl rfl rfl rfl rfl rfl rfl (by kernel_rfl) rfl rfl (dep_done hd 0 rfl) (dep_done hd 19 rfl) (H.ht 0 _ 9 rfl rfl (dep_done hd 0 rfl)) (H.ht 19 _ 25 rfl rfl (dep_done hd 19 rfl)) (show True from trivial) rfl
    refine ⟨fun done env mp T nn F hi hd H => ?_, ?_⟩
    · -- 21: call { callee := value (func 42), args := #[], argTypes := #
      refine ojs_vis [] (fun p hp => by cases hp) ?_
      refine ojs_call [] [] rfl rfl rfl rfl rfl rfl rfl (by simp) (fun _ => scr_places) (by simp) (.inl rfl) ?_
      rintro e cs F1 _ ⟨rfl, rfl⟩
      exact litK_val (v := ptV ptPlaces) H rfl (fun p hp => by cases hp) (fun _ => rfl) (show ptV ptPlaces = ptV ptPlaces from rfl) hi rfl rfl rfl rfl (Nat.le_refl _) (fun A w h => h)
    refine ⟨fun done env mp T nn F hi hd H => ?_, ?_⟩
    · -- 22: buildSlice 60 1 #[(0, t26)]
      have d21 := dep_done hd 21 rfl
      have t21 : alook T 26 = some (.o (.v (ptV ptPlaces))) := (H.ht 21 _ 26 rfl rfl d21).trans (congrArg (fun v => some (TV.o (.v v))) (show env 21 = ptV ptPlaces from H.hv 21 d21))
      refine ojs_vis [(26, .o (.v (ptV ptPlaces)))] (fun p hp => by simp only [List.mem_cons, List.not_mem_nil, or_false] at hp; rcases hp with rfl <;> first | exact t21) ?_
      refine opK_sound ?_
      exact litK_slice (cells := ([ptPlaces]).flatMap encPt) ([ptPlaces]) H rfl (fun p hp => by simp only [List.mem_cons, List.not_mem_nil, or_false] at hp; rcases hp with rfl <;> first | exact t21) rfl rfl encPt_len rfl (by decide) (fun g => (show True from trivial)) hi rfl rfl rfl rfl (fun g A w h _ f hf => by cases List.mem_singleton.1 hf; exact ⟨⟨_, _, rfl⟩, h⟩)
    refine ⟨fun done env mp T nn F hi hd H => ?_, ?_⟩
    · -- 23: insert 102 t9 (const (int i64 5)) t27
      exact lit_insert (j := 22) (v := undef) H hi rfl rfl rfl rfl rfl rfl rfl (by kernel_rfl) rfl rfl (dep_done hd 0 rfl) (dep_done hd 22 rfl) (H.ht 0 _ 9 rfl rfl (dep_done hd 0 rfl)) (H.ht 22 _ 27 rfl rfl (dep_done hd 22 rfl)) (show True from trivial) rfl
    refine ⟨fun done env mp T nn F hi hd H => ?_, ?_⟩
    · -- 24: load 23 t3
      have b3 : alook T 3 = some (.o (.p 0 0)) := H.hT 3 _ rfl
      refine ojs_vis [(3, .o (.p 0 0))] (fun p hp => by simp only [List.mem_cons, List.not_mem_nil, or_false] at hp; rcases hp with rfl <;> first | exact b3) ?_
      refine opK_sound ?_
      exact litK_val (v := Value.agg (shL n l s).toArray) H rfl (fun p hp => by simp only [List.mem_cons, List.not_mem_nil, or_false] at hp; rcases hp with rfl <;> first | exact b3) (fun _ => rfl) (show Value.agg (shL n l s).toArray = Value.agg (shL n l s).toArray from rfl) hi rfl rfl rfl rfl (Nat.le_refl _) (fun A w h => h)
    refine ⟨fun done env mp T nn F hi hd H => ?_, ?_⟩
    · -- 25: call { callee := value (func 40), args := #[t28], argTypes :
      have d24 := dep_done hd 24 rfl
      have t24 : alook T 28 = some (.o (.v (Value.agg (shL n l s).toArray))) := (H.ht 24 _ 28 rfl rfl d24).trans (congrArg (fun v => some (TV.o (.v v))) (show env 24 = Value.agg (shL n l s).toArray from H.hv 24 d24))
      refine ojs_vis [(28, .o (.v (Value.agg (shL n l s).toArray)))] (fun p hp => by simp only [List.mem_cons, List.not_mem_nil, or_false] at hp; rcases hp with rfl <;> first | exact t24) ?_
      refine ojs_call [] [] rfl rfl rfl rfl rfl rfl rfl (by simp) (fun _ => scr_nodes n l s hs) (by simp) (.inl rfl) ?_
      rintro e cs F1 _ ⟨rfl, rfl⟩
      exact litK_val (v := ptV (ptNodes n)) H rfl (fun p hp => by simp only [List.mem_cons, List.not_mem_nil, or_false] at hp; rcases hp with rfl <;> first | exact t24) (fun _ => rfl) (show ptV (ptNodes n) = ptV (ptNodes n) from rfl) hi rfl rfl rfl rfl (Nat.le_refl _) (fun A w h => h)
    refine ⟨fun done env mp T nn F hi hd H => ?_, ?_⟩
    · -- 26: call { callee := value (func 43), args := #[], argTypes := #
      refine ojs_vis [] (fun p hp => by cases hp) ?_
      refine ojs_call [] [] rfl rfl rfl rfl rfl rfl rfl (by simp) (fun _ => scr_stops) (by simp) (.inl rfl) ?_
      rintro e cs F1 _ ⟨rfl, rfl⟩
      exact litK_val (v := ptV ptStops) H rfl (fun p hp => by cases hp) (fun _ => rfl) (show ptV ptStops = ptV ptStops from rfl) hi rfl rfl rfl rfl (Nat.le_refl _) (fun A w h => h)
    refine ⟨fun done env mp T nn F hi hd H => ?_, ?_⟩
    · -- 27: buildSlice 60 2 #[(0, t29), (1, t30)]
      have d25 := dep_done hd 25 rfl
      have t25 : alook T 29 = some (.o (.v (ptV (ptNodes n)))) := (H.ht 25 _ 29 rfl rfl d25).trans (congrArg (fun v => some (TV.o (.v v))) (show env 25 = ptV (ptNodes n) from H.hv 25 d25))
      have d26 := dep_done hd 26 rfl
      have t26 : alook T 30 = some (.o (.v (ptV ptStops))) := (H.ht 26 _ 30 rfl rfl d26).trans (congrArg (fun v => some (TV.o (.v v))) (show env 26 = ptV ptStops from H.hv 26 d26))
      refine ojs_vis [(29, .o (.v (ptV (ptNodes n)))), (30, .o (.v (ptV ptStops)))] (fun p hp => by simp only [List.mem_cons, List.not_mem_nil, or_false] at hp; rcases hp with rfl | rfl <;> first | exact t25 | exact t26) ?_
      refine opK_sound ?_
      exact litK_slice (cells := ([ptNodes n, ptStops]).flatMap encPt) ([ptNodes n, ptStops]) H rfl (fun p hp => by simp only [List.mem_cons, List.not_mem_nil, or_false] at hp; rcases hp with rfl | rfl <;> first | exact t25 | exact t26) rfl rfl encPt_len rfl (by decide) (fun g => (show True from trivial)) hi rfl rfl rfl rfl (fun g A w h _ f hf => by cases List.mem_singleton.1 hf; exact ⟨⟨_, _, rfl⟩, h⟩)
    refine ⟨fun done env mp T nn F hi hd H => ?_, ?_⟩
    · -- 28: insert 102 t9 (const (int i64 6)) t31
      exact lit_insert (j := 27) (v := undef) H hi rfl rfl rfl rfl rfl rfl rfl (by kernel_rfl) rfl rfl (dep_done hd 0 rfl) (dep_done hd 27 rfl) (H.ht 0 _ 9 rfl rfl (dep_done hd 0 rfl)) (H.ht 27 _ 31 rfl rfl (dep_done hd 27 rfl)) (show True from trivial) rfl
    refine ⟨fun done env mp T nn F hi hd H => ?_, ?_⟩
    · -- 29: load 23 t3
      have b3 : alook T 3 = some (.o (.p 0 0)) := H.hT 3 _ rfl
      refine ojs_vis [(3, .o (.p 0 0))] (fun p hp => by simp only [List.mem_cons, List.not_mem_nil, or_false] at hp; rcases hp with rfl <;> first | exact b3) ?_
      refine opK_sound ?_
      exact litK_val (v := Value.agg (shL n l s).toArray) H rfl (fun p hp => by simp only [List.mem_cons, List.not_mem_nil, or_false] at hp; rcases hp with rfl <;> first | exact b3) (fun _ => rfl) (show Value.agg (shL n l s).toArray = Value.agg (shL n l s).toArray from rfl) hi rfl rfl rfl rfl (Nat.le_refl _) (fun A w h => h)
    refine ⟨fun done env mp T nn F hi hd H => ?_, ?_⟩
    · -- 30: call { callee := value (func 40), args := #[t32], argTypes :
      have d29 := dep_done hd 29 rfl
      have t29 : alook T 32 = some (.o (.v (Value.agg (shL n l s).toArray))) := (H.ht 29 _ 32 rfl rfl d29).trans (congrArg (fun v => some (TV.o (.v v))) (show env 29 = Value.agg (shL n l s).toArray from H.hv 29 d29))
      refine ojs_vis [(32, .o (.v (Value.agg (shL n l s).toArray)))] (fun p hp => by simp only [List.mem_cons, List.not_mem_nil, or_false] at hp; rcases hp with rfl <;> first | exact t29) ?_
      refine ojs_call [] [] rfl rfl rfl rfl rfl rfl rfl (by simp) (fun _ => scr_nodes n l s hs) (by simp) (.inl rfl) ?_
      rintro e cs F1 _ ⟨rfl, rfl⟩
      exact litK_val (v := ptV (ptNodes n)) H rfl (fun p hp => by simp only [List.mem_cons, List.not_mem_nil, or_false] at hp; rcases hp with rfl <;> first | exact t29) (fun _ => rfl) (show ptV (ptNodes n) = ptV (ptNodes n) from rfl) hi rfl rfl rfl rfl (Nat.le_refl _) (fun A w h => h)
    refine ⟨fun done env mp T nn F hi hd H => ?_, ?_⟩
    · -- 31: call { callee := value (func 44), args := #[const (int i64 0
      refine ojs_vis [] (fun p hp => by cases hp) ?_
      refine ojs_call [] [] rfl rfl rfl rfl rfl rfl rfl (by simp) (fun _ => kept_c 0) (by simp) (.inl rfl) ?_
      rintro e cs F1 _ ⟨b, rfl, rfl⟩
      exact litK_val (v := ptV (ptKept b)) H rfl (fun p hp => by cases hp) (fun _ => rfl) (show ∃ c, ptV (ptKept b) = ptV (ptKept c) from ⟨b, rfl⟩) hi rfl rfl rfl rfl (Nat.le_refl _) (fun A w h f hf => by rcases List.mem_append.1 hf with hf | hf; cases List.mem_singleton.1 hf; exact ⟨b, rfl, h _ (by simp)⟩; exact h f (by simp [hf]))
    refine ⟨fun done env mp T nn F hi hd H => ?_, ?_⟩
    · -- 32: call { callee := value (func 44), args := #[const (int i64 1
      refine ojs_vis [] (fun p hp => by cases hp) ?_
      refine ojs_call [] [] rfl rfl rfl rfl rfl rfl rfl (by simp) (fun _ => kept_c 1) (by simp) (.inl rfl) ?_
      rintro e cs F1 _ ⟨b, rfl, rfl⟩
      exact litK_val (v := ptV (ptKept b)) H rfl (fun p hp => by cases hp) (fun _ => rfl) (show ∃ c, ptV (ptKept b) = ptV (ptKept c) from ⟨b, rfl⟩) hi rfl rfl rfl rfl (Nat.le_refl _) (fun A w h f hf => by rcases List.mem_append.1 hf with hf | hf; cases List.mem_singleton.1 hf; exact ⟨b, rfl, h _ (by simp)⟩; exact h f (by simp [hf]))
    refine ⟨fun done env mp T nn F hi hd H => ?_, ?_⟩
    · -- 33: buildSlice 60 3 #[(0, t33), (1, t34), (2, t35)]
      have d30 := dep_done hd 30 rfl
      have t30 : alook T 33 = some (.o (.v (ptV (ptNodes n)))) := (H.ht 30 _ 33 rfl rfl d30).trans (congrArg (fun v => some (TV.o (.v v))) (show env 30 = _ from H.hv 30 d30))
      obtain ⟨b0, e31⟩ : ∃ b, env 31 = ptV (ptKept b) := H.hv 31 (dep_done hd 31 rfl)
      obtain ⟨b1, e32⟩ : ∃ b, env 32 = ptV (ptKept b) := H.hv 32 (dep_done hd 32 rfl)
      have d31 := dep_done hd 31 rfl
      have t31 : alook T 34 = some (.o (.v (ptV (ptKept b0)))) := (H.ht 31 _ 34 rfl rfl d31).trans (congrArg (fun v => some (TV.o (.v v))) e31)
      have d32 := dep_done hd 32 rfl
      have t32 : alook T 35 = some (.o (.v (ptV (ptKept b1)))) := (H.ht 32 _ 35 rfl rfl d32).trans (congrArg (fun v => some (TV.o (.v v))) e32)
      have hf0 : keptF 0 (ptV (ptKept b0)) ∈ F := by rw [← e31]; exact H.hs 31 d31 _ (List.mem_singleton.2 rfl)
      have hf1 : keptF 1 (ptV (ptKept b1)) ∈ F := by rw [← e32]; exact H.hs 32 d32 _ (List.mem_singleton.2 rfl)
      have hv : ∀ p ∈ [(33, TV.o (.v (ptV (ptNodes n)))), (34, .o (.v (ptV (ptKept b0)))), (35, .o (.v (ptV (ptKept b1))))], alook T p.1 = some p.2 := (fun p hp => by simp only [List.mem_cons, List.not_mem_nil, or_false] at hp; rcases hp with rfl | rfl | rfl <;> first | exact t30 | exact t31 | exact t32)
      refine ojs_vis _ hv ?_
      refine opK_sound ?_
      exact litK_slice (cells := ([ptNodes n, ptKept b0, ptKept b1]).flatMap encPt) [ptNodes n, ptKept b0, ptKept b1] H rfl hv rfl rfl encPt_len rfl (by decide) (fun g => (show True from trivial)) hi rfl rfl rfl rfl (fun g A w h hF f hf => by
            cases List.mem_singleton.1 hf
            obtain ⟨c0, i0, j0⟩ := hF _ hf0
            obtain ⟨c1, i1, j1⟩ := hF _ hf1
            rw [← ptKept_inj i0] at j0
            rw [← ptKept_inj i1] at j1
            exact ⟨b0, b1, _, _, rfl, j0, j1, h⟩)
    refine ⟨fun done env mp T nn F hi hd H => ?_, ?_⟩
    · -- 34: insert 102 t9 (const (int i64 7)) t36
      exact lit_insert (j := 33) (v := undef) H hi rfl rfl rfl rfl rfl rfl rfl (by kernel_rfl) rfl rfl (dep_done hd 0 rfl) (dep_done hd 33 rfl) (H.ht 0 _ 9 rfl rfl (dep_done hd 0 rfl)) (H.ht 33 _ 36 rfl rfl (dep_done hd 33 rfl)) (show True from trivial) rfl
    refine ⟨fun done env mp T nn F hi hd H => ?_, ?_⟩
    · -- 35: load 23 t3
      have b3 : alook T 3 = some (.o (.p 0 0)) := H.hT 3 _ rfl
      refine ojs_vis [(3, .o (.p 0 0))] (fun p hp => by simp only [List.mem_cons, List.not_mem_nil, or_false] at hp; rcases hp with rfl <;> first | exact b3) ?_
      refine opK_sound ?_
      exact litK_val (v := Value.agg (shL n l s).toArray) H rfl (fun p hp => by simp only [List.mem_cons, List.not_mem_nil, or_false] at hp; rcases hp with rfl <;> first | exact b3) (fun _ => rfl) (show Value.agg (shL n l s).toArray = Value.agg (shL n l s).toArray from rfl) hi rfl rfl rfl rfl (Nat.le_refl _) (fun A w h => h)
    refine ⟨fun done env mp T nn F hi hd H => ?_, ?_⟩
    · -- 36: call { callee := value (func 40), args := #[t37], argTypes :
      have d35 := dep_done hd 35 rfl
      have t35 : alook T 37 = some (.o (.v (Value.agg (shL n l s).toArray))) := (H.ht 35 _ 37 rfl rfl d35).trans (congrArg (fun v => some (TV.o (.v v))) (show env 35 = Value.agg (shL n l s).toArray from H.hv 35 d35))
      refine ojs_vis [(37, .o (.v (Value.agg (shL n l s).toArray)))] (fun p hp => by simp only [List.mem_cons, List.not_mem_nil, or_false] at hp; rcases hp with rfl <;> first | exact t35) ?_
      refine ojs_call [] [] rfl rfl rfl rfl rfl rfl rfl (by simp) (fun _ => scr_nodes n l s hs) (by simp) (.inl rfl) ?_
      rintro e cs F1 _ ⟨rfl, rfl⟩
      exact litK_val (v := ptV (ptNodes n)) H rfl (fun p hp => by simp only [List.mem_cons, List.not_mem_nil, or_false] at hp; rcases hp with rfl <;> first | exact t35) (fun _ => rfl) (show ptV (ptNodes n) = ptV (ptNodes n) from rfl) hi rfl rfl rfl rfl (Nat.le_refl _) (fun A w h => h)
    refine ⟨fun done env mp T nn F hi hd H => ?_, ?_⟩
    · -- 37: buildSlice 60 1 #[(0, t38)]
      have d36 := dep_done hd 36 rfl
      have t36 : alook T 38 = some (.o (.v (ptV (ptNodes n)))) := (H.ht 36 _ 38 rfl rfl d36).trans (congrArg (fun v => some (TV.o (.v v))) (show env 36 = ptV (ptNodes n) from H.hv 36 d36))
      refine ojs_vis [(38, .o (.v (ptV (ptNodes n))))] (fun p hp => by simp only [List.mem_cons, List.not_mem_nil, or_false] at hp; rcases hp with rfl <;> first | exact t36) ?_
      refine opK_sound ?_
      exact litK_slice (cells := ([ptNodes n]).flatMap encPt) ([ptNodes n]) H rfl (fun p hp => by simp only [List.mem_cons, List.not_mem_nil, or_false] at hp; rcases hp with rfl <;> first | exact t36) rfl rfl encPt_len rfl (by decide) (fun g => (show True from trivial)) hi rfl rfl rfl rfl (fun g A w h _ f hf => by cases List.mem_singleton.1 hf; exact ⟨⟨_, _, rfl⟩, h⟩)
    refine ⟨fun done env mp T nn F hi hd H => ?_, ?_⟩
    · -- 38: insert 102 t9 (const (int i64 8)) t39
      exact lit_insert (j := 37) (v := undef) H hi rfl rfl rfl rfl rfl rfl rfl (by kernel_rfl) rfl rfl (dep_done hd 0 rfl) (dep_done hd 37 rfl) (H.ht 0 _ 9 rfl rfl (dep_done hd 0 rfl)) (H.ht 37 _ 39 rfl rfl (dep_done hd 37 rfl)) (show True from trivial) rfl
    refine ⟨fun done env mp T nn F hi hd H => ?_, ?_⟩
    · -- 39: move t9
      have dj := dep_done hd 0 rfl
      have tj := H.ht 0 _ 9 rfl rfl dj
      refine ojs_vis [(9, .o (.v (env 0)))] (fun p hp => by simp only [List.mem_cons, List.not_mem_nil, or_false] at hp; subst hp; exact tj) ?_
      refine opK_sound ?_
      exact litK_eq H rfl (fun p hp => by simp only [List.mem_cons, List.not_mem_nil, or_false] at hp; subst hp; exact tj) (show True from trivial) hi rfl rfl rfl (Nat.le_refl _) (fun A w h => h)
    refine ⟨fun done env mp T nn F hi hd H => ?_, ?_⟩
    · -- 40: move t1
      have b1 : alook T 1 = some (.o (.v (.int .i64 k))) := H.hT 1 _ rfl
      refine ojs_vis [(1, .o (.v (.int .i64 k)))] (fun p hp => by simp only [List.mem_cons, List.not_mem_nil, or_false] at hp; rcases hp with rfl <;> first | exact b1) ?_
      refine opK_sound ?_
      exact litK_val (v := Value.int .i64 k) H rfl (fun p hp => by simp only [List.mem_cons, List.not_mem_nil, or_false] at hp; rcases hp with rfl <;> first | exact b1) (fun _ => rfl) (show Value.int .i64 k = Value.int .i64 k from rfl) hi rfl rfl rfl rfl (Nat.le_refl _) (fun A w h => h)
    refine ⟨fun done env mp T nn F hi hd H => ?_, ?_⟩
    · -- 41: lookup 102 t40 t41 false
      have d40 := dep_done hd 40 rfl
      have t40 : alook T 41 = some (.o (.v (.int .i64 k))) := (H.ht 40 _ 41 rfl rfl d40).trans (congrArg (fun v => some (TV.o (.v v))) (show env 40 = .int .i64 k from H.hv 40 d40))
      have d39 := dep_done hd 39 rfl
      have t39 := H.ht 39 _ 40 rfl rfl d39
      rw [H.pm.2.2 39 (by simp) d39] at t39
      have d0 := dep_done (H.dc 39 _ rfl d39) 0 rfl
      obtain ⟨g, ms, e0, rfl, hms⟩ := H.pm.2.1 d0
      rw [e0] at t39
      have hv : ∀ p ∈ [(40, TV.o (.v (.map (some g)))), (41, .o (.v (.int .i64 k)))], alook T p.1 = some p.2 := (fun p hp => by simp only [List.mem_cons, List.not_mem_nil, or_false] at hp; rcases hp with rfl | rfl <;> first | exact t39 | exact t40)
      refine ojs_vis _ hv ?_
      have d10 := dep_done (H.dc 39 _ rfl d39) 10 rfl
      have d14 := dep_done (H.dc 39 _ rfl d39) 14 rfl
      have d17 := dep_done (H.dc 39 _ rfl d39) 17 rfl
      have d20 := dep_done (H.dc 39 _ rfl d39) 20 rfl
      have d23 := dep_done (H.dc 39 _ rfl d39) 23 rfl
      have d28 := dep_done (H.dc 39 _ rfl d39) 28 rfl
      have d34 := dep_done (H.dc 39 _ rfl d39) 34 rfl
      have d38 := dep_done (H.dc 39 _ rfl d39) 38 rfl
      have d9 := dep_done (H.dc 39 _ rfl d39) 9 rfl
      have d13 := dep_done (H.dc 39 _ rfl d39) 13 rfl
      have d16 := dep_done (H.dc 39 _ rfl d39) 16 rfl
      have d19 := dep_done (H.dc 39 _ rfl d39) 19 rfl
      have d22 := dep_done (H.dc 39 _ rfl d39) 22 rfl
      have d27 := dep_done (H.dc 39 _ rfl d39) 27 rfl
      have d33 := dep_done (H.dc 39 _ rfl d39) 33 rfl
      have d37 := dep_done (H.dc 39 _ rfl d39) 37 rfl
      have d31 := dep_done (H.dc 39 _ rfl d39) 31 rfl
      have d32 := dep_done (H.dc 39 _ rfl d39) 32 rfl
      have hf0 : keptF 0 (env 31) ∈ F := H.hs 31 d31 _ (List.mem_singleton.2 rfl)
      have hf1 : keptF 1 (env 32) ∈ F := H.hs 32 d32 _ (List.mem_singleton.2 rfl)
      have hk8 : k = 1 ∨ k = 2 ∨ k = 3 ∨ k = 4 ∨ k = 5 ∨ k = 6 ∨ k = 7 ∨ k = 8 := by omega
      have pl : ∀ v xs, plainP v xs ∈ F → (∀ b0 b1, namedP n l s k q b0 b1 = xs) → ∀ A w, (∀ f ∈ F, f.h A w) → (namedF n l s k q v).h A w := by
        intro v xs hf hxs A w hF
        obtain ⟨⟨a, c, e1⟩, e2⟩ := hF _ hf
        obtain ⟨b0, _, i0⟩ := hF _ hf0
        obtain ⟨b1, _, i1⟩ := hF _ hf1
        exact ⟨b0, b1, a, c, by rw [hxs, e1], i0, i1, by rw [hxs]; exact e2⟩
      obtain ⟨v, hml, hnf⟩ : ∃ v, mlook ms k = some v ∧ ∀ A w, (∀ f ∈ F, f.h A w) → (namedF n l s k q v).h A w := by
        rcases hk8 with rfl | rfl | rfl | rfl | rfl | rfl | rfl | rfl
        · refine ⟨env 9, by rw [hms]; simp [mspec, d10], ?_⟩
          exact pl _ _ (H.hs 9 d9 _ (List.mem_singleton.2 rfl)) (fun _ _ => rfl)
        · refine ⟨env 13, by rw [hms]; simp [mspec, d14], ?_⟩
          exact pl _ _ (H.hs 13 d13 _ (List.mem_singleton.2 rfl)) (fun _ _ => rfl)
        · refine ⟨env 16, by rw [hms]; simp [mspec, d17], ?_⟩
          exact pl _ _ (H.hs 16 d16 _ (List.mem_singleton.2 rfl)) (fun _ _ => rfl)
        · refine ⟨env 19, by rw [hms]; simp [mspec, d20], ?_⟩
          exact pl _ _ (H.hs 19 d19 _ (List.mem_singleton.2 rfl)) (fun _ _ => rfl)
        · refine ⟨env 22, by rw [hms]; simp [mspec, d23], ?_⟩
          exact pl _ _ (H.hs 22 d22 _ (List.mem_singleton.2 rfl)) (fun _ _ => rfl)
        · refine ⟨env 27, by rw [hms]; simp [mspec, d28], ?_⟩
          exact pl _ _ (H.hs 27 d27 _ (List.mem_singleton.2 rfl)) (fun _ _ => rfl)
        · refine ⟨env 33, by rw [hms]; simp [mspec, d34], ?_⟩
          exact fun A w hF => hF _ (H.hs 33 d33 _ (List.mem_singleton.2 rfl))
        · refine ⟨env 37, by rw [hms]; simp [mspec, d38], ?_⟩
          exact pl _ _ (H.hs 37 d37 _ (List.mem_singleton.2 rfl)) (fun _ _ => rfl)
      exact ojs_lookupL (v := v) (alook_head _ _ _) rfl rfl rfl (by kernel_rfl) rfl rfl hml (litK_val (v := v) H rfl hv (fun _ => rfl) (show True from trivial) hi rfl rfl rfl rfl (Nat.le_refl _) (fun A w h f hf => by rcases List.mem_append.1 hf with hf | hf; cases List.mem_singleton.1 hf; exact hnf A w h; exact h f hf))
    refine ⟨fun done env mp T nn F hi hd H => ?_, ?_⟩
    · -- 42: assign t42
      have d41 := dep_done hd 41 rfl
      have t41 := H.ht 41 _ 42 rfl rfl d41
      refine ojs_vis [(42, .o (.v (env 41)))] (fun p hp => by simp only [List.mem_cons, List.not_mem_nil, or_false] at hp; rcases hp with rfl <;> first | exact t41) ?_
      refine opK_sound ?_
      exact litK_val (v := env 41) H rfl (fun p hp => by simp only [List.mem_cons, List.not_mem_nil, or_false] at hp; rcases hp with rfl <;> first | exact t41) (fun _ => rfl) (show True from trivial) hi rfl rfl rfl rfl (Nat.le_refl _) (fun A w h f hf => by rcases List.mem_append.1 hf with hf | hf; cases List.mem_singleton.1 hf; exact h _ (H.hs 41 d41 _ (List.mem_singleton.2 rfl)); exact h f hf)
    exact trivial
  · intro done env mp hall hv hpm
    exact endR_ok [namedF n l s k q (env 42)] rfl rfl ⟨rfl, rfl⟩ rfl (fun _ => ⟨env 42, rfl, rfl⟩) (fun f hf => by cases List.mem_singleton.1 hf; exact List.mem_append_left _ (List.mem_flatMap.2 ⟨42, by simp, List.mem_singleton.2 rfl⟩))

end Go.Proofs.YthnkjgffahkecaaGreat
