/- Reports, by the symbolic run: the law ReportMissing. -/
import Derived.Test.YtnkpmeplapkobaaRpC
namespace Go.Proofs.Ytnkpmeplapkobaa
open Go.RowKit Go.Shelf

theorem cm_ownR {α : Type} {P : Program} {g : FuncId} {args : List Value} {F0 : List Fact} {enc : α → List Value} {xs : List α} {k : Nat} {ty : TypeId} (hk : ∀ x, (enc x).length = k)
    (h : ∀ A w, (∀ b, A b → b < w.heap.size) → (∀ f ∈ F0, f.h A w) → Calls P g args.toArray w fun e w' => ∃ r, e = .returned r ∧ w'.ownsRow w.heap.size ty k r xs.length (xs.flatMap enc) ∧ Below w.heap.size w w') :
    Cm P g args [] F0 (fun e _ F1 => ∃ a c, e = .returned (.slice a xs.length c) ∧ F1 = [slF enc k (.slice a xs.length c) xs]) := by
  intro A w _ _ hA hF
  refine (h A w hA hF).mono ?_
  rintro e w' ⟨r, rfl, hown, hb⟩
  have hS := Sl.of_owns hk hown
  have hbk := own_blk hown
  obtain ⟨a, c, rfl, h2, h3⟩ := hS
  refine ⟨[], _, ⟨a, c, rfl, rfl⟩, Kp.of_below hb, rfl, fun i x c hx => by simp at hx, fun b => w.heap.size ≤ b ∧ b < w'.heap.size, fun b h => .inr h.1, fun b h => h.2, fun f hf => ?_⟩
  cases List.mem_singleton.1 hf
  refine ⟨a, c, rfl, h2, h3.imp id ?_⟩
  rintro ⟨b, off, rfl, h5, h6⟩
  exact ⟨b, off, rfl, ⟨hbk b rfl, h5⟩, h6⟩
theorem refMissing_c (a : Option Addr) (cap : Nat) (t : List (List (Bool × Int))) (hlen : t.length ≤ 100) :
    Cm Try.prog 10 [.agg #[.slice a t.length cap]] [] [rowsF (.slice a t.length cap) t] (fun e _ F1 => ∃ a c, e = .returned (.slice a (missN 0 t).length c) ∧ F1 = [slF encI 1 (.slice a (missN 0 t).length c) (natI (missN 0 t))]) := by
  have := cm_ownR (P := Try.prog) (g := 10) (args := [.agg #[.slice a t.length cap]]) (F0 := [rowsF (.slice a t.length cap) t]) (enc := encI) (xs := natI (missN 0 t)) (k := 1) (ty := 3) (fun _ => rfl) fun A w hA hF => ?_
  · simpa [natI] using this
  · have h := refMissing_any w _ t (rowsF_rows hA (hF _ (List.mem_singleton.2 rfl))) hlen
    simpa [natI] using h
theorem rows_rowsF {v : Value} {t : List (List (Bool × Int))} {w : World} (h : Rows2 w v t) : (rowsF v t).h (fun b => b < w.heap.size) w := by
  obtain ⟨vs, h1, h2, h3⟩ := h
  exact ⟨vs, slF_of_sl h1, h2, fun i u xs hu hx => slF_of_sl (h3 i u xs hu hx)⟩
theorem works_c : Cm Try.prog 8 [] [] [] (rets (.bool true)) := cm_old fun _ w _ _ => works_any w

set_option maxHeartbeats 4000000 in
theorem lawMissing_c (n l s : Int) (a : Option Addr) (cap : Nat) (t : List (List (Bool × Int))) (many : Int) :
    Cm Try.prog 3 [.agg #[.int .i64 n, .int .i64 l, .int .i64 s], .agg #[.slice a t.length cap], .int .i64 many] [] [rowsF (.slice a t.length cap) t] (rets (.bool true)) := by
  refine cm_ofD (tab := tb) (ok := tbOk) [.g [.v (.int .i64 n), .v (.int .i64 l), .v (.int .i64 s)], .g [.v (.slice a t.length cap)], .o (.v (.int .i64 many))] Try.func3 Try.ntmps3 rfl rfl (fun _ _ => rfl) ?_
  intro w0 A0
  refine ojs_call [] [] rfl rfl rfl rfl rfl rfl rfl (by simp) (fun _ => few_c a cap t) (by simp) (.inl rfl) ?_
  rintro e cs F1 _ ⟨rfl, rfl⟩
  cases hfew : fewB t
  · refine ojs_call [] [] rfl rfl rfl rfl rfl rfl rfl (by simp) (fun _ => works_c) (by simp) (.inl rfl) ?_
    rintro e cs F1 _ ⟨rfl, rfl⟩
    exact lv_ret (endR_ok [] rfl rfl ⟨rfl, rfl⟩ rfl (fun _ => ⟨rfl, rfl⟩) (by simp))
  have hf := fewB_is hfew
  have htl : t.length ≤ 1099511627776 := by have := hf.1; omega
  have hlen : ∀ r ∈ t, r.length ≤ 1099511627776 := fun r hr => by have := hf.2 r hr; omega
  refine ojs_call [] [] rfl rfl rfl rfl rfl rfl rfl (by simp) (fun _ => refTally_c n l s a cap t hlen htl) (by simp) (.inl rfl) ?_
  rintro e cs F1 _ ⟨rfl, rfl⟩
  obtain ⟨xs, hxs⟩ : ∃ xs, xs = missX n l s t := ⟨_, rfl⟩
  have hxl : xs.length ≤ 100 := by rw [hxs]; have := missX_len (n := n) (l := l) (s := s) (t := t); omega
  cases ht : tallyB n l s t
  · have h0 : xs = [] := by rw [hxs]; unfold missX; rw [if_neg (by rw [ht]; simp)]
    refine ojs_call [] [] rfl rfl rfl rfl rfl rfl rfl (by simp) (fun _ => missing_c n l s a cap t hlen) (by simp) (.inl rfl) ?_
    rintro e cs F1 _ ⟨bq, aq, cq, rfl, rfl⟩
    rw [← hxs]
    subst h0
    refine ojs_fnil (by kernel_rfl) rfl rfl ?_
    refine cjs_turns 3 ?_
    refine cjs_range (γ := Unit) (fun _ _ => True) (fun _ _ => ([(2, .c [.v (.int .i64 many)] 3), (3, .c [.v (.bool false)] 4), (4, .c [.v (.slice none 0 0)] 29), (5, .c [.v (.int .i64 0)] 3), (6, .c [.v (.int .i64 0)] 3)],
      [blkF bq [.slice aq ([] : List Nat).length cq] 29, slF encI 1 (.slice aq ([] : List Nat).length cq) (natI [])])) () (missSeq_c bq aq cq [] (by simp)) rfl rfl rfl (fun _ => rfl) rfl (Nat.zero_le _) trivial ?_ (by simp) ?_ ?_
    · exact wk_L (by repeat' (first | exact trivial | rfl | refine ⟨?_, ?_⟩ | exact lt_all_v | exact (congrArg some idN_ren_lc.symm) | omega)) (by simp)
    · intro k x _ hx; simp at hx
    · intro _ _
      refine ojs_max rfl rfl rfl rfl rfl ?_
      refine ojs_min rfl rfl rfl rfl rfl ?_
      refine brB_split (fun h => ?_) (fun h => ?_)
      · exfalso; simp at h; omega
      refine ojs_arith (z := 1) (by decide) rfl rfl rfl rfl ?_
      refine cjs_range (γ := Unit) (fun _ _ => True) (fun _ _ => ([(3, .c [.v (.bool false)] 4), (4, .c [.v (.slice none 0 0)] 29), (7, markL), (8, .c [.v (.int .i64 1)] 3), (9, .c [.v (.int .i64 0)] 3)],
        [blkF bq [.slice aq ([] : List Nat).length cq] 29, slF encI 1 (.slice aq ([] : List Nat).length cq) (natI [])])) () (missSeq_c bq aq cq [] (by simp)) rfl rfl rfl (fun _ => rfl) rfl (Nat.zero_le _) trivial ?_ (by simp) ?_ ?_
      · exact wk_L (by repeat' (first | exact trivial | rfl | refine ⟨?_, ?_⟩ | exact lt_all_v | exact (congrArg some idN_ren_lc.symm) | omega)) (by simp)
      · intro k x _ hx; simp at hx
      · intro _ _
        refine ojs_arith (z := 2) (by decide) rfl rfl rfl rfl ?_
        refine ojs_call [] [] rfl rfl rfl rfl rfl rfl rfl (by simp) (fun _ => works_c) (by simp) (.inl rfl) ?_
        rintro e cs F1 _ ⟨rfl, rfl⟩
        refine lv_of (lv_mark ret_ne rfl (lv_mark ret_ne rfl ?_))
        exact lv_ret (endR_ok [] rfl rfl ⟨rfl, rfl⟩ rfl (fun _ => ⟨rfl, rfl⟩) (by simp))
  · have h0 : missN 0 t = xs := by rw [hxs]; unfold missX; rw [if_pos ht]
    refine ojs_call [] [] rfl rfl rfl rfl rfl rfl rfl (by simp) (fun _ => refMissing_c a cap t hf.1) (by simp) (.inl rfl) ?_
    rintro e cs F1 _ ⟨aw, cw, rfl, rfl⟩
    rw [h0]
    refine ojs_call [] [] rfl rfl rfl rfl rfl rfl rfl (by simp) (fun _ => missing_c n l s a cap t hlen) (by simp) (.inl rfl) ?_
    rintro e cs F1 _ ⟨bq, aq, cq, rfl, rfl⟩
    rw [← hxs]
    refine ojs_fnil (by kernel_rfl) rfl rfl ?_
    refine cjs_turns 3 ?_
    refine cjs_range (γ := Unit) (fun k _ => k ≤ xs.length ∧ (k = 0 ∨ (k : Int) < many)) (fun k _ => ([(2, .c [.v (.int .i64 many)] 3), (3, .c [.v (.bool false)] 4), (4, .c [.v (.slice aw xs.length cw)] 29), (5, .c [.v (.int .i64 0)] 3), (6, .c [.v (.int .i64 k)] 3)],
      [slF encI 1 (.slice aw xs.length cw) (natI xs), blkF bq [.slice aq xs.length cq] 29, slF encI 1 (.slice aq xs.length cq) (natI xs)])) () (missSeq_c bq aq cq xs (by omega)) rfl rfl rfl (fun _ => rfl) rfl (Nat.zero_le _) ⟨Nat.zero_le _, .inl rfl⟩ ?_ (by simp) ?_ ?_
    · exact wk_same (by repeat' (first | exact trivial | rfl | refine ⟨?_, ?_⟩ | exact lt_all_v | exact (congrArg some idN_ren_lc.symm) | omega)) (by repeat' (first | exact trivial | rfl | refine ⟨?_, ?_⟩ | exact lt_all_v | exact (congrArg some idN_ren_lc.symm) | omega)) (by simp) (by simp)
    · rintro k x - hx ⟨hk, hkm⟩ l1 w1 A1 M1 N1 hN1
      have hkl := (List.getElem?_eq_some_iff.1 hx).1
      intro w2 A2 M2 N2 hN2
      refine ⟨rfl, ?_⟩
      have hxi : (natI xs)[k]? = some ((x : Nat) : Int) := by simp [natI, hx]
      refine brB_dec (fun h => ?_) (fun h => ?_)
      · omega
      refine ojs_fact (slF encI 1 (.slice aw xs.length cw) (natI xs)) (by simp) (fun A w hF => slF_addr hF (by intro e; rw [e] at hxi; simp at hxi)) ?_
      rintro ⟨bw, ow, rfl⟩
      refine ojs_index rfl (by omega) rfl rfl rfl rfl ?_
      refine ojs_load1 (slF encI 1 (.slice (some ⟨bw, ow, none⟩) xs.length cw) (natI xs)) (by simp) (slF_at hxi (j := 0) rfl) rfl rfl rfl ?_
      refine brB_split (fun h => ?_) (fun _ => ?_)
      · simp at h
      refine ojs_arith (z := ((k + 1 : Nat) : Int)) (by rw [wrap_in] <;> omega) rfl rfl rfl rfl ?_
      refine brB_dec (fun hm => ?_) (fun hm => ?_)
      · refine ⟨rfl, ?_⟩
        have hmm : ((k + 1 : Nat) : Int) = min (xs.length : Int) (max 1 many) := by omega
        refine ojs_max rfl rfl rfl rfl rfl ?_
        refine ojs_min rfl rfl rfl rfl rfl ?_
        refine brB_split (fun h => ?_) (fun h => ?_)
        · exfalso; simp at h; omega
        refine ojs_arith (z := 1) (by decide) rfl rfl rfl rfl ?_
        refine cjs_range (γ := Unit) (fun k _ => k ≤ xs.length) (fun k _ => ([(3, .c [.v (.bool false)] 4), (4, .c [.v (.slice (some ⟨bw, ow, none⟩) xs.length cw)] 29), (7, markL), (8, .c [.v (.int .i64 1)] 3), (9, .c [.v (.int .i64 k)] 3)],
          [slF encI 1 (.slice (some ⟨bw, ow, none⟩) xs.length cw) (natI xs), blkF bq [.slice aq xs.length cq] 29, slF encI 1 (.slice aq xs.length cq) (natI xs)])) () (missSeq_c bq aq cq xs (by omega)) rfl rfl rfl (fun _ => rfl) rfl (Nat.zero_le _) (Nat.zero_le _) ?_ (by simp) ?_ ?_
        · exact wk_L (by repeat' (first | exact trivial | rfl | refine ⟨?_, ?_⟩ | exact lt_all_v | exact (congrArg some idN_ren_lc.symm) | omega)) (by simp)
        · rintro k x - hx hk l1 w1 A1 M1 N1 hN1
          have hkl := (List.getElem?_eq_some_iff.1 hx).1
          intro w2 A2 M2 N2 hN2
          refine ⟨rfl, ?_⟩
          have hxi : (natI xs)[k]? = some ((x : Nat) : Int) := by simp [natI, hx]
          refine brB_dec (fun h => ?_) (fun h => ?_)
          · omega
          refine ojs_fact (slF encI 1 (.slice (some ⟨bw, ow, none⟩) xs.length cw) (natI xs)) (by simp) (fun A w hF => slF_addr hF (by intro e; rw [e] at hxi; simp at hxi)) ?_
          rintro ⟨bw2, ow2, eaw⟩
          (first | (subst eaw) | (cases eaw))
          refine ojs_index rfl (by omega) rfl rfl rfl rfl ?_
          refine ojs_load1 (slF encI 1 (.slice (some ⟨bw, ow, none⟩) xs.length cw) (natI xs)) (by simp) (slF_at hxi (j := 0) rfl) rfl rfl rfl ?_
          refine brB_split (fun h => ?_) (fun _ => ?_)
          · simp at h
          refine ojs_arith (z := ((k + 1 : Nat) : Int)) (by rw [wrap_in] <;> omega) rfl rfl rfl rfl ?_
          exact ⟨(), by omega, wk_same (by repeat' (first | exact trivial | rfl | refine ⟨?_, ?_⟩ | exact lt_all_v | exact (congrArg some idN_ren_lc.symm) | omega)) (by repeat' (first | exact trivial | rfl | refine ⟨?_, ?_⟩ | exact lt_all_v | exact (congrArg some idN_ren_lc.symm) | omega)) (by simp) (Nat.le_of_eq hN2)⟩
        · rintro - hk
          refine brB_split (fun h => ?_) (fun h => ?_)
          · exfalso; simp at h
          refine ojs_arith (z := 2) (by decide) rfl rfl rfl rfl ?_
          refine ojs_call [] [] rfl rfl rfl rfl rfl rfl rfl (by simp) (fun _ => works_c) (by simp) (.inl rfl) ?_
          rintro e cs F1 _ ⟨rfl, rfl⟩
          refine lv_of (lv_mark ret_ne rfl (lv_mark ret_ne rfl ?_))
          exact lv_ret (endR_ok [] rfl rfl ⟨rfl, rfl⟩ rfl (fun _ => ⟨rfl, rfl⟩) (by simp))
      · exact ⟨(), ⟨by omega, .inr (by omega)⟩, wk_same (by repeat' (first | exact trivial | rfl | refine ⟨?_, ?_⟩ | exact lt_all_v | exact (congrArg some idN_ren_lc.symm) | omega)) (by repeat' (first | exact trivial | rfl | refine ⟨?_, ?_⟩ | exact lt_all_v | exact (congrArg some idN_ren_lc.symm) | omega)) (by simp) (Nat.le_of_eq hN2)⟩
    · rintro - ⟨hk, hkm⟩
      have hmm : (xs.length : Int) = min (xs.length : Int) (max 1 many) := by omega
      refine ojs_max rfl rfl rfl rfl rfl ?_
      refine ojs_min rfl rfl rfl rfl rfl ?_
      refine brB_split (fun h => ?_) (fun h => ?_)
      · exfalso; simp at h; omega
      refine ojs_arith (z := 1) (by decide) rfl rfl rfl rfl ?_
      refine cjs_range (γ := Unit) (fun k _ => k ≤ xs.length) (fun k _ => ([(3, .c [.v (.bool false)] 4), (4, .c [.v (.slice aw xs.length cw)] 29), (7, markL), (8, .c [.v (.int .i64 1)] 3), (9, .c [.v (.int .i64 k)] 3)],
        [slF encI 1 (.slice aw xs.length cw) (natI xs), blkF bq [.slice aq xs.length cq] 29, slF encI 1 (.slice aq xs.length cq) (natI xs)])) () (missSeq_c bq aq cq xs (by omega)) rfl rfl rfl (fun _ => rfl) rfl (Nat.zero_le _) (Nat.zero_le _) ?_ (by simp) ?_ ?_
      · exact wk_L (by repeat' (first | exact trivial | rfl | refine ⟨?_, ?_⟩ | exact lt_all_v | exact (congrArg some idN_ren_lc.symm) | omega)) (by simp)
      · rintro k x - hx hk l1 w1 A1 M1 N1 hN1
        have hkl := (List.getElem?_eq_some_iff.1 hx).1
        intro w2 A2 M2 N2 hN2
        refine ⟨rfl, ?_⟩
        have hxi : (natI xs)[k]? = some ((x : Nat) : Int) := by simp [natI, hx]
        refine brB_dec (fun h => ?_) (fun h => ?_)
        · omega
        refine ojs_fact (slF encI 1 (.slice aw xs.length cw) (natI xs)) (by simp) (fun A w hF => slF_addr hF (by intro e; rw [e] at hxi; simp at hxi)) ?_
        rintro ⟨bw2, ow2, eaw⟩
        (first | (subst eaw) | (cases eaw))
        refine ojs_index rfl (by omega) rfl rfl rfl rfl ?_
        refine ojs_load1 (slF encI 1 (.slice (some ⟨bw2, ow2, none⟩) xs.length cw) (natI xs)) (by simp) (slF_at hxi (j := 0) rfl) rfl rfl rfl ?_
        refine brB_split (fun h => ?_) (fun _ => ?_)
        · simp at h
        refine ojs_arith (z := ((k + 1 : Nat) : Int)) (by rw [wrap_in] <;> omega) rfl rfl rfl rfl ?_
        exact ⟨(), by omega, wk_same (by repeat' (first | exact trivial | rfl | refine ⟨?_, ?_⟩ | exact lt_all_v | exact (congrArg some idN_ren_lc.symm) | omega)) (by repeat' (first | exact trivial | rfl | refine ⟨?_, ?_⟩ | exact lt_all_v | exact (congrArg some idN_ren_lc.symm) | omega)) (by simp) (Nat.le_of_eq hN2)⟩
      · rintro - hk
        refine brB_split (fun h => ?_) (fun h => ?_)
        · exfalso; simp at h
        refine ojs_arith (z := 2) (by decide) rfl rfl rfl rfl ?_
        refine ojs_call [] [] rfl rfl rfl rfl rfl rfl rfl (by simp) (fun _ => works_c) (by simp) (.inl rfl) ?_
        rintro e cs F1 _ ⟨rfl, rfl⟩
        refine lv_of (lv_mark ret_ne rfl (lv_mark ret_ne rfl ?_))
        exact lv_ret (endR_ok [] rfl rfl ⟨rfl, rfl⟩ rfl (fun _ => ⟨rfl, rfl⟩) (by simp))

end Go.Proofs.Ytnkpmeplapkobaa
