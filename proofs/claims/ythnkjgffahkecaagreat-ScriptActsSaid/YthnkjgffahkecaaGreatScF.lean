/- Asks and configs, by the symbolic run: which may be. -/
import Derived.Test.YthnkjgffahkecaaGreatScE
namespace Go.Proofs.YthnkjgffahkecaaGreat
open Go.RowKit Go.Shelf

theorem partsInfoC : ∃ i, Tryz.prog.info? 130 = some i ∧ i.zero = some (.slice none 0 0) := by
  have : (Tryz.prog.info? 130).map (fun i => i.zero) = some (some (.slice none 0 0)) := by kernel_rfl
  simpa using this
theorem kindC_none {k : Int} : kindC k = [] ↔ ¬ (1 ≤ k ∧ k ≤ 7) := by
  unfold kindC
  constructor
  · intro h
    by_cases q1 : k = 1
    · simp [q1] at h
    by_cases q2 : k = 2
    · simp [q2] at h
    by_cases q3 : k = 3
    · simp [q3, tickC] at h
    by_cases q4 : k = 4
    · simp [q4, tickC] at h
    by_cases q5 : k = 5
    · simp [q5, tickC] at h
    by_cases q6 : k = 6
    · simp [q6, tickC] at h
    by_cases q7 : k = 7
    · simp [q7] at h
    omega
  · intro h
    rw [if_neg (by omega), if_neg (by omega), if_neg (by omega), if_neg (by omega), if_neg (by omega), if_neg (by omega), if_neg (by omega)]
theorem kindC_len {k : Int} : (kindC k).length ≤ 4 := by
  unfold kindC
  repeat' split
  all_goals (simp [tickC])
set_option maxHeartbeats 1000000 in
theorem callRight_c (q : Ask) (n l s : Int) (hw : -9223372036854775808 ≤ q.chg ∧ q.chg ≤ 9223372036854775807) : Cm Tryz.prog 55 [.agg (askL q ++ shL n l s).toArray] [] [] (rets (.bool (askB n l s q))) := by
  refine cm_of (tab := tb) (ok := tbOk) [.g [.v (.int .i64 q.kind), .v (.int .i64 q.lock), .v (.int .i64 q.mode), .v (.int .i64 q.prio), .v (.int .i64 q.ticks), .v (.int .i64 q.slot), .v (.int .i64 q.use), .v (.int .i64 q.chg), .v (.int .i64 n), .v (.int .i64 l), .v (.int .i64 s)]] Tryz.func55 Tryz.ntmps55 rfl rfl (fun _ _ => rfl) ?_
  intro w0 A0
  refine cjs_drawn [0, 4] (.op 1 <| .op 2 <| .op 3 <| .op 0 <| .op 4 <| .op 5 <| .op 6 <| .op 7 <| .op 8 <| .op 9 .z) [0] [] [] [] (by kernel_rfl) (by kernel_rfl) rfl (by simp) (by simp) ?_
  intro N
  refine ojs_call [] [] rfl rfl rfl rfl rfl rfl rfl (by simp) (fun _ => kinds_c) (by simp) (.inl rfl) ?_
  rintro e cs F1 _ ⟨v, rfl, rfl⟩
  refine ⟨⟨(by repeat' (first | exact trivial | refine ⟨Or.inl rfl, ?_⟩ | refine ⟨Or.inr ⟨rfl, Nat.le_of_ble_eq_true rfl, _, rfl, rfl, rfl⟩, ?_⟩)), by simp⟩, ?_⟩
  refine ojs_ex (p := fun x : Nat × List (Int × Value) × Option Addr × Nat × Bool => v = .map (some x.1) ∧ ((mlook x.2.1 q.kind = some (.slice x.2.2.1 (kindC q.kind).length x.2.2.2.1) ∧ kindC q.kind ≠ [] ∧ x.2.2.2.2 = true) ∨ (mlook x.2.1 q.kind = none ∧ x.2.2.1 = none ∧ x.2.2.2.1 = 0 ∧ kindC q.kind = [] ∧ x.2.2.2.2 = false)))
    (fun x => [objF x.1 (mapO x.2.1), slF encC 3 (.slice x.2.2.1 (kindC q.kind).length x.2.2.2.1) (kindC q.kind)]) (fun A w h => ?_) ?_
  · obtain ⟨g, ms, e1, e2, e3⟩ := h (kindMF v) (List.mem_cons_self ..)
    rcases e3 q.kind with ⟨u, e4, e5, e6⟩ | ⟨e4, e5⟩
    · obtain ⟨a, c, rfl, _⟩ := id e5
      refine ⟨(g, ms, a, c, true), ⟨e1, .inl ⟨e4, e6, rfl⟩⟩, fun f hf => ?_⟩
      simp only [List.mem_cons, List.not_mem_nil, or_false] at hf
      rcases hf with rfl | rfl
      · exact e2
      · exact e5
    · refine ⟨(g, ms, none, 0, false), ⟨e1, .inr ⟨e4, rfl, rfl, e5, rfl⟩⟩, fun f hf => ?_⟩
      simp only [List.mem_cons, List.not_mem_nil, or_false] at hf
      rcases hf with rfl | rfl
      · exact e2
      · rw [e5]; exact ⟨none, 0, rfl, ⟨Nat.le_refl _, fun _ => rfl⟩, .inl rfl⟩
  rintro ⟨gm, ms, a, c, b⟩ ⟨rfl, hu⟩
  simp only at hu
  obtain ⟨ti, hti, hz⟩ := partsInfoC
  refine ojs_yd (yd_lookupOk (v := .slice a (kindC q.kind).length c) (b := b) (List.mem_cons_self ..) rfl (by kernel_rfl) hti rfl rfl (hu.elim (fun h => .inl ⟨h.1, h.2.2⟩) (fun h => .inr ⟨h.1, by rw [h.2.1, h.2.2.1, h.2.2.2.1]; exact hz, h.2.2.2.2⟩))) rfl ?_
  refine ⟨⟨(by repeat' (first | exact trivial | refine ⟨Or.inl rfl, ?_⟩ | refine ⟨Or.inr ⟨rfl, Nat.le_of_ble_eq_true rfl, _, rfl, rfl, rfl⟩, ?_⟩)), by simp⟩, ?_⟩
  cases b
  · have hk : kindC q.kind = [] := by rcases hu with h | h; exact absurd h.2.2 (by simp); exact h.2.2.2.1
    have hk2 := kindC_none.1 hk
    refine endR_ok [] rfl rfl ⟨rfl, rfl⟩ rfl (fun _ => ⟨ret_bool ?_, rfl⟩) (by simp)
    have : (decide (1 ≤ q.kind) && decide (q.kind ≤ 7)) = false := by rw [Bool.eq_false_iff]; simp; omega
    simp [askB, this]
  have hk : kindC q.kind ≠ [] := by rcases hu with h | h; exact h.2.1; exact absurd h.2.2.2.2 (by simp)
  have hk2 : 1 ≤ q.kind ∧ q.kind ≤ 7 := Classical.byContradiction fun h => hk (kindC_none.2 h)
  have hE : shapeE n l s = bif shapeB n l s then 0 else 2 := rfl
  refine ojs_call [] [] rfl rfl rfl rfl rfl rfl rfl (by simp) (fun _ => siteCheck_c n l s) (by simp) (.inl rfl) ?_
  rintro e cs F1 _ ⟨rfl, rfl⟩
  rw [hE]
  cases hs : shapeB n l s
  · refine endR_ok [] rfl rfl ⟨rfl, rfl⟩ rfl (fun _ => ⟨ret_bool (by simp [askB, hs]), rfl⟩) (by simp)
  have hs2 := shapeB_is hs
  refine ojs_yd (yd_boolNe (p := (q.kind == 7)) (q := (q.chg != 0)) (r := ((q.kind == 7) != (q.chg != 0))) (by kernel_rfl) rfl rfl rfl rfl) rfl ?_
  refine brB_split (fun hb => ?_) (fun hb => ?_)
  · refine endR_ok [] rfl rfl ⟨rfl, rfl⟩ rfl (fun _ => ⟨ret_bool ?_, rfl⟩) (by simp)
    have hb1 : (decide (q.kind = 7) != !decide (q.chg = 0)) = true := hb
    symm
    rw [Bool.eq_false_iff]
    intro hA
    simp only [askB, Bool.and_eq_true] at hA
    have hA2 := hA.2
    by_cases h7 : q.kind = 7 <;> by_cases h0 : q.chg = 0
    · rw [if_pos (by omega)] at hA2
      simp [h7, h0] at hA2
    · simp [h7, h0] at hb1
    · simp [h7, h0] at hb1
    · by_cases h2 : 2 < q.kind
      · rw [if_pos h2] at hA2
        simp [h7, h0] at hA2
      · rw [if_neg h2] at hA2
        simp [h0] at hA2
  have hb1 : (decide (q.kind = 7) != !decide (q.chg = 0)) = false := hb
  have hb2 : (decide (q.kind = 7) != decide (q.chg ≠ 0)) = false := by
    rw [← hb1]
    by_cases h0 : q.chg = 0 <;> simp [h0]
  have hrun := askB_run (q := q) hs hk2 hb2 hw
  have hlen := kindC_len (k := q.kind)
  obtain ⟨hl, hok⟩ := kindC_ok (n := n) (l := l) (s := s) (by omega) q.kind
  obtain ⟨ps, hps⟩ : ∃ ps, ps = kindC q.kind := ⟨_, rfl⟩
  obtain ⟨ms2, hms⟩ : ∃ m, m = kindQ l s q.kind := ⟨_, rfl⟩
  rw [← hps] at hl hok hlen ⊢
  rw [← hms] at hl hok hrun
  refine cjs_loopP (γ := Nat × Ask) (fun g => g.1 ≤ ps.length ∧ okQ (runQ (ms2.drop g.1) q g.2) q = askB n l s q) (fun g => [(42, .o (.v (.int .i64 g.1)))]) (fun g => [(1, .c ((askL g.2).map SV.v) 36)]) (fun _ => []) (fun g => ps.length - g.1) (0, ask0 q.kind) ⟨Nat.zero_le _, by simpa using hrun⟩ (wk_patch (by repeat' (first | exact trivial | exact Or.inl rfl | refine Or.inr ⟨?_, ?_⟩ | rfl | refine ⟨?_, ?_⟩ | exact lt_all_v)) (by repeat' (first | exact trivial | exact Or.inl rfl | refine Or.inr ⟨?_, ?_⟩ | rfl | refine ⟨?_, ?_⟩ | exact lt_all_v)) (fun f hf => hf) (by simp) D_nil) ?_
  rintro ⟨i, x⟩ ⟨hi, hx⟩
  simp only at hi hx
  refine brB_dec (fun h1 => ?_) (fun h1 => ?_)
  · have hil : i < ps.length := by dsimp only at h1; omega
    obtain ⟨p, hp⟩ := at_some (xs := ps) (k := i) hil
    obtain ⟨m, hm, g, h, e1, e2, hg, hh, hget, hput⟩ := hok i p hp
    obtain ⟨p1, p2, p3⟩ := p
    simp only at e1 e2
    subst e1
    subst e2
    refine ojs_fact (slF encC 3 (.slice a ps.length c) ps) (by simp) (slF_neE hp) ?_
    rintro ⟨b, off, rfl⟩
    refine ojs_index rfl hil rfl rfl rfl rfl ?_
    refine ojs_loadN (vs := encC (fnV' g, fnV' h, p3)) (slF encC 3 (.slice (some ⟨b, off, none⟩) ps.length c) ps) (by simp) (slF_atN hp) rfl rfl rfl ?_
    refine ojs_call [] [] rfl rfl rfl rfl hg rfl rfl (by simp) (fun _ => hget q) (by simp) (.inl rfl) ?_
    rintro e cs F1 _ ⟨rfl, rfl⟩
    refine ojs_call [4] [] rfl rfl rfl rfl rfl rfl rfl (by simp) (fun ρ => callAll_c (m.get q, m.lo, m.hi) (ρ 4) 139) (by simp) (.inr (by rintro e cs F1 ⟨_, rfl⟩; rfl)) ?_
    rintro e cs F1 _ ⟨rfl, rfl⟩
    have hdr : ms2.drop i = m :: ms2.drop (i + 1) := by
      obtain ⟨h3, h4⟩ := List.getElem?_eq_some_iff.1 hm
      rw [List.drop_eq_getElem_cons h3, h4]
    rw [hdr] at hx
    simp only [runQ] at hx
    cases ho : outBd (m.get q, m.lo, m.hi)
    · rw [ho] at hx
      refine ojs_call [] [1] rfl rfl rfl rfl hh rfl rfl (by simp) (fun ρ => hput x (m.get q) (ρ 1)) (by simp) (.inl rfl) ?_
      rintro e cs F1 _ ⟨rfl, rfl, rfl⟩
      refine ojs_arith (z := ((i + 1 : Nat) : Int)) (by first | decide | (rw [wrap_in] <;> omega) | (dsimp only; rw [wrap_in] <;> omega)) rfl rfl rfl rfl ?_
      exact ⟨(i + 1, m.put x (m.get q)), ⟨hil, hx⟩, (by first | omega | (dsimp only; omega)), wk_patch (by repeat' (first | exact trivial | exact Or.inl rfl | refine Or.inr ⟨?_, ?_⟩ | rfl | refine ⟨?_, ?_⟩ | exact lt_all_v)) (by repeat' (first | exact trivial | exact Or.inl rfl | refine Or.inr ⟨?_, ?_⟩ | rfl | refine ⟨?_, ?_⟩ | exact lt_all_v)) (by simp) (by simp) D_nil⟩
    · rw [ho] at hx
      exact endR_ok [] rfl rfl ⟨rfl, rfl⟩ rfl (fun _ => ⟨ret_bool hx, rfl⟩) (by simp)
  · have hil : i = ps.length := by dsimp only at h1; omega
    rw [List.drop_of_length_le (by omega)] at hx
    refine ojs_yd (yd_eqF (xs := askL x) (ys := askL q) (r := askEq x q) (ks := [4, 4, 4, 4, 4, 4, 4, 4]) (by kernel_rfl) (by kernel_rfl) rfl rfl rfl (fun _ => rfl) (fun _ => rfl) rfl) rfl ?_
    exact endR_ok [] rfl rfl ⟨rfl, rfl⟩ rfl (fun _ => ⟨ret_bool hx, rfl⟩) (by simp)

end Go.Proofs.YthnkjgffahkecaaGreat
