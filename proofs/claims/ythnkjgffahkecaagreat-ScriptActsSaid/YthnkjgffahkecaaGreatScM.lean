/- Acts, by the symbolic run: one act read from bytes. -/
import Derived.Test.YthnkjgffahkecaaGreatScL
namespace Go.Proofs.YthnkjgffahkecaaGreat
open Go.RowKit Go.Shelf

/-- The parts from the i-th one on, read. -/
def stepA (n l s : Int) : Nat → Nat → Ac → List Int → Option (Ac × List Int)
  | 0, _, _, _ => none
  | f + 1, i, x, bs => match (namedS n l s x.kind x.ask.kind)[i]? with
    | none => some (x, bs)
    | some m => match bs with
      | [] => none
      | b :: r => stepA n l s f (i + 1) (m.put x (b.tmod (m.hi - m.lo + 1) + m.lo)) r
/-- An act that is read. -/
def parseA (n l s : Int) : List Int → Option (Ac × List Int)
  | [] => none
  | b :: r => stepA n l s 7 0 (act0 (b.tmod 8 + 1)) r
theorem namedS_kind {n l s k q : Int} {m : As} (hm : m ∈ namedS n l s k q) (x : Ac) (z : Int) : (m.put x z).kind = x.kind := by
  have h : ∀ m ∈ asksS l s q, ∀ (x : Ac) (z : Int), (m.put x z).kind = x.kind := by
    intro m hm x z
    unfold asksS at hm
    repeat' split at hm
    all_goals (simp only [tickS, List.cons_append, List.nil_append, List.mem_cons, List.not_mem_nil, or_false] at hm)
    all_goals (rcases hm with rfl | rfl | rfl | rfl <;> rfl)
  unfold namedS at hm
  split at hm
  · rcases List.mem_append.1 hm with hm | hm
    · simp only [List.mem_cons, List.not_mem_nil, or_false] at hm
      rcases hm with rfl | rfl <;> rfl
    · exact h m hm x z
  repeat' split at hm
  all_goals (simp only [List.mem_cons, List.not_mem_nil, or_false] at hm)
  · subst hm; rfl
  · subst hm; rfl
  · subst hm; rfl
  · subst hm; rfl
  · rcases hm with rfl | rfl <;> rfl
  · rcases hm with rfl | rfl | rfl
    · rfl
    · rfl
    · rfl
  · subst hm; rfl
theorem namedS_bd {n l s k q : Int} (hs : 1 ≤ n ∧ n ≤ 64 ∧ 1 ≤ l ∧ l ≤ 8 ∧ 1 ≤ s ∧ s ≤ 4) {m : As} (hm : m ∈ namedS n l s k q) : m.lo ≤ m.hi := by
  have h : ∀ m ∈ asksS l s q, m.lo ≤ m.hi := by
    intro m hm
    unfold asksS at hm
    repeat' split at hm
    all_goals (simp only [tickS, List.cons_append, List.nil_append, List.mem_cons, List.not_mem_nil, or_false] at hm)
    all_goals (rcases hm with rfl | rfl | rfl | rfl <;> simp [sLocks, sModes, sPrios, sTicks, sSlots, sUses, sChanges] <;> omega)
  unfold namedS at hm
  split at hm
  · rcases List.mem_append.1 hm with hm | hm
    · simp only [List.mem_cons, List.not_mem_nil, or_false] at hm
      rcases hm with rfl | rfl <;> simp [sNodes, sKind] <;> omega
    · exact h m hm
  repeat' split at hm
  all_goals (simp only [List.mem_cons, List.not_mem_nil, or_false] at hm)
  all_goals (first | (subst hm; simp [sNodes]; omega) | (subst hm; simp [sPlaces]; done) | (rcases hm with rfl | rfl | rfl <;> simp [sNodes, sKept] <;> omega) | (rcases hm with rfl | rfl <;> simp [sNodes, sStops] <;> omega))
theorem clearAct_c (b : Nat) (cs : List Value) (x : Ac) (hcs : cs = actL x) : Cm Tryz.prog 49 [.pointer (some ⟨b, 0, none⟩)] [(b, cs, 39)] [] (fun e cs F1 => e = .returned (.tuple #[]) ∧ cs = [actL (act0 0)] ∧ F1 = []) := by
  subst hcs
  refine cm_of (tab := tb) (ok := tbOk) [.o (.p 0 0)] Tryz.func49 Tryz.ntmps49 rfl rfl (fun ρ h => by simp [TV.den, SV.den, h 0 b rfl]) ?_
  intro w0 A0
  exact endR_ok [] rfl rfl ⟨rfl, rfl⟩ rfl (fun _ => ⟨rfl, rfl, rfl⟩) (by simp)
def actR (n l s : Int) (a : Option Addr) (cap : Nat) (bs : List Int) (at_ : Nat) : OutT := fun e cs F1 => ((∃ x r at2, parseA n l s (bs.drop at_) = some (x, r) ∧ at2 ≤ bs.length ∧ at_ < at2 ∧ r = bs.drop at2 ∧ e = .returned (.tuple #[.agg (actL x).toArray, .int .i64 0]) ∧ cs = [[.slice a bs.length cap, .int .i64 ((at2 : Nat) : Int)]]) ∨
  (∃ at2 : Nat, parseA n l s (bs.drop at_) = none ∧ e = .returned (.tuple #[.agg (actL (act0 0)).toArray, .int .i64 350]) ∧ cs = [[.slice a bs.length cap, .int .i64 at2]])) ∧ F1 = []
theorem caughtIdleS : CaughtIdle Tryz.prog 48 := by
  intro n pe K lb w
  have hn : ∀ w : World, (binOp .neq 20 .nilIface .nilIface).run Tryz.prog w = .ok (.bool false) w := fun _ => by kernel_rfl
  refine callsDIn_of_wpSIn Tryz.func48 rfl trivial fun c₀ cs hu => ?_
  simp only [Tryz.ntmps48, List.size_toArray, List.length_cons, List.length_nil, Nat.reduceAdd, Nat.reduceSub, Array.replicate_succ, Array.replicate_zero, List.push_toArray, List.append_toArray, List.nil_append, List.cons_append]
  apply wpSIn_seq
  apply wpSIn_region
  simp [wpOpsSIn, go_sem, recoverD, hu, Exit.thenS]
  refine wpSIn_of_wpIn rfl (wpIn_wide.2 ?_)
  generalize hQ : (fun e a' w' => bodyPostS _ _ _ _ _ e a' _ w') = Q
  have HQ := Lib.hid hQ
  clear hQ
  go_wp2
  rw [← HQ.out]
  cases c₀
  simp_all [bodyPostS, results, Tryz.results48]
set_option maxRecDepth 100000 in
set_option maxHeartbeats 1000000 in
theorem caughtUpS : CaughtUp Tryz.prog 48 30 30 := by
  intro nn pe K lb n older w R hnn hE hK hR
  have hn : ∀ (w : World) (n : Int), (binOp .neq 20 (.iface 30 (.int .i64 n)) .nilIface).run Tryz.prog w = .ok (.bool true) w := fun _ _ => by kernel_rfl
  have ht : ∀ (w : World) (n : Int), (Instr.typeAssert (.iface 30 (.int .i64 n)) 20 30 true).run Tryz.prog w = .ok (.tuple #[.int .i64 n, .bool true]) w := fun _ _ => by kernel_rfl
  have eK : ∀ args w, (callFunc K args).run Tryz.prog w = .ok (.enter K args) w := hE
  refine callsDIn_of_wpSIn Tryz.func48 rfl trivial fun c₀ cs hu => ?_
  simp only [Tryz.ntmps48, List.size_toArray, List.length_cons, List.length_nil, Nat.reduceAdd, Nat.reduceSub, Array.replicate_succ, Array.replicate_zero, List.push_toArray, List.append_toArray, List.nil_append, List.cons_append]
  apply wpSIn_seq
  apply wpSIn_region
  simp [wpOpsSIn, go_sem, recoverD, hu, Exit.thenS]
  refine wpSIn_of_wpIn rfl (wpIn_wide.2 ?_)
  generalize hQ : (fun e a' w' => bodyPostS _ _ _ _ _ e a' _ w') = Q
  have HQ := Lib.hid hQ
  clear hQ
  go_wp2_with fail
  refine hK.mono ?_
  rintro e w1 ⟨rfl, hr⟩
  obtain ⟨v, hv⟩ := hR w1 hr
  have c1 := cells1 hv
  go_wp2
  rw [← HQ.out]
  cases c₀
  simp_all [bodyPostS, results, Tryz.results48]
  exact ⟨w1, hr, rfl⟩
theorem drop_at {bs : List Int} {k : Nat} {b : Int} (h : bs[k]? = some b) : bs.drop k = b :: bs.drop (k + 1) := by
  obtain ⟨h3, h4⟩ := List.getElem?_eq_some_iff.1 h
  rw [List.drop_eq_getElem_cons h3, h4]
set_option maxHeartbeats 2000000 in
theorem act_c (n l s : Int) (bt : Nat) (a : Option Addr) (cap : Nat) (bs : List Int) (at_ : Nat) (hs : 1 ≤ n ∧ n ≤ 64 ∧ 1 ≤ l ∧ l ≤ 8 ∧ 1 ≤ s ∧ s ≤ 4) (h1 : bs.length ≤ 1000000) (h2 : at_ ≤ bs.length) (hb : ∀ b ∈ bs, 0 ≤ b ∧ b ≤ 255) :
    Cm Tryz.prog 26 [.pointer (some ⟨bt, 0, none⟩), .agg (shL n l s).toArray] [(bt, [.slice a bs.length cap, .int .i64 at_], 76)] [slF byE 1 (.slice a bs.length cap) bs] (actR n l s a cap bs at_) := by
  refine cm_ofD (tab := tb) (ok := tbOk) [.o (.p 0 0), .g [.v (.int .i64 n), .v (.int .i64 l), .v (.int .i64 s)]] Tryz.func26 Tryz.ntmps26 rfl rfl (fun ρ h => by first | (simp [TV.den, SV.den, h 0 bt rfl]; done) | (simp [TV.den, SV.den, h 0 bt rfl]; rfl)) ?_
  intro w0 A0
  refine ojs_caught rfl rfl rfl rfl rfl rfl rfl rfl ?_
  obtain ⟨P0, hP0⟩ : ∃ P0, P0 = parseA n l s (bs.drop at_) := ⟨_, rfl⟩
  have bad : P0 = none → ∀ at2 : Nat, actR n l s a cap bs at_ (.returned (.tuple #[.agg (actL (act0 0)).toArray, .int .i64 350])) [[.slice a bs.length cap, .int .i64 at2]] [] := fun h at2 => ⟨.inr ⟨at2, by rw [← hP0]; exact h, rfl, rfl⟩, rfl⟩
  refine ojs_call [] [0] rfl rfl rfl rfl rfl rfl rfl (by simp) (fun ρ => next_c (ρ 0) a cap bs at_ h1 h2 hb) (by simp) (.inl rfl) ?_
  rintro e cs F1 _ ⟨⟨b, hx, rfl, rfl⟩ | ⟨hx, rfl, rfl⟩, rfl⟩
  rotate_left
  · refine lv_up [2] caughtUpS (enters_of Tryz.func48 (by kernel_rfl) rfl) (enters_of Tryz.func49 (by kernel_rfl) rfl) rfl (by simp) (fun ρ => clearAct_c _ _ (act0 0) rfl) rfl (lv_ret ?_)
    refine endR_ok [] rfl rfl ⟨rfl, rfl⟩ rfl (fun _ => bad ?_ at_) (by simp)
    rw [hP0, List.drop_of_length_le hx]; rfl
  have hlt := (List.getElem?_eq_some_iff.1 hx).1
  have hbx := hb b (List.mem_of_getElem? hx)
  have hm8 : 0 ≤ b.tmod 8 ∧ b.tmod 8 < 8 := ⟨Int.tmod_nonneg _ hbx.1, by have := Int.tmod_lt_of_pos b (show (0 : Int) < 8 by omega); omega⟩
  rw [drop_at hx] at hP0
  have hP1 : stepA n l s 7 0 (act0 (b.tmod 8 + 1)) (bs.drop (at_ + 1)) = P0 := hP0.symm
  refine ojs_yd (yd_div (r := b.tmod 8) (by omega) (by omega) (by omega) rfl rfl rfl rfl) rfl ?_
  refine ojs_arith (z := b.tmod 8 + 1) (by rw [wrap_in] <;> omega) rfl rfl rfl rfl ?_
  refine cjs_loopP (γ := Nat × Nat × Ac) (fun g => g.1 ≤ 6 ∧ at_ < g.2.1 ∧ g.2.1 ≤ bs.length ∧ (1 ≤ g.2.2.kind ∧ g.2.2.kind ≤ 8) ∧ stepA n l s (7 - g.1) g.1 g.2.2 (bs.drop g.2.1) = P0) (fun g => [(6, .o (.v (.int .i64 g.1)))]) (fun g => [(2, .c ((actL g.2.2).map SV.v) 39), (0, .c [.v (.slice a bs.length cap), .v (.int .i64 ((g.2.1 : Nat) : Int))] 76)]) (fun _ => []) (fun g => 7 - g.1) (0, at_ + 1, act0 (b.tmod 8 + 1)) ⟨Nat.zero_le _, Nat.lt_succ_self _, hlt, ⟨by simp only [act0]; omega, by simp only [act0]; omega⟩, hP1⟩ (wk_patch (by repeat' (first | exact trivial | exact Or.inl rfl | refine Or.inr ⟨?_, ?_⟩ | rfl | refine ⟨?_, ?_⟩ | exact lt_all_v)) (by repeat' (first | exact trivial | exact Or.inl rfl | refine Or.inr ⟨?_, ?_⟩ | rfl | refine ⟨?_, ?_⟩ | exact lt_all_v)) (fun f hf => hf) (by simp) (D_cau rfl rfl)) ?_
  rintro ⟨i, at2, x⟩ ⟨hi, ha2, ha3, hk, hst⟩
  simp only at hi ha2 ha3 hk hst
  refine ojs_call [] [] rfl rfl rfl rfl rfl rfl rfl (by simp) (fun _ => named_o n l s x.kind x.ask.kind hs hk) (by simp) (.inl rfl) ?_
  rintro e cs F1 _ ⟨b0, b1, a3, c3, rfl, rfl⟩
  have hl6 := namedP_len (n := n) (l := l) (s := s) (k := x.kind) (q := x.ask.kind) (b0 := b0) (b1 := b1)
  have hl7 := (namedP_ok hs x.kind x.ask.kind b0 b1).len
  obtain ⟨f, hf⟩ : ∃ f, 7 - i = f + 1 := ⟨6 - i, by omega⟩
  rw [hf] at hst
  refine brB_dec (fun g1 => ?_) (fun g1 => ?_)
  rotate_left
  · have hnone : (namedS n l s x.kind x.ask.kind)[i]? = none := by rw [List.getElem?_eq_none_iff]; dsimp only at g1; omega
    simp only [stepA, hnone] at hst
    refine lv_idle caughtIdleS (enters_of Tryz.func48 (by kernel_rfl) rfl) (lv_ret ?_)
    refine endR_ok [] rfl rfl ⟨rfl, rfl⟩ rfl (fun _ => ⟨.inl ⟨x, bs.drop at2, at2, ?_, ha3, ha2, rfl, rfl, rfl⟩, rfl⟩) (by simp)
    rw [drop_at hx, hst, ← hP0]
  have hil : i < (namedP n l s x.kind x.ask.kind b0 b1).length := by dsimp only at g1; omega
  refine ojs_call [] [] rfl rfl rfl rfl rfl rfl rfl (by simp) (fun _ => named_o n l s x.kind x.ask.kind hs hk) (by simp) (.inl rfl) ?_
  rintro e cs F1 _ ⟨d0, d1, a4, c4, rfl, rfl⟩
  have hal := namedP_ok hs x.kind x.ask.kind d0 d1
  have hil2 : i < (namedP n l s x.kind x.ask.kind d0 d1).length := by have := hal.len; omega
  obtain ⟨p, hp⟩ := at_some (xs := namedP n l s x.kind x.ask.kind d0 d1) (k := i) hil2
  obtain ⟨m, hm, e1, e2, hbd, g, cg, h, ch, e3, e4, hg, hh, hget, hput⟩ := hal.at hp
  have hlh := namedS_bd hs (List.mem_of_getElem? hm)
  have hkk := namedS_kind (List.mem_of_getElem? hm)
  obtain ⟨p1, p2, p3, p4⟩ := p
  simp only at e1 e2 e3 e4
  subst e1 e2 e3 e4
  refine ojs_fact (slF encPt 4 (.slice a4 (namedP n l s x.kind x.ask.kind d0 d1).length c4) (namedP n l s x.kind x.ask.kind d0 d1)) (by simp) (slF_neE hp) ?_
  rintro ⟨b', off', rfl⟩
  refine ojs_index rfl hil2 rfl rfl rfl rfl ?_
  refine ojs_loadN (vs := encPt (m.lo, m.hi, .func (.func g) #[] cg.toArray, .func (.func h) #[] ch.toArray)) (slF encPt 4 (.slice (some ⟨b', off', none⟩) (namedP n l s x.kind x.ask.kind d0 d1).length c4) (namedP n l s x.kind x.ask.kind d0 d1)) (by simp) (slF_atN hp) rfl rfl rfl ?_
  simp only [stepA, hm] at hst
  refine cjs_drawn [3, 14] (.op 0 <| .op 1 <| .op 2 <| .op 4 <| .op 5 <| .op 6 <| .op 7 <| .op 8 <| .op 9 <| .op 11 <| .op 12 <| .op 3 <| .op 10 <| .op 13 <| .op 14 .z) [4] [] [4, 5] [] (by kernel_rfl) (by kernel_rfl) rfl (by simp) (by simp) ?_
  intro N
  refine ⟨_, yd_arith (z := m.hi - m.lo) (by dsimp only; rw [wrap_in] <;> omega) rfl rfl rfl rfl, ?_⟩
  refine ⟨_, yd_arith (z := m.hi - m.lo + 1) (by first | (rw [wrap_in] <;> omega) | (dsimp only; rw [wrap_in] <;> omega)) rfl rfl rfl rfl, ?_⟩
  refine ojs_call [] [0] rfl rfl rfl rfl rfl rfl rfl (by simp) (fun ρ => next_c (ρ 0) a cap bs at2 h1 ha3 hb) (by simp) (.inl rfl) ?_
  rintro e cs F1 _ ⟨⟨b2, hx2, rfl, rfl⟩ | ⟨hx2, rfl, rfl⟩, rfl⟩
  rotate_left
  · rw [List.drop_of_length_le hx2] at hst
    refine ⟨⟨rfl, rfl, trivial⟩, ?_⟩
    refine lv_up [2] caughtUpS (enters_of Tryz.func48 (by kernel_rfl) rfl) (enters_of Tryz.func49 (by kernel_rfl) rfl) rfl (by simp) (fun ρ => clearAct_c _ _ x rfl) rfl (lv_ret ?_)
    exact endR_ok [] rfl rfl ⟨rfl, rfl⟩ rfl (fun _ => bad hst.symm at2) (by simp)
  have hbx2 := hb b2 (List.mem_of_getElem? hx2)
  rw [drop_at hx2] at hst
  simp only at hst
  have hd : 0 < m.hi - m.lo + 1 := by omega
  have hmm : 0 ≤ b2.tmod (m.hi - m.lo + 1) ∧ b2.tmod (m.hi - m.lo + 1) < m.hi - m.lo + 1 := ⟨Int.tmod_nonneg _ hbx2.1, Int.tmod_lt_of_pos _ hd⟩
  refine ⟨⟨(by repeat' (first | exact trivial | refine ⟨Or.inl rfl, ?_⟩ | refine ⟨Or.inr ⟨rfl, Nat.le_of_ble_eq_true rfl, _, rfl, rfl, rfl⟩, ?_⟩)), by simp⟩, ?_⟩
  refine ⟨_, yd_div (r := b2.tmod (m.hi - m.lo + 1)) (by omega) (by omega) (by omega) rfl rfl rfl rfl, ?_⟩
  refine ⟨_, yd_arith (z := b2.tmod (m.hi - m.lo + 1) + m.lo) (by first | (rw [wrap_in] <;> omega) | (dsimp only; rw [wrap_in] <;> omega)) rfl rfl rfl rfl, ?_⟩
  generalize hz : b2.tmod (m.hi - m.lo + 1) + m.lo = z at hst ⊢
  have hput2 : ∀ ρ : Nm, Cm Tryz.prog h (argV ρ [] [.o (.p 2 0), .o (.v (.int .i64 z))] (ch.map PV.v)) [(ρ 2, actL x, 39)] (boxF d0 d1) (putC (actL (m.put x z))) := fun ρ => by
    have e : argV ρ [] [.o (.p 2 0), .o (.v (.int .i64 z))] (ch.map PV.v) = .pointer (some ⟨ρ 2, 0, none⟩) :: .int .i64 z :: ch := by simp [argV, List.map_map, Function.comp_def, PV.den, TV.den, SV.den]
    rw [e]; exact hput x z (ρ 2) (by omega) (by omega)
  refine ojs_call [] [2] rfl rfl rfl rfl hh rfl rfl (by simp) (fun ρ => hput2 ρ) (by simp [boxF]) (.inl rfl) ?_
  rintro e cs F1 _ ⟨rfl, rfl, rfl⟩
  refine ⟨⟨(by repeat' (first | exact trivial | refine ⟨Or.inl rfl, ?_⟩ | refine ⟨Or.inr ⟨rfl, Nat.le_of_ble_eq_true rfl, _, rfl, rfl, rfl⟩, ?_⟩)), by simp⟩, ?_⟩
  refine ojs_arith (z := ((i + 1 : Nat) : Int)) (by first | decide | (rw [wrap_in] <;> omega) | (dsimp only; rw [wrap_in] <;> omega)) rfl rfl rfl rfl ?_
  refine ⟨(i + 1, at2 + 1, m.put x z), ⟨by dsimp only; omega, by dsimp only; omega, (List.getElem?_eq_some_iff.1 hx2).1, by rw [hkk]; exact hk, ?_⟩, (by first | omega | (dsimp only; omega)), wk_patch (by repeat' (first | exact trivial | exact Or.inl rfl | refine Or.inr ⟨?_, ?_⟩ | rfl | refine ⟨?_, ?_⟩ | exact lt_all_v)) (by repeat' (first | exact trivial | exact Or.inl rfl | refine Or.inr ⟨?_, ?_⟩ | rfl | refine ⟨?_, ?_⟩ | exact lt_all_v)) (by simp) (by simp) (D_cau rfl rfl)⟩
  dsimp only
  rw [show 7 - (i + 1) = f by omega]
  exact hst

end Go.Proofs.YthnkjgffahkecaaGreat
