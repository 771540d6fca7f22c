/- Part 42 of the proof of LockBacks: contracts of functions that the law reaches, or the rules by which they are walked. No condition. -/
import Derived.Test.YtmhnlkakbadkgaaGreatPkbm
namespace Go.Proofs.YtmhnlkakbadkgaaGreat
open Go.RowKit Go.Shelf
set_option maxRecDepth 100000
def lck0 : Lck := ⟨false, false, tok0, 0, ⟨0, 0⟩, [], [], []⟩
def lckS0 : LckS := ⟨sls0, none, 0, none, 0, none, 0⟩
theorem lck0_facts {A : Nat → Prop} {w : World} : ∀ f ∈ lckF lck0 lckS0, f.h A w := by
  intro f hf
  simp only [lckF, lck0, lckS0, tok0, sls0, List.mem_cons, List.not_mem_nil, or_false] at hf
  rcases hf with rfl | rfl | rfl | rfl | rfl | rfl <;> exact slF_nilE _ _ _ _
def bakX (pl : Plc) (x : Lck) (hop : Int) : Lck := { x with has := true, tok := { x.tok with age := hop + 1 }, last := hop + 1, own := ⟨pl.me, hop + 1⟩ }
def bakP (x : Lck) (hop : Int) : Bool := !x.has && decide (hop = x.last) && (decide (1 ≤ hop) && decide (hop ≤ 1099511627775))
def backX (pl : Plc) (x : Lck) (hop : Int) : Lck × Bool × Int := bif lockB pl x then (bif bakP x hop then (bakX pl x hop, true, 0) else (x, false, 0)) else (lck0, false, 2)
def backO (ki : IntKind) (r : Lck × Bool × Int) : OutT := fun e _ F1 => ∃ p', e = .returned (.tuple #[.agg (lckV r.1 p').toArray, .bool r.2.1, .int ki r.2.2]) ∧ F1 = lckF r.1 p'
theorem report_c (x : Lck) (p : LckS) : Cm Tryz.prog 11 [.agg (lckV x p).toArray] [] [] (rets (.agg #[.bool x.has, .int .i64 x.last])) := by
  refine cm_of (tab := tb) (ok := tbOk) [.g [.v (.bool x.tree), .v (.bool x.has), .v (.int .i64 x.tok.age), .v (.slice p.tok.a1 x.tok.seq.length p.tok.c1), .v (.slice p.tok.a2 x.tok.q.length p.tok.c2), .v (.slice p.tok.a3 x.tok.hs.length p.tok.c3), .v (.int .i64 x.tok.c.value), .v (.int .i64 x.tok.c.floor), .v (.int .u64 x.tok.c.version), .v (.int .i64 x.last), .v (.int .i64 x.own.node), .v (.int .i64 x.own.hop), .v (.slice p.a4 x.known.length p.c4), .v (.slice p.a5 x.slots.length p.c5), .v (.slice p.a6 x.tries.length p.c6)]] Tryz.func11 Tryz.ntmps11 rfl rfl (fun _ _ => rfl) ?_
  intro w0 A0
  exact endR_ok [] rfl rfl ⟨rfl, rfl⟩ rfl (fun _ => ⟨rfl, rfl⟩) (by simp)
theorem caughtIdleL : CaughtIdle Tryz.prog 18 := by
  intro n pe K lb w
  have hn : ∀ w : World, (binOp .neq 20 .nilIface .nilIface).run Tryz.prog w = .ok (.bool false) w := fun _ => by kernel_rfl
  refine callsDIn_of_wpSIn Tryz.func18 rfl trivial fun c₀ cs hu => ?_
  simp only [Tryz.ntmps18, List.size_toArray, List.length_cons, List.length_nil, Nat.reduceAdd, Nat.reduceSub, Array.replicate_succ, Array.replicate_zero, List.push_toArray, List.append_toArray, List.nil_append, List.cons_append]
  apply wpSIn_seq
  apply wpSIn_region
  simp [wpOpsSIn, go_sem, recoverD, hu, Exit.thenS]
  refine wpSIn_of_wpIn rfl (wpIn_wide.2 ?_)
  generalize hQ : (fun e a' w' => bodyPostS _ _ _ _ _ e a' _ w') = Q
  have HQ := Lib.hid hQ
  clear hQ
  go_wp2
  rw [← HQ.out]
  cases c₀
  simp_all [bodyPostS, results, Tryz.results18]
set_option maxRecDepth 100000 in
set_option maxHeartbeats 1000000 in
theorem caughtUpL : CaughtUp Tryz.prog 18 46 46 := by
  intro nn pe K lb n older w R hnn hE hK hR
  have hn : ∀ (w : World) (n : Int), (binOp .neq 20 (.iface 46 (.int .i64 n)) .nilIface).run Tryz.prog w = .ok (.bool true) w := fun _ _ => by kernel_rfl
  have ht : ∀ (w : World) (n : Int), (Instr.typeAssert (.iface 46 (.int .i64 n)) 20 46 true).run Tryz.prog w = .ok (.tuple #[.int .i64 n, .bool true]) w := fun _ _ => by kernel_rfl
  have eK : ∀ args w, (callFunc K args).run Tryz.prog w = .ok (.enter K args) w := hE
  refine callsDIn_of_wpSIn Tryz.func18 rfl trivial fun c₀ cs hu => ?_
  simp only [Tryz.ntmps18, List.size_toArray, List.length_cons, List.length_nil, Nat.reduceAdd, Nat.reduceSub, Array.replicate_succ, Array.replicate_zero, List.push_toArray, List.append_toArray, List.nil_append, List.cons_append]
  apply wpSIn_seq
  apply wpSIn_region
  simp [wpOpsSIn, go_sem, recoverD, hu, Exit.thenS]
  refine wpSIn_of_wpIn rfl (wpIn_wide.2 ?_)
  generalize hQ : (fun e a' w' => bodyPostS _ _ _ _ _ e a' _ w') = Q
  have HQ := Lib.hid hQ
  clear hQ
  go_wp2_with fail
  refine hK.mono ?_
  rintro e w1 ⟨rfl, hr⟩
  obtain ⟨v, hv⟩ := hR w1 hr
  have c1 := cells1 hv
  go_wp2
  rw [← HQ.out]
  cases c₀
  simp_all [bodyPostS, results, Tryz.results18]
  exact ⟨w1, hr, rfl⟩
theorem clearB_c (b c : Nat) : Cm Tryz.prog 19 [.pointer (some ⟨b, 0, none⟩), .pointer (some ⟨c, 0, none⟩)] [(b, lckV lck0 lckS0, 40), (c, [.bool false], 4)] [] (fun e cs F1 => e = .returned (.tuple #[]) ∧ cs = [lckV lck0 lckS0, [.bool false]] ∧ F1 = []) := by
  refine cm_of (tab := tb) (ok := tbOk) [.o (.p 0 0), .o (.p 1 0)] Tryz.func19 Tryz.ntmps19 rfl rfl (fun ρ h => by simp [TV.den, SV.den, h 0 b rfl, h 1 c rfl]) ?_
  intro w0 A0
  exact endR_ok [] rfl rfl ⟨rfl, rfl⟩ rfl (fun _ => ⟨rfl, rfl, rfl⟩) (by simp)
set_option maxHeartbeats 4000000 in
theorem lockBack_c (pl : Plc) (x : Lck) (p : LckS) (hop : Int) (hx : x.small) : Cm Tryz.prog 7 [.agg (plcL pl).toArray, .agg (lckV x p).toArray, .int .i64 hop] [] (lckF x p) (backO .i64 (backX pl x hop)) := by
  have hO := lockOf_x pl x p hx
  unfold lckF at hO ⊢
  refine cm_ofD (tab := tb) (ok := tbOk) [.g [.v (.int .i64 pl.n), .v (.int .i64 pl.l), .v (.int .i64 pl.s), .v (.int .i64 pl.me), .v (.int .i64 pl.lock), .v (.int .i64 pl.limit), .v (.int .i64 pl.retry), .v (.int .i64 pl.far), .v (.int .i64 pl.now), .v (.bool pl.still)], .g [.v (.bool x.tree), .v (.bool x.has), .v (.int .i64 x.tok.age), .v (.slice p.tok.a1 x.tok.seq.length p.tok.c1), .v (.slice p.tok.a2 x.tok.q.length p.tok.c2), .v (.slice p.tok.a3 x.tok.hs.length p.tok.c3), .v (.int .i64 x.tok.c.value), .v (.int .i64 x.tok.c.floor), .v (.int .u64 x.tok.c.version), .v (.int .i64 x.last), .v (.int .i64 x.own.node), .v (.int .i64 x.own.hop), .v (.slice p.a4 x.known.length p.c4), .v (.slice p.a5 x.slots.length p.c5), .v (.slice p.a6 x.tries.length p.c6)], .o (.v (.int .i64 hop))] Tryz.func7 Tryz.ntmps7 rfl rfl (fun _ _ => rfl) ?_
  intro w0 A0
  refine ojs_caught rfl rfl rfl rfl rfl rfl rfl rfl ?_
  refine ojs_callX (mu := []) [] rfl rfl rfl rfl rfl rfl rfl trivial (by simp) hO (by simp) ?_
  rintro r Ls F1 (⟨hB, p', rfl, rfl, rfl⟩ | ⟨hB, rfl, rfl, rfl⟩)
  rotate_left
  · refine lv_up [2, 3] caughtUpL (enters_of Tryz.func18 (by kernel_rfl) rfl) (enters_of Tryz.func19 (by kernel_rfl) rfl) rfl (by simp) (fun ρ => clearB_c _ _) rfl (lv_ret ?_)
    rw [show backX pl x hop = (lck0, false, 2) by unfold backX; rw [hB]; rfl]
    refine endR_facts (lckF lck0 lckS0) (fun A w _ f hf => lck0_facts f hf) ?_
    exact endR_ok (lckF lck0 lckS0) rfl rfl ⟨rfl, rfl⟩ rfl (fun _ => ⟨lckS0, rfl, rfl⟩) (by simp)
  conv => whnf
  refine brB_split (fun hh => ?_) (fun hh => ?_)
  · 
    rw [show backX pl x hop = (x, false, 0) by unfold backX; rw [hB, show bakP x hop = false by unfold bakP; rw [hh]; rfl]; rfl]
    refine lv_idle caughtIdleL (enters_of Tryz.func18 (by kernel_rfl) rfl) (lv_ret ?_)
    exact endR_ok (lckF x p') rfl rfl ⟨rfl, rfl⟩ rfl (fun _ => ⟨p', rfl, rfl⟩) (fun f hf => by simp [hf])
  conv => whnf
  refine brB_split (fun h1 => ?_) (fun h1 => ?_)
  · have e1 : decide (hop = x.last) = false := by simpa using h1
    rw [show backX pl x hop = (x, false, 0) by unfold backX; rw [hB, show bakP x hop = false by unfold bakP; rw [e1]; simp]; rfl]
    refine lv_idle caughtIdleL (enters_of Tryz.func18 (by kernel_rfl) rfl) (lv_ret ?_)
    exact endR_ok (lckF x p') rfl rfl ⟨rfl, rfl⟩ rfl (fun _ => ⟨p', rfl, rfl⟩) (fun f hf => by simp [hf])
  have e1 : decide (hop = x.last) = true := by simpa using h1
  refine ojs_call [] [] rfl rfl rfl rfl rfl rfl rfl (by simp) (fun _ => lockWithin_c hop 1 1099511627775) (by simp) (.inl rfl) ?_
  rintro e cs F1 _ ⟨rfl, rfl⟩
  cases h2 : inB hop 1 1099511627775
  · have e2 : (decide (1 ≤ hop) && decide (hop ≤ 1099511627775)) = false := h2
    rw [show backX pl x hop = (x, false, 0) by unfold backX; rw [hB, show bakP x hop = false by unfold bakP; rw [e2]; simp]; rfl]
    refine lv_idle caughtIdleL (enters_of Tryz.func18 (by kernel_rfl) rfl) (lv_ret ?_)
    exact endR_ok (lckF x p') rfl rfl ⟨rfl, rfl⟩ rfl (fun _ => ⟨p', rfl, rfl⟩) (fun f hf => by simp [hf])
  have e2 : (decide (1 ≤ hop) && decide (hop ≤ 1099511627775)) = true := h2
  have h3 : 1 ≤ hop ∧ hop ≤ 1099511627775 := by simpa using e2
  rw [show backX pl x hop = (bakX pl x hop, true, 0) by unfold backX; rw [hB, show bakP x hop = true by unfold bakP; rw [hh, e1, e2]; rfl]; rfl]
  refine cjs_drawn [16, 20, 25, 29] (.op 0 <| .op 1 <| .op 2 <| .op 3 <| .op 4 <| .op 5 <| .op 6 <| .op 7 <| .op 8 <| .op 9 <| .op 10 <| .op 11 <| .op 12 <| .op 13 <| .op 14 <| .op 15 <| .op 16 <| .op 17 <| .op 18 <| .op 19 <| .op 20 <| .op 21 <| .op 22 <| .op 23 <| .op 24 <| .op 25 <| .op 26 <| .op 27 <| .op 28 <| .op 29 .z) [0] [] [] [] (by kernel_rfl) (by kernel_rfl) rfl (by simp) (by simp) ?_
  intro N
  refine ⟨_, yd_arith (z := hop + 1) (by rw [wrap_in] <;> omega) rfl rfl rfl rfl, ?_⟩
  refine ⟨_, yd_arith (z := hop + 1) (by rw [wrap_in] <;> omega) rfl rfl rfl rfl, ?_⟩
  refine ⟨_, yd_arith (z := hop + 1) (by rw [wrap_in] <;> omega) rfl rfl rfl rfl, ?_⟩
  refine ⟨_, yd_build rfl rfl rfl rfl, ?_⟩
  refine ⟨⟨(by repeat' (first | exact trivial | refine ⟨Or.inl rfl, ?_⟩ | refine ⟨Or.inr ⟨rfl, Nat.le_of_ble_eq_true rfl, _, rfl, rfl, rfl⟩, ?_⟩)), by simp⟩, ?_⟩
  refine ⟨⟨(by repeat' (first | exact trivial | refine ⟨Or.inl rfl, ?_⟩ | refine ⟨Or.inr ⟨rfl, Nat.le_of_ble_eq_true rfl, _, rfl, rfl, rfl⟩, ?_⟩)), by simp⟩, ?_⟩
  refine ⟨⟨(by repeat' (first | exact trivial | refine ⟨Or.inl rfl, ?_⟩ | refine ⟨Or.inr ⟨rfl, Nat.le_of_ble_eq_true rfl, _, rfl, rfl, rfl⟩, ?_⟩)), by simp⟩, ?_⟩
  refine ⟨⟨(by repeat' (first | exact trivial | refine ⟨Or.inl rfl, ?_⟩ | refine ⟨Or.inr ⟨rfl, Nat.le_of_ble_eq_true rfl, _, rfl, rfl, rfl⟩, ?_⟩)), by simp⟩, ?_⟩
  refine lv_idle caughtIdleL (enters_of Tryz.func18 (by kernel_rfl) rfl) (lv_ret ?_)
  exact endR_ok (lckF x p') rfl rfl ⟨rfl, rfl⟩ rfl (fun _ => ⟨p', rfl, rfl⟩) (fun f hf => by simp [hf])
end Go.Proofs.YtmhnlkakbadkgaaGreat
