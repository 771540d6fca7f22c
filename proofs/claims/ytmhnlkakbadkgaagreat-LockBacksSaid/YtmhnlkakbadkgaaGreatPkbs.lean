/- Part 45 of the proof of LockBacks: contracts of functions that the law reaches, or the rules by which they are walked. No condition. -/
import Derived.Test.YtmhnlkakbadkgaaGreatPkag
import Derived.Test.YtmhnlkakbadkgaaGreatPkax
namespace Go.Proofs.YtmhnlkakbadkgaaGreat
open Go.RowKit Go.Shelf
set_option maxRecDepth 1000000
theorem caughtIdleLW : CaughtIdle Tryz.prog 18 := by
  intro n pe K lb w
  have hn : ∀ w : World, (binOp .neq 20 .nilIface .nilIface).run Tryz.prog w = .ok (.bool false) w := fun _ => by kernel_rfl
  refine callsDIn_of_wpSIn Tryz.func18 rfl trivial fun c₀ cs hu => ?_
  simp only [Tryz.ntmps18, List.size_toArray, List.length_cons, List.length_nil, Nat.reduceAdd, Nat.reduceSub, Array.replicate_succ, Array.replicate_zero, List.push_toArray, List.append_toArray, List.nil_append, List.cons_append]
  apply wpSIn_seq
  apply wpSIn_region
  simp [wpOpsSIn, go_sem, recoverD, hu, Exit.thenS]
  refine wpSIn_of_wpIn rfl (wpIn_wide.2 ?_)
  generalize hQ : (fun e a' w' => bodyPostS _ _ _ _ _ e a' _ w') = Q
  have HQ := Lib.hid hQ
  clear hQ
  go_wp2
  rw [← HQ.out]
  cases c₀
  simp_all [bodyPostS, results, Tryz.results18]
set_option maxRecDepth 100000 in
set_option maxHeartbeats 1000000 in
theorem caughtUpLW : CaughtUp Tryz.prog 18 46 46 := by
  intro nn pe K lb n older w R hnn hE hK hR
  have hn : ∀ (w : World) (n : Int), (binOp .neq 20 (.iface 46 (.int .i64 n)) .nilIface).run Tryz.prog w = .ok (.bool true) w := fun _ _ => by kernel_rfl
  have ht : ∀ (w : World) (n : Int), (Instr.typeAssert (.iface 46 (.int .i64 n)) 20 46 true).run Tryz.prog w = .ok (.tuple #[.int .i64 n, .bool true]) w := fun _ _ => by kernel_rfl
  have eK : ∀ args w, (callFunc K args).run Tryz.prog w = .ok (.enter K args) w := hE
  refine callsDIn_of_wpSIn Tryz.func18 rfl trivial fun c₀ cs hu => ?_
  simp only [Tryz.ntmps18, List.size_toArray, List.length_cons, List.length_nil, Nat.reduceAdd, Nat.reduceSub, Array.replicate_succ, Array.replicate_zero, List.push_toArray, List.append_toArray, List.nil_append, List.cons_append]
  apply wpSIn_seq
  apply wpSIn_region
  simp [wpOpsSIn, go_sem, recoverD, hu, Exit.thenS]
  refine wpSIn_of_wpIn rfl (wpIn_wide.2 ?_)
  generalize hQ : (fun e a' w' => bodyPostS _ _ _ _ _ e a' _ w') = Q
  have HQ := Lib.hid hQ
  clear hQ
  go_wp2_with fail
  refine hK.mono ?_
  rintro e w1 ⟨rfl, hr⟩
  obtain ⟨v, hv⟩ := hR w1 hr
  have c1 := cells1 hv
  go_wp2
  rw [← HQ.out]
  cases c₀
  simp_all [bodyPostS, results, Tryz.results18]
  exact ⟨w1, hr, rfl⟩
theorem caughtIdleSW : CaughtIdle Tryz.prog 72 := by
  intro n pe K lb w
  have hn : ∀ w : World, (binOp .neq 20 .nilIface .nilIface).run Tryz.prog w = .ok (.bool false) w := fun _ => by kernel_rfl
  refine callsDIn_of_wpSIn Tryz.func72 rfl trivial fun c₀ cs hu => ?_
  simp only [Tryz.ntmps72, List.size_toArray, List.length_cons, List.length_nil, Nat.reduceAdd, Nat.reduceSub, Array.replicate_succ, Array.replicate_zero, List.push_toArray, List.append_toArray, List.nil_append, List.cons_append]
  apply wpSIn_seq
  apply wpSIn_region
  simp [wpOpsSIn, go_sem, recoverD, hu, Exit.thenS]
  refine wpSIn_of_wpIn rfl (wpIn_wide.2 ?_)
  generalize hQ : (fun e a' w' => bodyPostS _ _ _ _ _ e a' _ w') = Q
  have HQ := Lib.hid hQ
  clear hQ
  go_wp2
  rw [← HQ.out]
  cases c₀
  simp_all [bodyPostS, results, Tryz.results72]
set_option maxRecDepth 100000 in
set_option maxHeartbeats 1000000 in
theorem caughtUpSW : CaughtUp Tryz.prog 72 46 46 := by
  intro nn pe K lb n older w R hnn hE hK hR
  have hn : ∀ (w : World) (n : Int), (binOp .neq 20 (.iface 46 (.int .i64 n)) .nilIface).run Tryz.prog w = .ok (.bool true) w := fun _ _ => by kernel_rfl
  have ht : ∀ (w : World) (n : Int), (Instr.typeAssert (.iface 46 (.int .i64 n)) 20 46 true).run Tryz.prog w = .ok (.tuple #[.int .i64 n, .bool true]) w := fun _ _ => by kernel_rfl
  have eK : ∀ args w, (callFunc K args).run Tryz.prog w = .ok (.enter K args) w := hE
  refine callsDIn_of_wpSIn Tryz.func72 rfl trivial fun c₀ cs hu => ?_
  simp only [Tryz.ntmps72, List.size_toArray, List.length_cons, List.length_nil, Nat.reduceAdd, Nat.reduceSub, Array.replicate_succ, Array.replicate_zero, List.push_toArray, List.append_toArray, List.nil_append, List.cons_append]
  apply wpSIn_seq
  apply wpSIn_region
  simp [wpOpsSIn, go_sem, recoverD, hu, Exit.thenS]
  refine wpSIn_of_wpIn rfl (wpIn_wide.2 ?_)
  generalize hQ : (fun e a' w' => bodyPostS _ _ _ _ _ e a' _ w') = Q
  have HQ := Lib.hid hQ
  clear hQ
  go_wp2_with fail
  refine hK.mono ?_
  rintro e w1 ⟨rfl, hr⟩
  obtain ⟨v, hv⟩ := hR w1 hr
  have c1 := cells1 hv
  go_wp2
  rw [← HQ.out]
  cases c₀
  simp_all [bodyPostS, results, Tryz.results72]
  exact ⟨w1, hr, rfl⟩
theorem caughtIdleTW : CaughtIdle Tryz.prog 98 := by
  intro n pe K lb w
  have hn : ∀ w : World, (binOp .neq 20 .nilIface .nilIface).run Tryz.prog w = .ok (.bool false) w := fun _ => by kernel_rfl
  refine callsDIn_of_wpSIn Tryz.func98 rfl trivial fun c₀ cs hu => ?_
  simp only [Tryz.ntmps98, List.size_toArray, List.length_cons, List.length_nil, Nat.reduceAdd, Nat.reduceSub, Array.replicate_succ, Array.replicate_zero, List.push_toArray, List.append_toArray, List.nil_append, List.cons_append]
  apply wpSIn_seq
  apply wpSIn_region
  simp [wpOpsSIn, go_sem, recoverD, hu, Exit.thenS]
  refine wpSIn_of_wpIn rfl (wpIn_wide.2 ?_)
  generalize hQ : (fun e a' w' => bodyPostS _ _ _ _ _ e a' _ w') = Q
  have HQ := Lib.hid hQ
  clear hQ
  go_wp2
  rw [← HQ.out]
  cases c₀
  simp_all [bodyPostS, results, Tryz.results98]
set_option maxRecDepth 100000 in
set_option maxHeartbeats 1000000 in
theorem caughtUpTW : CaughtUp Tryz.prog 98 46 46 := by
  intro nn pe K lb n older w R hnn hE hK hR
  have hn : ∀ (w : World) (n : Int), (binOp .neq 20 (.iface 46 (.int .i64 n)) .nilIface).run Tryz.prog w = .ok (.bool true) w := fun _ _ => by kernel_rfl
  have ht : ∀ (w : World) (n : Int), (Instr.typeAssert (.iface 46 (.int .i64 n)) 20 46 true).run Tryz.prog w = .ok (.tuple #[.int .i64 n, .bool true]) w := fun _ _ => by kernel_rfl
  have eK : ∀ args w, (callFunc K args).run Tryz.prog w = .ok (.enter K args) w := hE
  refine callsDIn_of_wpSIn Tryz.func98 rfl trivial fun c₀ cs hu => ?_
  simp only [Tryz.ntmps98, List.size_toArray, List.length_cons, List.length_nil, Nat.reduceAdd, Nat.reduceSub, Array.replicate_succ, Array.replicate_zero, List.push_toArray, List.append_toArray, List.nil_append, List.cons_append]
  apply wpSIn_seq
  apply wpSIn_region
  simp [wpOpsSIn, go_sem, recoverD, hu, Exit.thenS]
  refine wpSIn_of_wpIn rfl (wpIn_wide.2 ?_)
  generalize hQ : (fun e a' w' => bodyPostS _ _ _ _ _ e a' _ w') = Q
  have HQ := Lib.hid hQ
  clear hQ
  go_wp2_with fail
  refine hK.mono ?_
  rintro e w1 ⟨rfl, hr⟩
  obtain ⟨v, hv⟩ := hR w1 hr
  have c1 := cells1 hv
  go_wp2
  rw [← HQ.out]
  cases c₀
  simp_all [bodyPostS, results, Tryz.results98]
  exact ⟨w1, hr, rfl⟩
def cauW (g : Nat) : Bool := match Nat.beq g 18 with
  | true => true
  | false => match Nat.beq g 72 with
    | true => true
    | false => Nat.beq g 98
theorem cauW_ok (g : Nat) (h : cauW g = true) : CaughtIdle Tryz.prog g ∧ CaughtUp Tryz.prog g 46 46 := by
  unfold cauW at h
  split at h
  · rename_i e; rw [Nat.eq_of_beq_eq_true e]; exact ⟨caughtIdleLW, caughtUpLW⟩
  · split at h
    · rename_i e; rw [Nat.eq_of_beq_eq_true e]; exact ⟨caughtIdleSW, caughtUpSW⟩
    · rw [Nat.eq_of_beq_eq_true h]; exact ⟨caughtIdleTW, caughtUpTW⟩
theorem works_run : (Ck.ev Tryz.prog false cauW 46 Ck.kn0 1000000 (.fn 5 []) Ck.noF ⟨.lf, 0⟩ fun e _ _ => match e with
      | .val (.bool b) => b
      | _ => false) = true := by kernel_rfl
theorem worksC : Cm Tryz.prog 5 [] [] [] (rets (.bool true)) :=
  Ck.cm_of_ev (Ck.ev_sound (by kernel_rfl) Ck.kn0S cauW_ok _) works_run
end Go.Proofs.YtmhnlkakbadkgaaGreat
