/- Reports, by the symbolic run: what is caught. -/
import Derived.Test.YtnkpmeplapkobaaEngT
import Derived.Test.YtnkpmeplapkobaaEng2
import Derived.Test.YtnkpmeplapkobaaRepN
import Derived.Test.YtnkpmeplapkobaaTst2
namespace Go.Proofs.Ytnkpmeplapkobaa
open Go.RowKit Go.Shelf

theorem caughtIdleR : CaughtIdle Try.prog 28 := by
  intro n pe K lb w
  have hn : ∀ w : World, (binOp .neq 20 .nilIface .nilIface).run Try.prog w = .ok (.bool false) w := fun _ => by kernel_rfl
  refine callsDIn_of_wpSIn Try.func28 rfl trivial fun c₀ cs hu => ?_
  simp only [Try.ntmps28, List.size_toArray, List.length_cons, List.length_nil, Nat.reduceAdd, Nat.reduceSub, Array.replicate_succ, Array.replicate_zero, List.push_toArray, List.append_toArray, List.nil_append, List.cons_append]
  apply wpSIn_seq
  apply wpSIn_region
  simp [wpOpsSIn, go_sem, recoverD, hu, Exit.thenS]
  refine wpSIn_of_wpIn rfl (wpIn_wide.2 ?_)
  generalize hQ : (fun e a' w' => bodyPostS _ _ _ _ _ e a' _ w') = Q
  have HQ := Lib.hid hQ
  clear hQ
  go_wp2
  rw [← HQ.out]
  cases c₀
  simp_all [bodyPostS, results, Try.results28]
set_option maxRecDepth 100000 in
set_option maxHeartbeats 1000000 in
theorem caughtUpR : CaughtUp Try.prog 28 45 45 := by
  intro nn pe K lb n older w R hnn hE hK hR
  have hn : ∀ (w : World) (n : Int), (binOp .neq 20 (.iface 45 (.int .i64 n)) .nilIface).run Try.prog w = .ok (.bool true) w := fun _ _ => by kernel_rfl
  have ht : ∀ (w : World) (n : Int), (Instr.typeAssert (.iface 45 (.int .i64 n)) 20 45 true).run Try.prog w = .ok (.tuple #[.int .i64 n, .bool true]) w := fun _ _ => by kernel_rfl
  have eK : ∀ args w, (callFunc K args).run Try.prog w = .ok (.enter K args) w := hE
  refine callsDIn_of_wpSIn Try.func28 rfl trivial fun c₀ cs hu => ?_
  simp only [Try.ntmps28, List.size_toArray, List.length_cons, List.length_nil, Nat.reduceAdd, Nat.reduceSub, Array.replicate_succ, Array.replicate_zero, List.push_toArray, List.append_toArray, List.nil_append, List.cons_append]
  apply wpSIn_seq
  apply wpSIn_region
  simp [wpOpsSIn, go_sem, recoverD, hu, Exit.thenS]
  refine wpSIn_of_wpIn rfl (wpIn_wide.2 ?_)
  generalize hQ : (fun e a' w' => bodyPostS _ _ _ _ _ e a' _ w') = Q
  have HQ := Lib.hid hQ
  clear hQ
  go_wp2_with fail
  refine hK.mono ?_
  rintro e w1 ⟨rfl, hr⟩
  obtain ⟨v, hv⟩ := hR w1 hr
  have c1 := cells1 hv
  go_wp2
  rw [← HQ.out]
  cases c₀
  simp_all [bodyPostS, results, Try.results28]
  exact ⟨w1, hr, rfl⟩

end Go.Proofs.Ytnkpmeplapkobaa
