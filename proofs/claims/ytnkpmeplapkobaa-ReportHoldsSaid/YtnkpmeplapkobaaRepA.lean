/- Reports: leaf functions; what gives up and what is caught. -/
import Derived.Test.YtnkpmeplapkobaaSiteA
import Derived.Laws.EntriesVeiled
import Derived.Recover
import Derived.Defers
namespace Go.Proofs.Ytnkpmeplapkobaa
open Go.RowKit Go.Shelf

/-- A report of a lock: whether it has the token, the hop. -/
def encR (x : Bool × Int) : List Value := [.bool x.1, .int .i64 x.2]
theorem encR_len (x : Bool × Int) : (encR x).length = 2 := rfl
theorem Sl.atR {w : World} {v : Value} {xs : List (Bool × Int)} (h : Sl encR 2 w v xs) {k : Nat} (hk : k < xs.length) :
    ∃ b off cap, v = .slice (some ⟨b, off, none⟩) xs.length cap ∧ b < w.heap.size ∧ ∀ i x, xs[i]? = some x → w.cell? ⟨b, off + i * 2, none⟩ = some (.bool x.1) ∧ w.cell? ⟨b, off + i * 2 + 1, none⟩ = some (.int .i64 x.2) := by
  obtain ⟨a, cap, rfl, _, h⟩ := h
  rcases h with h | ⟨b, off, rfl, hlt, hc⟩
  · subst h; simp at hk
  · exact ⟨b, off, cap, rfl, hlt, fun i x hi => ⟨by simpa using hc i x hi 0 _ rfl, hc i x hi 1 _ rfl⟩⟩

set_option maxHeartbeats 400000 in
theorem num_any (n : Int) (w : World) :
    Calls Try.prog 13 #[.int .i64 n] w fun e w' => e = .returned (.int .i64 n) ∧ w = w' := by
  go_enter Try.func13, Try.ntmps13
  go_wp2
  go_ret
  exact ⟨rfl, rfl⟩

/-- What is given up with: an Errno. -/
def upV (e : Int) : Value := .iface 45 (.int .i64 e)
set_option maxHeartbeats 400000 in
theorem must_yes (e : Int) (w : World) : Calls Try.prog 35 #[.bool true, .int .i64 e] w fun r w' => r = .returned (.tuple #[]) ∧ w = w' := by
  go_enter Try.func35, Try.ntmps35
  go_wp2
  go_end0
  exact ⟨rfl, rfl⟩
set_option maxHeartbeats 400000 in
theorem must_no (e : Int) (w : World) : Calls Try.prog 35 #[.bool false, .int .i64 e] w fun r w' => r = .panicked [{ v := upV e, recovered := false }] ∧ w = w' := by
  go_enter Try.func35, Try.ntmps35
  go_wp2
  show _ ∧ _
  exact ⟨rfl, rfl, rfl⟩

/-- What was given up with is caught by nobody's having given up. -/
theorem caught_idle (pe : Addr) (K : Nat) (lb : Array Value) (w : World) :
    CallsD Try.prog 28 #[.pointer (some pe), .func (.func K) #[] lb] .returning w fun e u' w' => e = .returned (.tuple #[]) ∧ u' = .returning ∧ w' = w := by
  have hn : ∀ w : World, (binOp .neq 20 .nilIface .nilIface).run Try.prog w = .ok (.bool false) w := fun _ => by kernel_rfl
  refine callsD_of_wpS Try.func28 rfl fun c₀ cs hu => ?_
  simp only [Try.ntmps28, List.size_toArray, List.length_cons, List.length_nil, Nat.reduceAdd, Nat.reduceSub, Array.replicate_succ, Array.replicate_zero, List.push_toArray, List.append_toArray, List.nil_append, List.cons_append]
  apply wpS_seq
  apply wpS_region
  simp [wpOpsS, go_sem, recoverD, hu, Exit.thenS]
  refine wpS_of_wp ?_
  generalize hQ : (fun e a' w' => bodyPostS _ _ _ _ _ e a' _ w') = Q
  have HQ := Lib.hid hQ
  clear hQ
  go_wp2
  rw [← HQ.out]
  cases c₀
  simp_all [bodyPostS, results, Try.results28]

set_option maxRecDepth 100000 in
set_option maxHeartbeats 1000000 in
/-- An Errno that was given up with is caught: the clearing is called, and the error is laid. -/
theorem caught_up (pe : Nat) (K : Nat) (lb : Array Value) (n : Int) (older : List PanicEntry) (w : World) (R : World → Prop) (hE : Enters Try.prog K)
    (hK : Calls Try.prog K lb w fun e w' => e = .returned (.tuple #[]) ∧ R w') (hR : ∀ w', R w' → ∃ v, w'.heap[pe]? = some (.cells #[v] 45 (0, 0))) :
    CallsD Try.prog 28 #[.pointer (some ⟨pe, 0, none⟩), .func (.func K) #[] lb] (.panicking ({ v := upV n, recovered := false } :: older)) w fun e u' w' =>
      e = .returned (.tuple #[]) ∧ u' = .panicking ({ v := upV n, recovered := true } :: older) ∧ ∃ w1, R w1 ∧ w' = w1.setCell ⟨pe, 0, none⟩ (.int .i64 n) := by
  have hn : ∀ (w : World) (n : Int), (binOp .neq 20 (.iface 45 (.int .i64 n)) .nilIface).run Try.prog w = .ok (.bool true) w := fun _ _ => by kernel_rfl
  have ht : ∀ (w : World) (n : Int), (Instr.typeAssert (.iface 45 (.int .i64 n)) 20 45 true).run Try.prog w = .ok (.tuple #[.int .i64 n, .bool true]) w := fun _ _ => by kernel_rfl
  have eK : ∀ args w, (callFunc K args).run Try.prog w = .ok (.enter K args) w := hE
  refine callsD_of_wpS Try.func28 rfl fun c₀ cs hu => ?_
  simp only [Try.ntmps28, List.size_toArray, List.length_cons, List.length_nil, Nat.reduceAdd, Nat.reduceSub, Array.replicate_succ, Array.replicate_zero, List.push_toArray, List.append_toArray, List.nil_append, List.cons_append]
  unfold upV at hu ⊢
  apply wpS_seq
  apply wpS_region
  simp [wpOpsS, go_sem, recoverD, hu, Exit.thenS]
  refine wpS_of_wp ?_
  generalize hQ : (fun e a' w' => bodyPostS _ _ _ _ _ e a' _ w') = Q
  have HQ := Lib.hid hQ
  clear hQ
  go_wp2_with fail
  refine hK.mono ?_
  rintro e w1 ⟨rfl, hr⟩
  obtain ⟨v, hv⟩ := hR w1 hr
  have c1 := cells1 hv
  go_wp2
  rw [← HQ.out]
  cases c₀
  simp_all [bodyPostS, results, Try.results28]
  exact ⟨w1, hr, rfl⟩

end Go.Proofs.Ytnkpmeplapkobaa
