/- Asks and acts, by the symbolic run: what a part of each is, and how it is put. -/
import Derived.Test.YthnkjgffahkecaaGreatEngT
import Derived.Test.YthnkjgffahkecaaGreatEngY
namespace Go.Proofs.YthnkjgffahkecaaGreat
open Go.RowKit Go.Shelf

structure Ask where
  kind : Int
  lock : Int
  mode : Int
  prio : Int
  ticks : Int
  slot : Int
  use : Int
  chg : Int
structure Ac where
  kind : Int
  node : Int
  at_ : Int
  num : Int
  ask : Ask
  k0 : Int
  k1 : Int
def askL (q : Ask) : List Value := [.int .i64 q.kind, .int .i64 q.lock, .int .i64 q.mode, .int .i64 q.prio, .int .i64 q.ticks, .int .i64 q.slot, .int .i64 q.use, .int .i64 q.chg]
def actL (a : Ac) : List Value := [.int .i64 a.kind, .int .i64 a.node, .int .i64 a.at_, .int .i64 a.num, .int .i64 a.ask.kind, .int .i64 a.ask.lock, .int .i64 a.ask.mode, .int .i64 a.ask.prio, .int .i64 a.ask.ticks, .int .i64 a.ask.slot, .int .i64 a.ask.use, .int .i64 a.ask.chg, .int .i64 a.k0, .int .i64 a.k1]
def shL (n l s : Int) : List Value := [.int .i64 n, .int .i64 l, .int .i64 s]
def putC (mu1 : List Value) : OutT := fun e cs F1 => e = .returned (.tuple #[]) ∧ cs = [mu1] ∧ F1 = []

theorem call_lock1 (q : Ask) (n l s : Int) (hs : 1 ≤ l ∧ l ≤ 8 ∧ 1 ≤ s ∧ s ≤ 4) : Cm Tryz.prog 111 [.agg (askL q ++ shL n l s).toArray] [] [] (rets (.agg #[.int .i64 q.lock, .int .i64 0, .int .i64 (l - 1)])) := by
  refine cm_of (tab := tb) (ok := tbOk) [.g [.v (.int .i64 q.kind), .v (.int .i64 q.lock), .v (.int .i64 q.mode), .v (.int .i64 q.prio), .v (.int .i64 q.ticks), .v (.int .i64 q.slot), .v (.int .i64 q.use), .v (.int .i64 q.chg), .v (.int .i64 n), .v (.int .i64 l), .v (.int .i64 s)]] Tryz.func111 Tryz.ntmps111 rfl rfl (fun _ _ => rfl) ?_
  intro w0 A0
  refine ojs_arith (z := l - 1) (by rw [wrap_in] <;> omega) rfl rfl rfl rfl ?_
  exact endR_ok [] rfl rfl ⟨rfl, rfl⟩ rfl (fun _ => ⟨rfl, rfl⟩) (by simp)
theorem call_lock2 (q : Ask) (z : Int) (b : Nat) : Cm Tryz.prog 112 [.pointer (some ⟨b, 0, none⟩), .int .i64 z] [(b, askL q, 36)] [] (putC (askL { q with lock := z })) := by
  refine cm_of (tab := tb) (ok := tbOk) [.o (.p 0 0), .o (.v (.int .i64 z))] Tryz.func112 Tryz.ntmps112 rfl rfl (fun ρ h => by simp [TV.den, SV.den, h 0 b rfl]) ?_
  intro w0 A0
  exact endR_ok [] rfl rfl ⟨rfl, rfl⟩ rfl (fun _ => ⟨rfl, rfl, rfl⟩) (by simp)
theorem call_lock : Cm Tryz.prog 100 [] [] [] (rets (.agg #[.func (.func 111) #[] #[], .func (.func 112) #[] #[], .bool false])) := by
  refine cm_of (tab := tb) (ok := tbOk) [] Tryz.func100 Tryz.ntmps100 rfl rfl (fun _ _ => rfl) ?_
  intro w0 A0
  exact endR_ok [] rfl rfl ⟨rfl, rfl⟩ rfl (fun _ => ⟨rfl, rfl⟩) (by simp)
theorem call_want1 (q : Ask) (n l s : Int) (_hs : 1 ≤ l ∧ l ≤ 8 ∧ 1 ≤ s ∧ s ≤ 4) : Cm Tryz.prog 117 [.agg (askL q ++ shL n l s).toArray] [] [] (rets (.agg #[.int .i64 q.mode, .int .i64 1, .int .i64 5])) := by
  refine cm_of (tab := tb) (ok := tbOk) [.g [.v (.int .i64 q.kind), .v (.int .i64 q.lock), .v (.int .i64 q.mode), .v (.int .i64 q.prio), .v (.int .i64 q.ticks), .v (.int .i64 q.slot), .v (.int .i64 q.use), .v (.int .i64 q.chg), .v (.int .i64 n), .v (.int .i64 l), .v (.int .i64 s)]] Tryz.func117 Tryz.ntmps117 rfl rfl (fun _ _ => rfl) ?_
  intro w0 A0
  exact endR_ok [] rfl rfl ⟨rfl, rfl⟩ rfl (fun _ => ⟨rfl, rfl⟩) (by simp)
theorem call_want2 (q : Ask) (z : Int) (b : Nat) : Cm Tryz.prog 118 [.pointer (some ⟨b, 0, none⟩), .int .i64 z] [(b, askL q, 36)] [] (putC (askL { q with mode := z })) := by
  refine cm_of (tab := tb) (ok := tbOk) [.o (.p 0 0), .o (.v (.int .i64 z))] Tryz.func118 Tryz.ntmps118 rfl rfl (fun ρ h => by simp [TV.den, SV.den, h 0 b rfl]) ?_
  intro w0 A0
  exact endR_ok [] rfl rfl ⟨rfl, rfl⟩ rfl (fun _ => ⟨rfl, rfl, rfl⟩) (by simp)
theorem call_want : Cm Tryz.prog 103 [] [] [] (rets (.agg #[.func (.func 117) #[] #[], .func (.func 118) #[] #[], .bool false])) := by
  refine cm_of (tab := tb) (ok := tbOk) [] Tryz.func103 Tryz.ntmps103 rfl rfl (fun _ _ => rfl) ?_
  intro w0 A0
  exact endR_ok [] rfl rfl ⟨rfl, rfl⟩ rfl (fun _ => ⟨rfl, rfl⟩) (by simp)
theorem call_prio1 (q : Ask) (n l s : Int) (_hs : 1 ≤ l ∧ l ≤ 8 ∧ 1 ≤ s ∧ s ≤ 4) : Cm Tryz.prog 119 [.agg (askL q ++ shL n l s).toArray] [] [] (rets (.agg #[.int .i64 q.prio, .int .i64 0, .int .i64 3])) := by
  refine cm_of (tab := tb) (ok := tbOk) [.g [.v (.int .i64 q.kind), .v (.int .i64 q.lock), .v (.int .i64 q.mode), .v (.int .i64 q.prio), .v (.int .i64 q.ticks), .v (.int .i64 q.slot), .v (.int .i64 q.use), .v (.int .i64 q.chg), .v (.int .i64 n), .v (.int .i64 l), .v (.int .i64 s)]] Tryz.func119 Tryz.ntmps119 rfl rfl (fun _ _ => rfl) ?_
  intro w0 A0
  exact endR_ok [] rfl rfl ⟨rfl, rfl⟩ rfl (fun _ => ⟨rfl, rfl⟩) (by simp)
theorem call_prio2 (q : Ask) (z : Int) (b : Nat) : Cm Tryz.prog 120 [.pointer (some ⟨b, 0, none⟩), .int .i64 z] [(b, askL q, 36)] [] (putC (askL { q with prio := z })) := by
  refine cm_of (tab := tb) (ok := tbOk) [.o (.p 0 0), .o (.v (.int .i64 z))] Tryz.func120 Tryz.ntmps120 rfl rfl (fun ρ h => by simp [TV.den, SV.den, h 0 b rfl]) ?_
  intro w0 A0
  exact endR_ok [] rfl rfl ⟨rfl, rfl⟩ rfl (fun _ => ⟨rfl, rfl, rfl⟩) (by simp)
theorem call_prio : Cm Tryz.prog 104 [] [] [] (rets (.agg #[.func (.func 119) #[] #[], .func (.func 120) #[] #[], .bool false])) := by
  refine cm_of (tab := tb) (ok := tbOk) [] Tryz.func104 Tryz.ntmps104 rfl rfl (fun _ _ => rfl) ?_
  intro w0 A0
  exact endR_ok [] rfl rfl ⟨rfl, rfl⟩ rfl (fun _ => ⟨rfl, rfl⟩) (by simp)
theorem call_ticks1 (q : Ask) (n l s : Int) (_hs : 1 ≤ l ∧ l ≤ 8 ∧ 1 ≤ s ∧ s ≤ 4) : Cm Tryz.prog 121 [.agg (askL q ++ shL n l s).toArray] [] [] (rets (.agg #[.int .i64 q.ticks, .int .i64 0, .int .i64 1099511627776])) := by
  refine cm_of (tab := tb) (ok := tbOk) [.g [.v (.int .i64 q.kind), .v (.int .i64 q.lock), .v (.int .i64 q.mode), .v (.int .i64 q.prio), .v (.int .i64 q.ticks), .v (.int .i64 q.slot), .v (.int .i64 q.use), .v (.int .i64 q.chg), .v (.int .i64 n), .v (.int .i64 l), .v (.int .i64 s)]] Tryz.func121 Tryz.ntmps121 rfl rfl (fun _ _ => rfl) ?_
  intro w0 A0
  exact endR_ok [] rfl rfl ⟨rfl, rfl⟩ rfl (fun _ => ⟨rfl, rfl⟩) (by simp)
theorem call_ticks2 (q : Ask) (z : Int) (b : Nat) : Cm Tryz.prog 122 [.pointer (some ⟨b, 0, none⟩), .int .i64 z] [(b, askL q, 36)] [] (putC (askL { q with ticks := z })) := by
  refine cm_of (tab := tb) (ok := tbOk) [.o (.p 0 0), .o (.v (.int .i64 z))] Tryz.func122 Tryz.ntmps122 rfl rfl (fun ρ h => by simp [TV.den, SV.den, h 0 b rfl]) ?_
  intro w0 A0
  exact endR_ok [] rfl rfl ⟨rfl, rfl⟩ rfl (fun _ => ⟨rfl, rfl, rfl⟩) (by simp)
theorem call_ticks : Cm Tryz.prog 105 [] [] [] (rets (.agg #[.func (.func 121) #[] #[], .func (.func 122) #[] #[], .bool false])) := by
  refine cm_of (tab := tb) (ok := tbOk) [] Tryz.func105 Tryz.ntmps105 rfl rfl (fun _ _ => rfl) ?_
  intro w0 A0
  exact endR_ok [] rfl rfl ⟨rfl, rfl⟩ rfl (fun _ => ⟨rfl, rfl⟩) (by simp)
theorem call_slot1 (q : Ask) (n l s : Int) (hs : 1 ≤ l ∧ l ≤ 8 ∧ 1 ≤ s ∧ s ≤ 4) : Cm Tryz.prog 113 [.agg (askL q ++ shL n l s).toArray] [] [] (rets (.agg #[.int .i64 q.slot, .int .i64 0, .int .i64 (s - 1)])) := by
  refine cm_of (tab := tb) (ok := tbOk) [.g [.v (.int .i64 q.kind), .v (.int .i64 q.lock), .v (.int .i64 q.mode), .v (.int .i64 q.prio), .v (.int .i64 q.ticks), .v (.int .i64 q.slot), .v (.int .i64 q.use), .v (.int .i64 q.chg), .v (.int .i64 n), .v (.int .i64 l), .v (.int .i64 s)]] Tryz.func113 Tryz.ntmps113 rfl rfl (fun _ _ => rfl) ?_
  intro w0 A0
  refine ojs_arith (z := s - 1) (by rw [wrap_in] <;> omega) rfl rfl rfl rfl ?_
  exact endR_ok [] rfl rfl ⟨rfl, rfl⟩ rfl (fun _ => ⟨rfl, rfl⟩) (by simp)
theorem call_slot2 (q : Ask) (z : Int) (b : Nat) : Cm Tryz.prog 114 [.pointer (some ⟨b, 0, none⟩), .int .i64 z] [(b, askL q, 36)] [] (putC (askL { q with slot := z })) := by
  refine cm_of (tab := tb) (ok := tbOk) [.o (.p 0 0), .o (.v (.int .i64 z))] Tryz.func114 Tryz.ntmps114 rfl rfl (fun ρ h => by simp [TV.den, SV.den, h 0 b rfl]) ?_
  intro w0 A0
  exact endR_ok [] rfl rfl ⟨rfl, rfl⟩ rfl (fun _ => ⟨rfl, rfl, rfl⟩) (by simp)
theorem call_slot : Cm Tryz.prog 101 [] [] [] (rets (.agg #[.func (.func 113) #[] #[], .func (.func 114) #[] #[], .bool false])) := by
  refine cm_of (tab := tb) (ok := tbOk) [] Tryz.func101 Tryz.ntmps101 rfl rfl (fun _ _ => rfl) ?_
  intro w0 A0
  exact endR_ok [] rfl rfl ⟨rfl, rfl⟩ rfl (fun _ => ⟨rfl, rfl⟩) (by simp)
theorem call_use1 (q : Ask) (n l s : Int) (_hs : 1 ≤ l ∧ l ≤ 8 ∧ 1 ≤ s ∧ s ≤ 4) : Cm Tryz.prog 115 [.agg (askL q ++ shL n l s).toArray] [] [] (rets (.agg #[.int .i64 q.use, .int .i64 1, .int .i64 1099511627776])) := by
  refine cm_of (tab := tb) (ok := tbOk) [.g [.v (.int .i64 q.kind), .v (.int .i64 q.lock), .v (.int .i64 q.mode), .v (.int .i64 q.prio), .v (.int .i64 q.ticks), .v (.int .i64 q.slot), .v (.int .i64 q.use), .v (.int .i64 q.chg), .v (.int .i64 n), .v (.int .i64 l), .v (.int .i64 s)]] Tryz.func115 Tryz.ntmps115 rfl rfl (fun _ _ => rfl) ?_
  intro w0 A0
  exact endR_ok [] rfl rfl ⟨rfl, rfl⟩ rfl (fun _ => ⟨rfl, rfl⟩) (by simp)
theorem call_use2 (q : Ask) (z : Int) (b : Nat) : Cm Tryz.prog 116 [.pointer (some ⟨b, 0, none⟩), .int .i64 z] [(b, askL q, 36)] [] (putC (askL { q with use := z })) := by
  refine cm_of (tab := tb) (ok := tbOk) [.o (.p 0 0), .o (.v (.int .i64 z))] Tryz.func116 Tryz.ntmps116 rfl rfl (fun ρ h => by simp [TV.den, SV.den, h 0 b rfl]) ?_
  intro w0 A0
  exact endR_ok [] rfl rfl ⟨rfl, rfl⟩ rfl (fun _ => ⟨rfl, rfl, rfl⟩) (by simp)
theorem call_use : Cm Tryz.prog 102 [] [] [] (rets (.agg #[.func (.func 115) #[] #[], .func (.func 116) #[] #[], .bool false])) := by
  refine cm_of (tab := tb) (ok := tbOk) [] Tryz.func102 Tryz.ntmps102 rfl rfl (fun _ _ => rfl) ?_
  intro w0 A0
  exact endR_ok [] rfl rfl ⟨rfl, rfl⟩ rfl (fun _ => ⟨rfl, rfl⟩) (by simp)
theorem call_by1 (q : Ask) (n l s : Int) (_hs : 1 ≤ l ∧ l ≤ 8 ∧ 1 ≤ s ∧ s ≤ 4) : Cm Tryz.prog 123 [.agg (askL q ++ shL n l s).toArray] [] [] (rets (.agg #[.int .i64 q.chg, .int .i64 (-9223372036854775808), .int .i64 9223372036854775807])) := by
  refine cm_of (tab := tb) (ok := tbOk) [.g [.v (.int .i64 q.kind), .v (.int .i64 q.lock), .v (.int .i64 q.mode), .v (.int .i64 q.prio), .v (.int .i64 q.ticks), .v (.int .i64 q.slot), .v (.int .i64 q.use), .v (.int .i64 q.chg), .v (.int .i64 n), .v (.int .i64 l), .v (.int .i64 s)]] Tryz.func123 Tryz.ntmps123 rfl rfl (fun _ _ => rfl) ?_
  intro w0 A0
  exact endR_ok [] rfl rfl ⟨rfl, rfl⟩ rfl (fun _ => ⟨rfl, rfl⟩) (by simp)
theorem call_by2 (q : Ask) (z : Int) (b : Nat) : Cm Tryz.prog 124 [.pointer (some ⟨b, 0, none⟩), .int .i64 z] [(b, askL q, 36)] [] (putC (askL { q with chg := z })) := by
  refine cm_of (tab := tb) (ok := tbOk) [.o (.p 0 0), .o (.v (.int .i64 z))] Tryz.func124 Tryz.ntmps124 rfl rfl (fun ρ h => by simp [TV.den, SV.den, h 0 b rfl]) ?_
  intro w0 A0
  exact endR_ok [] rfl rfl ⟨rfl, rfl⟩ rfl (fun _ => ⟨rfl, rfl, rfl⟩) (by simp)
theorem call_by : Cm Tryz.prog 106 [] [] [] (rets (.agg #[.func (.func 123) #[] #[], .func (.func 124) #[] #[], .bool true])) := by
  refine cm_of (tab := tb) (ok := tbOk) [] Tryz.func106 Tryz.ntmps106 rfl rfl (fun _ _ => rfl) ?_
  intro w0 A0
  exact endR_ok [] rfl rfl ⟨rfl, rfl⟩ rfl (fun _ => ⟨rfl, rfl⟩) (by simp)
theorem bounds_c (n l s : Int) : Cm Tryz.prog 58 [.agg (shL n l s).toArray] [] [] (rets (.agg #[.int .i64 n, .int .i64 l, .int .i64 s])) := by
  refine cm_of (tab := tb) (ok := tbOk) [.g [.v (.int .i64 n), .v (.int .i64 l), .v (.int .i64 s)]] Tryz.func58 Tryz.ntmps58 rfl rfl (fun _ _ => rfl) ?_
  intro w0 A0
  refine ojs_yd (yd_buildA rfl rfl rfl rfl rfl) rfl ?_
  exact endR_ok [] rfl rfl ⟨rfl, rfl⟩ rfl (fun _ => ⟨rfl, rfl⟩) (by simp)
theorem scr_nodes1 (a : Ac) : Cm Tryz.prog 59 [.agg (actL a).toArray] [] [] (rets (.int .i64 a.node)) := by
  refine cm_of (tab := tb) (ok := tbOk) [.g [.v (.int .i64 a.kind), .v (.int .i64 a.node), .v (.int .i64 a.at_), .v (.int .i64 a.num), .v (.int .i64 a.ask.kind), .v (.int .i64 a.ask.lock), .v (.int .i64 a.ask.mode), .v (.int .i64 a.ask.prio), .v (.int .i64 a.ask.ticks), .v (.int .i64 a.ask.slot), .v (.int .i64 a.ask.use), .v (.int .i64 a.ask.chg), .v (.int .i64 a.k0), .v (.int .i64 a.k1)]] Tryz.func59 Tryz.ntmps59 rfl rfl (fun _ _ => rfl) ?_
  intro w0 A0
  exact endR_ok [] rfl rfl ⟨rfl, rfl⟩ rfl (fun _ => ⟨rfl, rfl⟩) (by simp)
theorem scr_nodes2 (a : Ac) (z : Int) (b : Nat) : Cm Tryz.prog 60 [.pointer (some ⟨b, 0, none⟩), .int .i64 z] [(b, actL a, 39)] [] (putC (actL { a with node := z })) := by
  refine cm_of (tab := tb) (ok := tbOk) [.o (.p 0 0), .o (.v (.int .i64 z))] Tryz.func60 Tryz.ntmps60 rfl rfl (fun ρ h => by simp [TV.den, SV.den, h 0 b rfl]) ?_
  intro w0 A0
  exact endR_ok [] rfl rfl ⟨rfl, rfl⟩ rfl (fun _ => ⟨rfl, rfl, rfl⟩) (by simp)
theorem scr_nodes (n l s : Int) (hs : 1 ≤ n ∧ n ≤ 64 ∧ 1 ≤ l ∧ l ≤ 8 ∧ 1 ≤ s ∧ s ≤ 4) : Cm Tryz.prog 40 [.agg (shL n l s).toArray] [] [] (rets (.agg #[.int .i64 0, .int .i64 (n - 1), .func (.func 59) #[] #[], .func (.func 60) #[] #[]])) := by
  refine cm_of (tab := tb) (ok := tbOk) [.g [.v (.int .i64 n), .v (.int .i64 l), .v (.int .i64 s)]] Tryz.func40 Tryz.ntmps40 rfl rfl (fun _ _ => rfl) ?_
  intro w0 A0
  refine ojs_call [] [] rfl rfl rfl rfl rfl rfl rfl (by simp) (fun _ => bounds_c n l s) (by simp) (.inl rfl) ?_
  rintro e cs F1 _ ⟨rfl, rfl⟩
  refine ojs_yd (yd_arrIdxV (i := 0) rfl (by decide) rfl rfl rfl rfl rfl rfl) rfl ?_
  refine ojs_arith (z := n - 1) (by rw [wrap_in] <;> omega) rfl rfl rfl rfl ?_
  exact endR_ok [] rfl rfl ⟨rfl, rfl⟩ rfl (fun _ => ⟨rfl, rfl⟩) (by simp)
theorem scr_locks1 (a : Ac) : Cm Tryz.prog 82 [.agg (actL a).toArray] [] [] (rets (.int .i64 a.ask.lock)) := by
  refine cm_of (tab := tb) (ok := tbOk) [.g [.v (.int .i64 a.kind), .v (.int .i64 a.node), .v (.int .i64 a.at_), .v (.int .i64 a.num), .v (.int .i64 a.ask.kind), .v (.int .i64 a.ask.lock), .v (.int .i64 a.ask.mode), .v (.int .i64 a.ask.prio), .v (.int .i64 a.ask.ticks), .v (.int .i64 a.ask.slot), .v (.int .i64 a.ask.use), .v (.int .i64 a.ask.chg), .v (.int .i64 a.k0), .v (.int .i64 a.k1)]] Tryz.func82 Tryz.ntmps82 rfl rfl (fun _ _ => rfl) ?_
  intro w0 A0
  exact endR_ok [] rfl rfl ⟨rfl, rfl⟩ rfl (fun _ => ⟨rfl, rfl⟩) (by simp)
theorem scr_locks2 (a : Ac) (z : Int) (b : Nat) : Cm Tryz.prog 83 [.pointer (some ⟨b, 0, none⟩), .int .i64 z] [(b, actL a, 39)] [] (putC (actL { a with ask := { a.ask with lock := z } })) := by
  refine cm_of (tab := tb) (ok := tbOk) [.o (.p 0 0), .o (.v (.int .i64 z))] Tryz.func83 Tryz.ntmps83 rfl rfl (fun ρ h => by simp [TV.den, SV.den, h 0 b rfl]) ?_
  intro w0 A0
  exact endR_ok [] rfl rfl ⟨rfl, rfl⟩ rfl (fun _ => ⟨rfl, rfl, rfl⟩) (by simp)
theorem scr_locks (n l s : Int) (hs : 1 ≤ n ∧ n ≤ 64 ∧ 1 ≤ l ∧ l ≤ 8 ∧ 1 ≤ s ∧ s ≤ 4) : Cm Tryz.prog 61 [.agg (shL n l s).toArray] [] [] (rets (.agg #[.int .i64 0, .int .i64 (l - 1), .func (.func 82) #[] #[], .func (.func 83) #[] #[]])) := by
  refine cm_of (tab := tb) (ok := tbOk) [.g [.v (.int .i64 n), .v (.int .i64 l), .v (.int .i64 s)]] Tryz.func61 Tryz.ntmps61 rfl rfl (fun _ _ => rfl) ?_
  intro w0 A0
  refine ojs_call [] [] rfl rfl rfl rfl rfl rfl rfl (by simp) (fun _ => bounds_c n l s) (by simp) (.inl rfl) ?_
  rintro e cs F1 _ ⟨rfl, rfl⟩
  refine ojs_yd (yd_arrIdxV (i := 1) rfl (by decide) rfl rfl rfl rfl rfl rfl) rfl ?_
  refine ojs_arith (z := l - 1) (by rw [wrap_in] <;> omega) rfl rfl rfl rfl ?_
  exact endR_ok [] rfl rfl ⟨rfl, rfl⟩ rfl (fun _ => ⟨rfl, rfl⟩) (by simp)
theorem scr_slots1 (a : Ac) : Cm Tryz.prog 84 [.agg (actL a).toArray] [] [] (rets (.int .i64 a.ask.slot)) := by
  refine cm_of (tab := tb) (ok := tbOk) [.g [.v (.int .i64 a.kind), .v (.int .i64 a.node), .v (.int .i64 a.at_), .v (.int .i64 a.num), .v (.int .i64 a.ask.kind), .v (.int .i64 a.ask.lock), .v (.int .i64 a.ask.mode), .v (.int .i64 a.ask.prio), .v (.int .i64 a.ask.ticks), .v (.int .i64 a.ask.slot), .v (.int .i64 a.ask.use), .v (.int .i64 a.ask.chg), .v (.int .i64 a.k0), .v (.int .i64 a.k1)]] Tryz.func84 Tryz.ntmps84 rfl rfl (fun _ _ => rfl) ?_
  intro w0 A0
  exact endR_ok [] rfl rfl ⟨rfl, rfl⟩ rfl (fun _ => ⟨rfl, rfl⟩) (by simp)
theorem scr_slots2 (a : Ac) (z : Int) (b : Nat) : Cm Tryz.prog 85 [.pointer (some ⟨b, 0, none⟩), .int .i64 z] [(b, actL a, 39)] [] (putC (actL { a with ask := { a.ask with slot := z } })) := by
  refine cm_of (tab := tb) (ok := tbOk) [.o (.p 0 0), .o (.v (.int .i64 z))] Tryz.func85 Tryz.ntmps85 rfl rfl (fun ρ h => by simp [TV.den, SV.den, h 0 b rfl]) ?_
  intro w0 A0
  exact endR_ok [] rfl rfl ⟨rfl, rfl⟩ rfl (fun _ => ⟨rfl, rfl, rfl⟩) (by simp)
theorem scr_slots (n l s : Int) (hs : 1 ≤ n ∧ n ≤ 64 ∧ 1 ≤ l ∧ l ≤ 8 ∧ 1 ≤ s ∧ s ≤ 4) : Cm Tryz.prog 62 [.agg (shL n l s).toArray] [] [] (rets (.agg #[.int .i64 0, .int .i64 (s - 1), .func (.func 84) #[] #[], .func (.func 85) #[] #[]])) := by
  refine cm_of (tab := tb) (ok := tbOk) [.g [.v (.int .i64 n), .v (.int .i64 l), .v (.int .i64 s)]] Tryz.func62 Tryz.ntmps62 rfl rfl (fun _ _ => rfl) ?_
  intro w0 A0
  refine ojs_call [] [] rfl rfl rfl rfl rfl rfl rfl (by simp) (fun _ => bounds_c n l s) (by simp) (.inl rfl) ?_
  rintro e cs F1 _ ⟨rfl, rfl⟩
  refine ojs_yd (yd_arrIdxV (i := 2) rfl (by decide) rfl rfl rfl rfl rfl rfl) rfl ?_
  refine ojs_arith (z := s - 1) (by rw [wrap_in] <;> omega) rfl rfl rfl rfl ?_
  exact endR_ok [] rfl rfl ⟨rfl, rfl⟩ rfl (fun _ => ⟨rfl, rfl⟩) (by simp)
theorem scr_modes1 (a : Ac) : Cm Tryz.prog 88 [.agg (actL a).toArray] [] [] (rets (.int .i64 a.ask.mode)) := by
  refine cm_of (tab := tb) (ok := tbOk) [.g [.v (.int .i64 a.kind), .v (.int .i64 a.node), .v (.int .i64 a.at_), .v (.int .i64 a.num), .v (.int .i64 a.ask.kind), .v (.int .i64 a.ask.lock), .v (.int .i64 a.ask.mode), .v (.int .i64 a.ask.prio), .v (.int .i64 a.ask.ticks), .v (.int .i64 a.ask.slot), .v (.int .i64 a.ask.use), .v (.int .i64 a.ask.chg), .v (.int .i64 a.k0), .v (.int .i64 a.k1)]] Tryz.func88 Tryz.ntmps88 rfl rfl (fun _ _ => rfl) ?_
  intro w0 A0
  exact endR_ok [] rfl rfl ⟨rfl, rfl⟩ rfl (fun _ => ⟨rfl, rfl⟩) (by simp)
theorem scr_modes2 (a : Ac) (z : Int) (b : Nat) : Cm Tryz.prog 89 [.pointer (some ⟨b, 0, none⟩), .int .i64 z] [(b, actL a, 39)] [] (putC (actL { a with ask := { a.ask with mode := z } })) := by
  refine cm_of (tab := tb) (ok := tbOk) [.o (.p 0 0), .o (.v (.int .i64 z))] Tryz.func89 Tryz.ntmps89 rfl rfl (fun ρ h => by simp [TV.den, SV.den, h 0 b rfl]) ?_
  intro w0 A0
  exact endR_ok [] rfl rfl ⟨rfl, rfl⟩ rfl (fun _ => ⟨rfl, rfl, rfl⟩) (by simp)
theorem scr_modes : Cm Tryz.prog 64 [] [] [] (rets (.agg #[.int .i64 1, .int .i64 5, .func (.func 88) #[] #[], .func (.func 89) #[] #[]])) := by
  refine cm_of (tab := tb) (ok := tbOk) [] Tryz.func64 Tryz.ntmps64 rfl rfl (fun _ _ => rfl) ?_
  intro w0 A0
  exact endR_ok [] rfl rfl ⟨rfl, rfl⟩ rfl (fun _ => ⟨rfl, rfl⟩) (by simp)
theorem scr_prios1 (a : Ac) : Cm Tryz.prog 90 [.agg (actL a).toArray] [] [] (rets (.int .i64 a.ask.prio)) := by
  refine cm_of (tab := tb) (ok := tbOk) [.g [.v (.int .i64 a.kind), .v (.int .i64 a.node), .v (.int .i64 a.at_), .v (.int .i64 a.num), .v (.int .i64 a.ask.kind), .v (.int .i64 a.ask.lock), .v (.int .i64 a.ask.mode), .v (.int .i64 a.ask.prio), .v (.int .i64 a.ask.ticks), .v (.int .i64 a.ask.slot), .v (.int .i64 a.ask.use), .v (.int .i64 a.ask.chg), .v (.int .i64 a.k0), .v (.int .i64 a.k1)]] Tryz.func90 Tryz.ntmps90 rfl rfl (fun _ _ => rfl) ?_
  intro w0 A0
  exact endR_ok [] rfl rfl ⟨rfl, rfl⟩ rfl (fun _ => ⟨rfl, rfl⟩) (by simp)
theorem scr_prios2 (a : Ac) (z : Int) (b : Nat) : Cm Tryz.prog 91 [.pointer (some ⟨b, 0, none⟩), .int .i64 z] [(b, actL a, 39)] [] (putC (actL { a with ask := { a.ask with prio := z } })) := by
  refine cm_of (tab := tb) (ok := tbOk) [.o (.p 0 0), .o (.v (.int .i64 z))] Tryz.func91 Tryz.ntmps91 rfl rfl (fun ρ h => by simp [TV.den, SV.den, h 0 b rfl]) ?_
  intro w0 A0
  exact endR_ok [] rfl rfl ⟨rfl, rfl⟩ rfl (fun _ => ⟨rfl, rfl, rfl⟩) (by simp)
theorem scr_prios : Cm Tryz.prog 65 [] [] [] (rets (.agg #[.int .i64 0, .int .i64 3, .func (.func 90) #[] #[], .func (.func 91) #[] #[]])) := by
  refine cm_of (tab := tb) (ok := tbOk) [] Tryz.func65 Tryz.ntmps65 rfl rfl (fun _ _ => rfl) ?_
  intro w0 A0
  exact endR_ok [] rfl rfl ⟨rfl, rfl⟩ rfl (fun _ => ⟨rfl, rfl⟩) (by simp)
theorem scr_ticks1 (a : Ac) : Cm Tryz.prog 92 [.agg (actL a).toArray] [] [] (rets (.int .i64 a.ask.ticks)) := by
  refine cm_of (tab := tb) (ok := tbOk) [.g [.v (.int .i64 a.kind), .v (.int .i64 a.node), .v (.int .i64 a.at_), .v (.int .i64 a.num), .v (.int .i64 a.ask.kind), .v (.int .i64 a.ask.lock), .v (.int .i64 a.ask.mode), .v (.int .i64 a.ask.prio), .v (.int .i64 a.ask.ticks), .v (.int .i64 a.ask.slot), .v (.int .i64 a.ask.use), .v (.int .i64 a.ask.chg), .v (.int .i64 a.k0), .v (.int .i64 a.k1)]] Tryz.func92 Tryz.ntmps92 rfl rfl (fun _ _ => rfl) ?_
  intro w0 A0
  exact endR_ok [] rfl rfl ⟨rfl, rfl⟩ rfl (fun _ => ⟨rfl, rfl⟩) (by simp)
theorem scr_ticks2 (a : Ac) (z : Int) (b : Nat) : Cm Tryz.prog 93 [.pointer (some ⟨b, 0, none⟩), .int .i64 z] [(b, actL a, 39)] [] (putC (actL { a with ask := { a.ask with ticks := z } })) := by
  refine cm_of (tab := tb) (ok := tbOk) [.o (.p 0 0), .o (.v (.int .i64 z))] Tryz.func93 Tryz.ntmps93 rfl rfl (fun ρ h => by simp [TV.den, SV.den, h 0 b rfl]) ?_
  intro w0 A0
  exact endR_ok [] rfl rfl ⟨rfl, rfl⟩ rfl (fun _ => ⟨rfl, rfl, rfl⟩) (by simp)
theorem scr_ticks : Cm Tryz.prog 66 [] [] [] (rets (.agg #[.int .i64 0, .int .i64 255, .func (.func 92) #[] #[], .func (.func 93) #[] #[]])) := by
  refine cm_of (tab := tb) (ok := tbOk) [] Tryz.func66 Tryz.ntmps66 rfl rfl (fun _ _ => rfl) ?_
  intro w0 A0
  exact endR_ok [] rfl rfl ⟨rfl, rfl⟩ rfl (fun _ => ⟨rfl, rfl⟩) (by simp)
theorem scr_uses1 (a : Ac) : Cm Tryz.prog 86 [.agg (actL a).toArray] [] [] (rets (.int .i64 a.ask.use)) := by
  refine cm_of (tab := tb) (ok := tbOk) [.g [.v (.int .i64 a.kind), .v (.int .i64 a.node), .v (.int .i64 a.at_), .v (.int .i64 a.num), .v (.int .i64 a.ask.kind), .v (.int .i64 a.ask.lock), .v (.int .i64 a.ask.mode), .v (.int .i64 a.ask.prio), .v (.int .i64 a.ask.ticks), .v (.int .i64 a.ask.slot), .v (.int .i64 a.ask.use), .v (.int .i64 a.ask.chg), .v (.int .i64 a.k0), .v (.int .i64 a.k1)]] Tryz.func86 Tryz.ntmps86 rfl rfl (fun _ _ => rfl) ?_
  intro w0 A0
  exact endR_ok [] rfl rfl ⟨rfl, rfl⟩ rfl (fun _ => ⟨rfl, rfl⟩) (by simp)
theorem scr_uses2 (a : Ac) (z : Int) (b : Nat) : Cm Tryz.prog 87 [.pointer (some ⟨b, 0, none⟩), .int .i64 z] [(b, actL a, 39)] [] (putC (actL { a with ask := { a.ask with use := z } })) := by
  refine cm_of (tab := tb) (ok := tbOk) [.o (.p 0 0), .o (.v (.int .i64 z))] Tryz.func87 Tryz.ntmps87 rfl rfl (fun ρ h => by simp [TV.den, SV.den, h 0 b rfl]) ?_
  intro w0 A0
  exact endR_ok [] rfl rfl ⟨rfl, rfl⟩ rfl (fun _ => ⟨rfl, rfl, rfl⟩) (by simp)
theorem scr_uses : Cm Tryz.prog 63 [] [] [] (rets (.agg #[.int .i64 1, .int .i64 256, .func (.func 86) #[] #[], .func (.func 87) #[] #[]])) := by
  refine cm_of (tab := tb) (ok := tbOk) [] Tryz.func63 Tryz.ntmps63 rfl rfl (fun _ _ => rfl) ?_
  intro w0 A0
  exact endR_ok [] rfl rfl ⟨rfl, rfl⟩ rfl (fun _ => ⟨rfl, rfl⟩) (by simp)
theorem scr_places1 (a : Ac) : Cm Tryz.prog 68 [.agg (actL a).toArray] [] [] (rets (.int .i64 a.at_)) := by
  refine cm_of (tab := tb) (ok := tbOk) [.g [.v (.int .i64 a.kind), .v (.int .i64 a.node), .v (.int .i64 a.at_), .v (.int .i64 a.num), .v (.int .i64 a.ask.kind), .v (.int .i64 a.ask.lock), .v (.int .i64 a.ask.mode), .v (.int .i64 a.ask.prio), .v (.int .i64 a.ask.ticks), .v (.int .i64 a.ask.slot), .v (.int .i64 a.ask.use), .v (.int .i64 a.ask.chg), .v (.int .i64 a.k0), .v (.int .i64 a.k1)]] Tryz.func68 Tryz.ntmps68 rfl rfl (fun _ _ => rfl) ?_
  intro w0 A0
  exact endR_ok [] rfl rfl ⟨rfl, rfl⟩ rfl (fun _ => ⟨rfl, rfl⟩) (by simp)
theorem scr_places2 (a : Ac) (z : Int) (b : Nat) : Cm Tryz.prog 69 [.pointer (some ⟨b, 0, none⟩), .int .i64 z] [(b, actL a, 39)] [] (putC (actL { a with at_ := z })) := by
  refine cm_of (tab := tb) (ok := tbOk) [.o (.p 0 0), .o (.v (.int .i64 z))] Tryz.func69 Tryz.ntmps69 rfl rfl (fun ρ h => by simp [TV.den, SV.den, h 0 b rfl]) ?_
  intro w0 A0
  exact endR_ok [] rfl rfl ⟨rfl, rfl⟩ rfl (fun _ => ⟨rfl, rfl, rfl⟩) (by simp)
theorem scr_places : Cm Tryz.prog 42 [] [] [] (rets (.agg #[.int .i64 0, .int .i64 255, .func (.func 68) #[] #[], .func (.func 69) #[] #[]])) := by
  refine cm_of (tab := tb) (ok := tbOk) [] Tryz.func42 Tryz.ntmps42 rfl rfl (fun _ _ => rfl) ?_
  intro w0 A0
  exact endR_ok [] rfl rfl ⟨rfl, rfl⟩ rfl (fun _ => ⟨rfl, rfl⟩) (by simp)
theorem scr_stops1 (a : Ac) : Cm Tryz.prog 70 [.agg (actL a).toArray] [] [] (rets (.int .i64 a.num)) := by
  refine cm_of (tab := tb) (ok := tbOk) [.g [.v (.int .i64 a.kind), .v (.int .i64 a.node), .v (.int .i64 a.at_), .v (.int .i64 a.num), .v (.int .i64 a.ask.kind), .v (.int .i64 a.ask.lock), .v (.int .i64 a.ask.mode), .v (.int .i64 a.ask.prio), .v (.int .i64 a.ask.ticks), .v (.int .i64 a.ask.slot), .v (.int .i64 a.ask.use), .v (.int .i64 a.ask.chg), .v (.int .i64 a.k0), .v (.int .i64 a.k1)]] Tryz.func70 Tryz.ntmps70 rfl rfl (fun _ _ => rfl) ?_
  intro w0 A0
  exact endR_ok [] rfl rfl ⟨rfl, rfl⟩ rfl (fun _ => ⟨rfl, rfl⟩) (by simp)
theorem scr_stops2 (a : Ac) (z : Int) (b : Nat) : Cm Tryz.prog 71 [.pointer (some ⟨b, 0, none⟩), .int .i64 z] [(b, actL a, 39)] [] (putC (actL { a with num := z })) := by
  refine cm_of (tab := tb) (ok := tbOk) [.o (.p 0 0), .o (.v (.int .i64 z))] Tryz.func71 Tryz.ntmps71 rfl rfl (fun ρ h => by simp [TV.den, SV.den, h 0 b rfl]) ?_
  intro w0 A0
  exact endR_ok [] rfl rfl ⟨rfl, rfl⟩ rfl (fun _ => ⟨rfl, rfl, rfl⟩) (by simp)
theorem scr_stops : Cm Tryz.prog 43 [] [] [] (rets (.agg #[.int .i64 0, .int .i64 255, .func (.func 70) #[] #[], .func (.func 71) #[] #[]])) := by
  refine cm_of (tab := tb) (ok := tbOk) [] Tryz.func43 Tryz.ntmps43 rfl rfl (fun _ _ => rfl) ?_
  intro w0 A0
  exact endR_ok [] rfl rfl ⟨rfl, rfl⟩ rfl (fun _ => ⟨rfl, rfl⟩) (by simp)

end Go.Proofs.YthnkjgffahkecaaGreat
