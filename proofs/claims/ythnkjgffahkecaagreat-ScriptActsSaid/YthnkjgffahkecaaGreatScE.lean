/- Asks, by the symbolic run: which may be. -/
import Derived.Test.YthnkjgffahkecaaGreatScD
import Derived.Test.YthnkjgffahkecaaGreatSiK
import Derived.Test.YthnkjgffahkecaaGreatEngZ
namespace Go.Proofs.YthnkjgffahkecaaGreat
open Go.RowKit Go.Shelf

abbrev Bd := Int × Int × Int
def encBd (b : Bd) : List Value := [.int .i64 b.1, .int .i64 b.2.1, .int .i64 b.2.2]
theorem encBd_len (b : Bd) : (encBd b).length = 3 := rfl
def outBd (b : Bd) : Bool := decide (b.1 < b.2.1) || decide (b.2.2 < b.1)
theorem callAll1_c (b : Bd) : Cm Tryz.prog 108 [.agg (encBd b).toArray] [] [] (rets (.bool (outBd b))) := by
  refine cm_of (tab := tb) (ok := tbOk) [.g [.v (.int .i64 b.1), .v (.int .i64 b.2.1), .v (.int .i64 b.2.2)]] Tryz.func108 Tryz.ntmps108 rfl rfl (fun _ _ => rfl) ?_
  intro w0 A0
  repeat' (first | (refine endR_ok [] rfl rfl ⟨rfl, rfl⟩ rfl (fun _ => ⟨ret_bool ?_, rfl⟩) (by simp); first | (simp [outBd, *]; done) | (rw [Bool.eq_iff_iff]; simp [outBd]; omega)) | refine brB_dec (fun _ => ?_) (fun _ => ?_))
theorem nodeIn1_c (b : Bd) : Cm Tryz.prog 78 [.agg (encBd b).toArray] [] [] (rets (.bool (outBd b))) := by
  refine cm_of (tab := tb) (ok := tbOk) [.g [.v (.int .i64 b.1), .v (.int .i64 b.2.1), .v (.int .i64 b.2.2)]] Tryz.func78 Tryz.ntmps78 rfl rfl (fun _ _ => rfl) ?_
  intro w0 A0
  repeat' (first | (refine endR_ok [] rfl rfl ⟨rfl, rfl⟩ rfl (fun _ => ⟨ret_bool ?_, rfl⟩) (by simp); first | (simp [outBd, *]; done) | (rw [Bool.eq_iff_iff]; simp [outBd]; omega)) | refine brB_dec (fun _ => ?_) (fun _ => ?_))
/-- slices.IndexFunc, ContainsFunc. -/
theorem cbd_idx {F0 : List Fact} {g : Nat} {lb : List Value} (hg : alook tb.fn g = some ()) (p : Bd → Bool) {a : Option Addr} {cap : Nat} {xs : List Bd} (hlen : xs.length ≤ 1099511627776) (hc : ∀ x ∈ xs, Cm Tryz.prog g (.agg (encBd x).toArray :: lb) [] F0 (rets (.bool (p x)))) :
    Cm Tryz.prog 125 [.slice a xs.length cap, .func (.func g) #[] lb.toArray] [] (slF encBd 3 (.slice a xs.length cap) xs :: F0) (rets (.int .i64 (idxI p xs))) := by
  refine cm_of (tab := tb) (ok := tbOk) [.o (.v (.slice a xs.length cap)), .o (.v (.func (.func g) #[] lb.toArray))] Tryz.func125 Tryz.ntmps125 rfl rfl (fun _ _ => rfl) ?_
  intro w0 A0
  refine cjs_loopP (γ := Nat) (fun k => k ≤ xs.length ∧ ∀ (j : Nat) x, j < k → xs[j]? = some x → p x = false) (fun k => [(8, .o (.v (.int .i64 k)))]) (fun _ => []) (fun _ => []) (fun k => xs.length - k) 0 ⟨Nat.zero_le _, fun j x hj => by omega⟩ (wk_patch (by repeat' (first | exact trivial | exact Or.inl rfl | refine Or.inr ⟨?_, ?_⟩ | rfl | refine ⟨?_, ?_⟩ | exact lt_all_v)) (by repeat' (first | exact trivial | exact Or.inl rfl | refine Or.inr ⟨?_, ?_⟩ | rfl | refine ⟨?_, ?_⟩ | exact lt_all_v)) (fun f hf => hf) (by simp) D_nil) ?_
  rintro k ⟨hk, hno⟩
  refine brB_dec (fun h1 => ?_) (fun h1 => ?_)
  · obtain ⟨x, hx⟩ := at_some (xs := xs) (k := k) (by omega)
    skip
    refine ojs_fact (slF encBd 3 (.slice a xs.length cap) xs) (by simp) (slF_neE hx) ?_
    rintro ⟨b, off, rfl⟩
    refine ojs_index rfl (by omega) rfl rfl rfl rfl ?_
    refine ojs_loadN (vs := encBd x) (slF encBd 3 (.slice (some ⟨b, off, none⟩) xs.length cap) xs) (by simp) (slF_atN hx) rfl rfl rfl ?_
    have hc2 : ∀ ρ : Nm, Cm Tryz.prog g (argV ρ [] [TV.g [.v (.int .i64 x.1), .v (.int .i64 x.2.1), .v (.int .i64 x.2.2)]] (lb.map PV.v)) [] F0 (rets (.bool (p x))) := fun ρ => by
      have e : argV ρ [] [TV.g [.v (.int .i64 x.1), .v (.int .i64 x.2.1), .v (.int .i64 x.2.2)]] (lb.map PV.v) = .agg (encBd x).toArray :: lb := by first | (simp [argV, List.map_map, Function.comp_def, PV.den, TV.den, SV.den, denL]; done) | (simp [argV, List.map_map, Function.comp_def, PV.den, TV.den, SV.den, denL]; rfl)
      rw [e]; exact hc x (List.mem_of_getElem? hx)
    refine ojs_call [] [] rfl rfl rfl rfl hg rfl rfl (by simp) (fun ρ => hc2 ρ) (fun f hf => List.mem_cons_of_mem _ hf) (.inl rfl) ?_
    rintro e cs F1 _ ⟨rfl, rfl⟩
    cases hb : p x
    · refine ojs_arith (z := ((k + 1 : Nat) : Int)) (by first | decide | (rw [wrap_in] <;> omega) | (dsimp only; rw [wrap_in] <;> omega)) rfl rfl rfl rfl ?_
      refine ⟨k + 1, ⟨by omega, fun j y hj hy => ?_⟩, (by first | omega | (dsimp only; omega)), wk_patch (by repeat' (first | exact trivial | exact Or.inl rfl | refine Or.inr ⟨?_, ?_⟩ | rfl | refine ⟨?_, ?_⟩ | exact lt_all_v)) (by repeat' (first | exact trivial | exact Or.inl rfl | refine Or.inr ⟨?_, ?_⟩ | rfl | refine ⟨?_, ?_⟩ | exact lt_all_v)) (fun f hf => hf) (by simp) D_nil⟩
      rcases Nat.lt_succ_iff_lt_or_eq.1 hj with h | rfl
      · exact hno j y h hy
      · rw [hx] at hy; cases hy; exact hb
    · exact endR_ok [] rfl rfl ⟨rfl, rfl⟩ rfl (fun _ => ⟨by rw [idxI_atE hno hx hb]; rfl, rfl⟩) (by simp)
  · obtain rfl : k = xs.length := by omega
    exact endR_ok [] rfl rfl ⟨rfl, rfl⟩ rfl (fun _ => ⟨by rw [idxI_noneE (fun j x hj => hno j x (List.getElem?_eq_some_iff.1 hj).1 hj)]; rfl, rfl⟩) (by simp)
theorem cbd_con {F0 : List Fact} {g : Nat} {lb : List Value} (hg : alook tb.fn g = some ()) (p : Bd → Bool) {a : Option Addr} {cap : Nat} {xs : List Bd} (hlen : xs.length ≤ 1099511627776) (hc : ∀ x ∈ xs, Cm Tryz.prog g (.agg (encBd x).toArray :: lb) [] F0 (rets (.bool (p x)))) :
    Cm Tryz.prog 107 [.slice a xs.length cap, .func (.func g) #[] lb.toArray] [] (slF encBd 3 (.slice a xs.length cap) xs :: F0) (rets (.bool (xs.any p))) := by
  refine cm_of (tab := tb) (ok := tbOk) [.o (.v (.slice a xs.length cap)), .o (.v (.func (.func g) #[] lb.toArray))] Tryz.func107 Tryz.ntmps107 rfl rfl (fun _ _ => rfl) ?_
  intro w0 A0
  refine ojs_call [] [] rfl rfl rfl rfl rfl rfl rfl (by simp) (fun _ => cbd_idx hg p hlen hc) (fun f hf => hf) (.inl rfl) ?_
  rintro e cs F1 _ ⟨rfl, rfl⟩
  exact endR_ok [] rfl rfl ⟨rfl, rfl⟩ rfl (fun _ => ⟨ret_bool idxI_any, rfl⟩) (by simp)
/-- slices.IndexFunc, ContainsFunc. -/
theorem nbd_idx {F0 : List Fact} {g : Nat} {lb : List Value} (hg : alook tb.fn g = some ()) (p : Bd → Bool) {a : Option Addr} {cap : Nat} {xs : List Bd} (hlen : xs.length ≤ 1099511627776) (hc : ∀ x ∈ xs, Cm Tryz.prog g (.agg (encBd x).toArray :: lb) [] F0 (rets (.bool (p x)))) :
    Cm Tryz.prog 99 [.slice a xs.length cap, .func (.func g) #[] lb.toArray] [] (slF encBd 3 (.slice a xs.length cap) xs :: F0) (rets (.int .i64 (idxI p xs))) := by
  refine cm_of (tab := tb) (ok := tbOk) [.o (.v (.slice a xs.length cap)), .o (.v (.func (.func g) #[] lb.toArray))] Tryz.func99 Tryz.ntmps99 rfl rfl (fun _ _ => rfl) ?_
  intro w0 A0
  refine cjs_loopP (γ := Nat) (fun k => k ≤ xs.length ∧ ∀ (j : Nat) x, j < k → xs[j]? = some x → p x = false) (fun k => [(8, .o (.v (.int .i64 k)))]) (fun _ => []) (fun _ => []) (fun k => xs.length - k) 0 ⟨Nat.zero_le _, fun j x hj => by omega⟩ (wk_patch (by repeat' (first | exact trivial | exact Or.inl rfl | refine Or.inr ⟨?_, ?_⟩ | rfl | refine ⟨?_, ?_⟩ | exact lt_all_v)) (by repeat' (first | exact trivial | exact Or.inl rfl | refine Or.inr ⟨?_, ?_⟩ | rfl | refine ⟨?_, ?_⟩ | exact lt_all_v)) (fun f hf => hf) (by simp) D_nil) ?_
  rintro k ⟨hk, hno⟩
  refine brB_dec (fun h1 => ?_) (fun h1 => ?_)
  · obtain ⟨x, hx⟩ := at_some (xs := xs) (k := k) (by omega)
    skip
    refine ojs_fact (slF encBd 3 (.slice a xs.length cap) xs) (by simp) (slF_neE hx) ?_
    rintro ⟨b, off, rfl⟩
    refine ojs_index rfl (by omega) rfl rfl rfl rfl ?_
    refine ojs_loadN (vs := encBd x) (slF encBd 3 (.slice (some ⟨b, off, none⟩) xs.length cap) xs) (by simp) (slF_atN hx) rfl rfl rfl ?_
    have hc2 : ∀ ρ : Nm, Cm Tryz.prog g (argV ρ [] [TV.g [.v (.int .i64 x.1), .v (.int .i64 x.2.1), .v (.int .i64 x.2.2)]] (lb.map PV.v)) [] F0 (rets (.bool (p x))) := fun ρ => by
      have e : argV ρ [] [TV.g [.v (.int .i64 x.1), .v (.int .i64 x.2.1), .v (.int .i64 x.2.2)]] (lb.map PV.v) = .agg (encBd x).toArray :: lb := by first | (simp [argV, List.map_map, Function.comp_def, PV.den, TV.den, SV.den, denL]; done) | (simp [argV, List.map_map, Function.comp_def, PV.den, TV.den, SV.den, denL]; rfl)
      rw [e]; exact hc x (List.mem_of_getElem? hx)
    refine ojs_call [] [] rfl rfl rfl rfl hg rfl rfl (by simp) (fun ρ => hc2 ρ) (fun f hf => List.mem_cons_of_mem _ hf) (.inl rfl) ?_
    rintro e cs F1 _ ⟨rfl, rfl⟩
    cases hb : p x
    · refine ojs_arith (z := ((k + 1 : Nat) : Int)) (by first | decide | (rw [wrap_in] <;> omega) | (dsimp only; rw [wrap_in] <;> omega)) rfl rfl rfl rfl ?_
      refine ⟨k + 1, ⟨by omega, fun j y hj hy => ?_⟩, (by first | omega | (dsimp only; omega)), wk_patch (by repeat' (first | exact trivial | exact Or.inl rfl | refine Or.inr ⟨?_, ?_⟩ | rfl | refine ⟨?_, ?_⟩ | exact lt_all_v)) (by repeat' (first | exact trivial | exact Or.inl rfl | refine Or.inr ⟨?_, ?_⟩ | rfl | refine ⟨?_, ?_⟩ | exact lt_all_v)) (fun f hf => hf) (by simp) D_nil⟩
      rcases Nat.lt_succ_iff_lt_or_eq.1 hj with h | rfl
      · exact hno j y h hy
      · rw [hx] at hy; cases hy; exact hb
    · exact endR_ok [] rfl rfl ⟨rfl, rfl⟩ rfl (fun _ => ⟨by rw [idxI_atE hno hx hb]; rfl, rfl⟩) (by simp)
  · obtain rfl : k = xs.length := by omega
    exact endR_ok [] rfl rfl ⟨rfl, rfl⟩ rfl (fun _ => ⟨by rw [idxI_noneE (fun j x hj => hno j x (List.getElem?_eq_some_iff.1 hj).1 hj)]; rfl, rfl⟩) (by simp)
theorem nbd_con {F0 : List Fact} {g : Nat} {lb : List Value} (hg : alook tb.fn g = some ()) (p : Bd → Bool) {a : Option Addr} {cap : Nat} {xs : List Bd} (hlen : xs.length ≤ 1099511627776) (hc : ∀ x ∈ xs, Cm Tryz.prog g (.agg (encBd x).toArray :: lb) [] F0 (rets (.bool (p x)))) :
    Cm Tryz.prog 77 [.slice a xs.length cap, .func (.func g) #[] lb.toArray] [] (slF encBd 3 (.slice a xs.length cap) xs :: F0) (rets (.bool (xs.any p))) := by
  refine cm_of (tab := tb) (ok := tbOk) [.o (.v (.slice a xs.length cap)), .o (.v (.func (.func g) #[] lb.toArray))] Tryz.func77 Tryz.ntmps77 rfl rfl (fun _ _ => rfl) ?_
  intro w0 A0
  refine ojs_call [] [] rfl rfl rfl rfl rfl rfl rfl (by simp) (fun _ => nbd_idx hg p hlen hc) (fun f hf => hf) (.inl rfl) ?_
  rintro e cs F1 _ ⟨rfl, rfl⟩
  exact endR_ok [] rfl rfl ⟨rfl, rfl⟩ rfl (fun _ => ⟨ret_bool idxI_any, rfl⟩) (by simp)
theorem callAll_c (b : Bd) (g : Nat) (t : TypeId) : Cm Tryz.prog 81 [.slice (some ⟨g, 0, none⟩) 1 1] [] [blkF g (encBd b) t] (rets (.bool (!(outBd b)))) := by
  refine Cm.facts (F0' := [slF encBd 3 (.slice (some ⟨g, 0, none⟩) 1 1) [b]]) ?_ fun A w => facts_cons (fun h => slF_blkN (xs := [b]) rfl encBd_len (by simp) (h _ (List.mem_cons_self ..))) (by simp)
  refine cm_of (tab := tb) (ok := tbOk) [.o (.v (.slice (some ⟨g, 0, none⟩) 1 1))] Tryz.func81 Tryz.ntmps81 rfl rfl (fun _ _ => rfl) ?_
  intro w0 A0
  refine ojs_call [] [] rfl rfl rfl rfl rfl rfl rfl (by simp) (fun _ => cbd_con (F0 := []) (lb := []) (xs := [b]) rfl outBd (by simp) (fun x _ => callAll1_c x)) (by simp) (.inl rfl) ?_
  rintro e cs F1 _ ⟨rfl, rfl⟩
  exact endR_ok [] rfl rfl ⟨rfl, rfl⟩ rfl (fun _ => ⟨ret_bool (by simp), rfl⟩) (by simp)
theorem nodeIn_c (b : Bd) (g : Nat) (t : TypeId) : Cm Tryz.prog 53 [.slice (some ⟨g, 0, none⟩) 1 1] [] [blkF g (encBd b) t] (rets (.bool (!(outBd b)))) := by
  refine Cm.facts (F0' := [slF encBd 3 (.slice (some ⟨g, 0, none⟩) 1 1) [b]]) ?_ fun A w => facts_cons (fun h => slF_blkN (xs := [b]) rfl encBd_len (by simp) (h _ (List.mem_cons_self ..))) (by simp)
  refine cm_of (tab := tb) (ok := tbOk) [.o (.v (.slice (some ⟨g, 0, none⟩) 1 1))] Tryz.func53 Tryz.ntmps53 rfl rfl (fun _ _ => rfl) ?_
  intro w0 A0
  refine ojs_call [] [] rfl rfl rfl rfl rfl rfl rfl (by simp) (fun _ => nbd_con (F0 := []) (lb := []) (xs := [b]) rfl outBd (by simp) (fun x _ => nodeIn1_c x)) (by simp) (.inl rfl) ?_
  rintro e cs F1 _ ⟨rfl, rfl⟩
  exact endR_ok [] rfl rfl ⟨rfl, rfl⟩ rfl (fun _ => ⟨ret_bool (by simp), rfl⟩) (by simp)

/-- What a part of an ask is. -/
structure Qs where
  get : Ask → Int
  lo : Int
  hi : Int
  put : Ask → Int → Ask
def qLock (l : Int) : Qs := ⟨fun q => q.lock, 0, l - 1, fun q z => { q with lock := z }⟩
def qWant : Qs := ⟨fun q => q.mode, 1, 5, fun q z => { q with mode := z }⟩
def qPrio : Qs := ⟨fun q => q.prio, 0, 3, fun q z => { q with prio := z }⟩
def qTicks : Qs := ⟨fun q => q.ticks, 0, 1099511627776, fun q z => { q with ticks := z }⟩
def qSlot (s : Int) : Qs := ⟨fun q => q.slot, 0, s - 1, fun q z => { q with slot := z }⟩
def qUse : Qs := ⟨fun q => q.use, 1, 1099511627776, fun q z => { q with use := z }⟩
def qBy : Qs := ⟨fun q => q.chg, -9223372036854775808, 9223372036854775807, fun q z => { q with chg := z }⟩
def tickQ (l s : Int) : List Qs := [qLock l, qSlot s, qUse]
def kindQ (l s q : Int) : List Qs :=
  if q = 1 then [qLock l, qWant, qPrio, qTicks] else if q = 2 then [qLock l, qWant, qPrio] else if q = 3 then tickQ l s else if q = 4 then tickQ l s else if q = 5 then tickQ l s else if q = 6 then tickQ l s
  else if q = 7 then [qLock l, qSlot s, qUse, qBy] else []
/-- A part's closures do what it is. -/
def CpOk (n l s : Int) (p : Cp) (m : Qs) : Prop := ∃ g h, p.1 = fnV' g ∧ p.2.1 = fnV' h ∧ alook tb.fn g = some () ∧ alook tb.fn h = some () ∧
  (∀ q, Cm Tryz.prog g [.agg (askL q ++ shL n l s).toArray] [] [] (rets (.agg (encBd (m.get q, m.lo, m.hi)).toArray))) ∧ ∀ q z b, Cm Tryz.prog h [.pointer (some ⟨b, 0, none⟩), .int .i64 z] [(b, askL q, 36)] [] (putC (askL (m.put q z)))
theorem kindC_ok {n l s : Int} (hs : 1 ≤ l ∧ l ≤ 8 ∧ 1 ≤ s ∧ s ≤ 4) (k : Int) : (kindC k).length = (kindQ l s k).length ∧ ∀ (i : Nat) (p : Cp), (kindC k)[i]? = some p → ∃ m, (kindQ l s k)[i]? = some m ∧ CpOk n l s p m := by
  have k1 : CpOk n l s cpLock (qLock l) := ⟨_, _, rfl, rfl, rfl, rfl, fun q => call_lock1 q n l s hs, call_lock2⟩
  have k2 : CpOk n l s cpWant qWant := ⟨_, _, rfl, rfl, rfl, rfl, fun q => call_want1 q n l s hs, call_want2⟩
  have k3 : CpOk n l s cpPrio qPrio := ⟨_, _, rfl, rfl, rfl, rfl, fun q => call_prio1 q n l s hs, call_prio2⟩
  have k4 : CpOk n l s cpTicks qTicks := ⟨_, _, rfl, rfl, rfl, rfl, fun q => call_ticks1 q n l s hs, call_ticks2⟩
  have k5 : CpOk n l s cpSlot (qSlot s) := ⟨_, _, rfl, rfl, rfl, rfl, fun q => call_slot1 q n l s hs, call_slot2⟩
  have k6 : CpOk n l s cpUse qUse := ⟨_, _, rfl, rfl, rfl, rfl, fun q => call_use1 q n l s hs, call_use2⟩
  have k7 : CpOk n l s cpBy qBy := ⟨_, _, rfl, rfl, rfl, rfl, fun q => call_by1 q n l s hs, call_by2⟩
  have c3 : ∀ (a b c : Cp) (x y z : Qs), CpOk n l s a x → CpOk n l s b y → CpOk n l s c z → [a, b, c].length = [x, y, z].length ∧ ∀ (i : Nat) (p : Cp), [a, b, c][i]? = some p → ∃ m, [x, y, z][i]? = some m ∧ CpOk n l s p m := by
    intro a b c x y z h1 h2 h3
    refine ⟨rfl, fun i p hp => ?_⟩
    match i, hp with
    | 0, hp => cases hp; exact ⟨_, rfl, h1⟩
    | 1, hp => cases hp; exact ⟨_, rfl, h2⟩
    | 2, hp => cases hp; exact ⟨_, rfl, h3⟩
  have c4 : ∀ (a b c d : Cp) (x y z v : Qs), CpOk n l s a x → CpOk n l s b y → CpOk n l s c z → CpOk n l s d v → [a, b, c, d].length = [x, y, z, v].length ∧ ∀ (i : Nat) (p : Cp), [a, b, c, d][i]? = some p → ∃ m, [x, y, z, v][i]? = some m ∧ CpOk n l s p m := by
    intro a b c d x y z v h1 h2 h3 h4
    refine ⟨rfl, fun i p hp => ?_⟩
    match i, hp with
    | 0, hp => cases hp; exact ⟨_, rfl, h1⟩
    | 1, hp => cases hp; exact ⟨_, rfl, h2⟩
    | 2, hp => cases hp; exact ⟨_, rfl, h3⟩
    | 3, hp => cases hp; exact ⟨_, rfl, h4⟩
  unfold kindC kindQ
  by_cases q1 : k = 1
  · rw [if_pos q1, if_pos q1]; exact c4 _ _ _ _ _ _ _ _ k1 k2 k3 k4
  rw [if_neg q1, if_neg q1]
  by_cases q2 : k = 2
  · rw [if_pos q2, if_pos q2]; exact c3 _ _ _ _ _ _ k1 k2 k3
  rw [if_neg q2, if_neg q2]
  by_cases q3 : k = 3
  · rw [if_pos q3, if_pos q3]; exact c3 _ _ _ _ _ _ k1 k5 k6
  rw [if_neg q3, if_neg q3]
  by_cases q4 : k = 4
  · rw [if_pos q4, if_pos q4]; exact c3 _ _ _ _ _ _ k1 k5 k6
  rw [if_neg q4, if_neg q4]
  by_cases q5 : k = 5
  · rw [if_pos q5, if_pos q5]; exact c3 _ _ _ _ _ _ k1 k5 k6
  rw [if_neg q5, if_neg q5]
  by_cases q6 : k = 6
  · rw [if_pos q6, if_pos q6]; exact c3 _ _ _ _ _ _ k1 k5 k6
  rw [if_neg q6, if_neg q6]
  by_cases q7 : k = 7
  · rw [if_pos q7, if_pos q7]; exact c4 _ _ _ _ _ _ _ _ k1 k5 k6 k7
  rw [if_neg q7, if_neg q7]
  exact ⟨rfl, fun i p hp => by simp at hp⟩
/-- The parts are put, one by one, while they lie within their bounds. -/
def runQ : List Qs → Ask → Ask → Option Ask
  | [], _, x => some x
  | m :: r, q, x => bif outBd (m.get q, m.lo, m.hi) then none else runQ r q (m.put x (m.get q))
def askEq (p q : Ask) : Bool := p.kind == q.kind && (p.lock == q.lock && (p.mode == q.mode && (p.prio == q.prio && (p.ticks == q.ticks && (p.slot == q.slot && (p.use == q.use && (p.chg == q.chg && true)))))))
def askB (n l s : Int) (q : Ask) : Bool := shapeB n l s && (decide (1 ≤ q.kind) && decide (q.kind ≤ 7) && decide (0 ≤ q.lock) && decide (q.lock < l)) &&
  (if 2 < q.kind then (decide (q.mode = 0) && decide (q.prio = 0) && decide (q.ticks = 0) && decide (0 ≤ q.slot) && decide (q.slot < s) && (decide (1 ≤ q.use) && decide (q.use ≤ 1099511627776))) && (decide (q.kind = 7) == decide (q.chg ≠ 0))
   else decide (1 ≤ q.mode) && decide (q.mode ≤ 5) && (decide (0 ≤ q.prio) && decide (q.prio ≤ 3)) && (decide (0 ≤ q.ticks) && decide (q.ticks ≤ 1099511627776)) && (decide (q.kind = 1) || decide (q.ticks = 0)) && decide (q.slot = 0) && decide (q.use = 0) && decide (q.chg = 0))
def ask0 (k : Int) : Ask := ⟨k, 0, 0, 0, 0, 0, 0, 0⟩
def okQ (x : Option Ask) (q : Ask) : Bool := match x with | some y => askEq y q | none => false
theorem outBd_no (a b c : Int) : (!outBd (a, b, c)) = (decide (b ≤ a) && decide (a ≤ c)) := by
  rw [Bool.eq_iff_iff]; simp [outBd]
theorem okQ_cond {c : Bool} {x : Option Ask} {q : Ask} : okQ (bif c then none else x) q = (!c && okQ x q) := by cases c <;> rfl
theorem askB_run {n l s : Int} {q : Ask} (hs : shapeB n l s = true) (hk : 1 ≤ q.kind ∧ q.kind ≤ 7) (hb : (decide (q.kind = 7) != decide (q.chg ≠ 0)) = false) (hw : -9223372036854775808 ≤ q.chg ∧ q.chg ≤ 9223372036854775807) : okQ (runQ (kindQ l s q.kind) q (ask0 q.kind)) q = askB n l s q := by
  have hb' : (decide (q.kind = 7) == decide (q.chg ≠ 0)) = true := by simpa [bne] using hb
  have hs2 := shapeB_is hs
  unfold askB
  rw [hs, hb']
  obtain ⟨k, a, b, c, d, e, f, g⟩ := q
  simp only at hk hb' hw ⊢
  have hb2 : (k = 7 ↔ g ≠ 0) := by
    rw [beq_iff_eq] at hb'
    by_cases h : k = 7 <;> simp_all
  have hk7 : k = 1 ∨ k = 2 ∨ k = 3 ∨ k = 4 ∨ k = 5 ∨ k = 6 ∨ k = 7 := by omega
  rw [Bool.eq_iff_iff]
  rcases hk7 with rfl | rfl | rfl | rfl | rfl | rfl | rfl
  · simp only [show kindQ l s 1 = [qLock l, qWant, qPrio, qTicks] from rfl, runQ, okQ_cond, qLock, qWant, qPrio, qTicks, outBd_no]
    simp [okQ, askEq, ask0]
    omega
  · simp only [show kindQ l s 2 = [qLock l, qWant, qPrio] from rfl, runQ, okQ_cond, qLock, qWant, qPrio, outBd_no]
    simp [okQ, askEq, ask0]
    omega
  · simp only [show kindQ l s 3 = [qLock l, qSlot s, qUse] from rfl, runQ, okQ_cond, qLock, qSlot, qUse, outBd_no]
    simp [okQ, askEq, ask0]
    omega
  · simp only [show kindQ l s 4 = [qLock l, qSlot s, qUse] from rfl, runQ, okQ_cond, qLock, qSlot, qUse, outBd_no]
    simp [okQ, askEq, ask0]
    omega
  · simp only [show kindQ l s 5 = [qLock l, qSlot s, qUse] from rfl, runQ, okQ_cond, qLock, qSlot, qUse, outBd_no]
    simp [okQ, askEq, ask0]
    omega
  · simp only [show kindQ l s 6 = [qLock l, qSlot s, qUse] from rfl, runQ, okQ_cond, qLock, qSlot, qUse, outBd_no]
    simp [okQ, askEq, ask0]
    omega
  · simp only [show kindQ l s 7 = [qLock l, qSlot s, qUse, qBy] from rfl, runQ, okQ_cond, qLock, qSlot, qUse, qBy, outBd_no]
    simp [okQ, askEq, ask0]
    omega

end Go.Proofs.YthnkjgffahkecaaGreat
