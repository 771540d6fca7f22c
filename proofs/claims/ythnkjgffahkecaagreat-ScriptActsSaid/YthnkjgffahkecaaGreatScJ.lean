/- Acts, by the symbolic run: which have bytes. -/
import Derived.Test.YthnkjgffahkecaaGreatScC
import Derived.Test.YthnkjgffahkecaaGreatScI
namespace Go.Proofs.YthnkjgffahkecaaGreat
open Go.RowKit Go.Shelf

def namedO (n l s k q : Int) : OutT := fun e _ F1 => ∃ b0 b1 a c, e = .returned (.slice a (namedP n l s k q b0 b1).length c) ∧ F1 = [blkF b0 [.int .i64 0] 3, blkF b1 [.int .i64 1] 3, slF encPt 4 (.slice a (namedP n l s k q b0 b1).length c) (namedP n l s k q b0 b1)]
theorem named_o (n l s k q : Int) (hs : 1 ≤ n ∧ n ≤ 64 ∧ 1 ≤ l ∧ l ≤ 8 ∧ 1 ≤ s ∧ s ≤ 4) (hk : 1 ≤ k ∧ k ≤ 8) : Cm Tryz.prog 20 [.agg (shL n l s).toArray, .int .i64 k, .int .i64 q] [] [] (namedO n l s k q) := by
  refine (named_c n l s k q hs hk).opened ?_
  rintro e cs F1 A w ⟨v, rfl, rfl⟩ hF
  obtain ⟨b0, b1, a, c, rfl, h1, h2, h3⟩ := hF _ (List.mem_singleton.2 rfl)
  refine ⟨_, ⟨b0, b1, a, c, rfl, rfl⟩, fun f hf => ?_⟩
  simp only [List.mem_cons, List.not_mem_nil, or_false] at hf
  rcases hf with rfl | rfl | rfl
  · exact h1
  · exact h2
  · exact h3
/-- What a part of an act is. -/
structure As where
  get : Ac → Int
  lo : Int
  hi : Int
  put : Ac → Int → Ac
def sNodes (n : Int) : As := ⟨fun a => a.node, 0, n - 1, fun a z => { a with node := z }⟩
def sKind : As := ⟨fun a => a.ask.kind, 1, 7, fun a z => { a with ask := { a.ask with kind := z } }⟩
def sLocks (l : Int) : As := ⟨fun a => a.ask.lock, 0, l - 1, fun a z => { a with ask := { a.ask with lock := z } }⟩
def sSlots (s : Int) : As := ⟨fun a => a.ask.slot, 0, s - 1, fun a z => { a with ask := { a.ask with slot := z } }⟩
def sModes : As := ⟨fun a => a.ask.mode, 1, 5, fun a z => { a with ask := { a.ask with mode := z } }⟩
def sPrios : As := ⟨fun a => a.ask.prio, 0, 3, fun a z => { a with ask := { a.ask with prio := z } }⟩
def sTicks : As := ⟨fun a => a.ask.ticks, 0, 255, fun a z => { a with ask := { a.ask with ticks := z } }⟩
def sUses : As := ⟨fun a => a.ask.use, 1, 256, fun a z => { a with ask := { a.ask with use := z } }⟩
def sChanges : As := ⟨fun a => byG a.ask.chg, -128, 127, fun a z => { a with ask := { a.ask with chg := byP z } }⟩
def sPlaces : As := ⟨fun a => a.at_, 0, 255, fun a z => { a with at_ := z }⟩
def sStops : As := ⟨fun a => a.num, 0, 255, fun a z => { a with num := z }⟩
def sKept (i : Nat) : As := ⟨fun a => if i = 0 then a.k0 else a.k1, 0, 255, fun a z => if i = 0 then { a with k0 := z } else { a with k1 := z }⟩
def tickS (l s : Int) : List As := [sLocks l, sSlots s, sUses]
def asksS (l s q : Int) : List As :=
  if q = 1 then [sLocks l, sModes, sPrios, sTicks] else if q = 2 then [sLocks l, sModes, sPrios] else if q = 3 then tickS l s else if q = 4 then tickS l s else if q = 5 then tickS l s else if q = 6 then tickS l s
  else if q = 7 then tickS l s ++ [sChanges] else []
def namedS (n l s k q : Int) : List As :=
  if k = 1 then [sNodes n, sKind] ++ asksS l s q else if k = 2 then [sNodes n] else if k = 3 then [sPlaces] else if k = 4 then [sPlaces] else if k = 5 then [sPlaces] else if k = 6 then [sNodes n, sStops]
  else if k = 7 then [sNodes n, sKept 0, sKept 1] else if k = 8 then [sNodes n] else []
/-- An act whose numbers are such as there are. -/
def AcOk (a : Ac) : Prop := a.ask.chg ≤ 9223372036854775807
def PtOk (F0 : List Fact) (p : Pt) (m : As) : Prop := p.1 = m.lo ∧ p.2.1 = m.hi ∧ (-128 ≤ m.lo ∧ m.hi ≤ 1000) ∧ ∃ g cg h ch, p.2.2.1 = .func (.func g) #[] (List.toArray cg) ∧ p.2.2.2 = .func (.func h) #[] (List.toArray ch) ∧ alook tb.fn g = some () ∧ alook tb.fn h = some () ∧
  (∀ a, AcOk a → Cm Tryz.prog g (.agg (actL a).toArray :: cg) [] F0 (rets (.int .i64 (m.get a)))) ∧ ∀ a z b, m.lo ≤ z → z ≤ m.hi → Cm Tryz.prog h (.pointer (some ⟨b, 0, none⟩) :: .int .i64 z :: ch) [(b, actL a, 39)] F0 (putC (actL (m.put a z)))
def boxF (b0 b1 : Nat) : List Fact := [blkF b0 [.int .i64 0] 3, blkF b1 [.int .i64 1] 3]
/-- Two lists go along with each other. -/
def Along {α β : Type} (R : α → β → Prop) : List α → List β → Prop
  | [], [] => True
  | a :: xs, b :: ys => R a b ∧ Along R xs ys
  | _, _ => False
theorem Along.len {α β : Type} {R : α → β → Prop} : ∀ {xs : List α} {ys : List β}, Along R xs ys → xs.length = ys.length
  | [], [], _ => rfl
  | _ :: _, _ :: _, h => congrArg (· + 1) (Along.len h.2)
theorem Along.at {α β : Type} {R : α → β → Prop} : ∀ {xs : List α} {ys : List β}, Along R xs ys → ∀ {i : Nat} {a : α}, xs[i]? = some a → ∃ b, ys[i]? = some b ∧ R a b
  | a :: xs, b :: ys, h, 0, x, hx => by
    simp only [List.getElem?_cons_zero, Option.some.injEq] at hx
    subst hx
    exact ⟨b, rfl, h.1⟩
  | a :: xs, b :: ys, h, i + 1, x, hx => Along.at h.2 (by simpa using hx)
  | [], [], _, i, x, hx => by simp at hx
theorem Along.app {α β : Type} {R : α → β → Prop} : ∀ {xs xs' : List α} {ys ys' : List β}, Along R xs ys → Along R xs' ys' → Along R (xs ++ xs') (ys ++ ys')
  | [], _, [], _, _, h => h
  | _ :: _, _, _ :: _, _, h, h' => ⟨h.1, Along.app h.2 h'⟩
theorem asksP_ok {F0 : List Fact} {n l s : Int} (hs : 1 ≤ n ∧ n ≤ 64 ∧ 1 ≤ l ∧ l ≤ 8 ∧ 1 ≤ s ∧ s ≤ 4) (q : Int) : Along (PtOk F0) (asksP l s q) (asksS l s q) := by
  have w : ∀ {g args mu Out}, Cm Tryz.prog g args mu [] Out → Cm Tryz.prog g args mu F0 Out := fun h => h.facts fun A w _ f hf => by cases hf
  have k1 : PtOk F0 (ptLocks l) (sLocks l) := ⟨rfl, rfl, ⟨by simp only [sLocks]; omega, by simp only [sLocks]; omega⟩, _, [], _, [], rfl, rfl, rfl, rfl, fun a _ => w (scr_locks1 a), fun a z b _ _ => w (scr_locks2 a z b)⟩
  have k2 : PtOk F0 ptModes sModes := ⟨rfl, rfl, ⟨by simp only [sModes]; omega, by simp only [sModes]; omega⟩, _, [], _, [], rfl, rfl, rfl, rfl, fun a _ => w (scr_modes1 a), fun a z b _ _ => w (scr_modes2 a z b)⟩
  have k3 : PtOk F0 ptPrios sPrios := ⟨rfl, rfl, ⟨by simp only [sPrios]; omega, by simp only [sPrios]; omega⟩, _, [], _, [], rfl, rfl, rfl, rfl, fun a _ => w (scr_prios1 a), fun a z b _ _ => w (scr_prios2 a z b)⟩
  have k4 : PtOk F0 ptTicks sTicks := ⟨rfl, rfl, ⟨by simp only [sTicks]; omega, by simp only [sTicks]; omega⟩, _, [], _, [], rfl, rfl, rfl, rfl, fun a _ => w (scr_ticks1 a), fun a z b _ _ => w (scr_ticks2 a z b)⟩
  have k5 : PtOk F0 (ptSlots s) (sSlots s) := ⟨rfl, rfl, ⟨by simp only [sSlots]; omega, by simp only [sSlots]; omega⟩, _, [], _, [], rfl, rfl, rfl, rfl, fun a _ => w (scr_slots1 a), fun a z b _ _ => w (scr_slots2 a z b)⟩
  have k6 : PtOk F0 ptUses sUses := ⟨rfl, rfl, ⟨by simp only [sUses]; omega, by simp only [sUses]; omega⟩, _, [], _, [], rfl, rfl, rfl, rfl, fun a _ => w (scr_uses1 a), fun a z b _ _ => w (scr_uses2 a z b)⟩
  have k7 : PtOk F0 ptChanges sChanges := ⟨rfl, rfl, ⟨by simp only [sChanges]; omega, by simp only [sChanges]; omega⟩, _, [], _, [], rfl, rfl, rfl, rfl, fun a h => w (chg1_c a h), fun a z b h1 h2 => w (chg2_c a z b h1 h2)⟩
  have kt : Along (PtOk F0) (tickP l s) (tickS l s) := ⟨k1, k5, k6, trivial⟩
  unfold asksP asksS
  by_cases q1 : q = 1
  · rw [if_pos q1, if_pos q1]; exact ⟨k1, k2, k3, k4, trivial⟩
  rw [if_neg q1, if_neg q1]
  by_cases q2 : q = 2
  · rw [if_pos q2, if_pos q2]; exact ⟨k1, k2, k3, trivial⟩
  rw [if_neg q2, if_neg q2]
  by_cases q3 : q = 3
  · rw [if_pos q3, if_pos q3]; exact kt
  rw [if_neg q3, if_neg q3]
  by_cases q4 : q = 4
  · rw [if_pos q4, if_pos q4]; exact kt
  rw [if_neg q4, if_neg q4]
  by_cases q5 : q = 5
  · rw [if_pos q5, if_pos q5]; exact kt
  rw [if_neg q5, if_neg q5]
  by_cases q6 : q = 6
  · rw [if_pos q6, if_pos q6]; exact kt
  rw [if_neg q6, if_neg q6]
  by_cases q7 : q = 7
  · rw [if_pos q7, if_pos q7]; exact kt.app ⟨k7, trivial⟩
  rw [if_neg q7, if_neg q7]
  exact True.intro
theorem namedP_ok {n l s : Int} (hs : 1 ≤ n ∧ n ≤ 64 ∧ 1 ≤ l ∧ l ≤ 8 ∧ 1 ≤ s ∧ s ≤ 4) (k q : Int) (b0 b1 : Nat) : Along (PtOk (boxF b0 b1)) (namedP n l s k q b0 b1) (namedS n l s k q) := by
  have w : ∀ {g args mu Out}, Cm Tryz.prog g args mu [] Out → Cm Tryz.prog g args mu (boxF b0 b1) Out := fun h => h.facts fun A w _ f hf => by cases hf
  have w0 : ∀ {g args mu Out}, Cm Tryz.prog g args mu [blkF b0 [.int .i64 0] 3] Out → Cm Tryz.prog g args mu (boxF b0 b1) Out := fun h => h.facts fun A w h f hf => by cases List.mem_singleton.1 hf; exact h _ (by simp [boxF])
  have w1 : ∀ {g args mu Out}, Cm Tryz.prog g args mu [blkF b1 [.int .i64 1] 3] Out → Cm Tryz.prog g args mu (boxF b0 b1) Out := fun h => h.facts fun A w h f hf => by cases List.mem_singleton.1 hf; exact h _ (by simp [boxF])
  have k1 : PtOk (boxF b0 b1) (ptNodes n) (sNodes n) := ⟨rfl, rfl, ⟨by simp only [sNodes]; omega, by simp only [sNodes]; omega⟩, _, [], _, [], rfl, rfl, rfl, rfl, fun a _ => w (scr_nodes1 a), fun a z b _ _ => w (scr_nodes2 a z b)⟩
  have k2 : PtOk (boxF b0 b1) ptKind sKind := ⟨rfl, rfl, ⟨by simp only [sKind]; omega, by simp only [sKind]; omega⟩, _, [], _, [], rfl, rfl, rfl, rfl, fun a _ => w (named1_c a), fun a z b _ _ => w (named2_c a z b)⟩
  have k3 : PtOk (boxF b0 b1) ptPlaces sPlaces := ⟨rfl, rfl, ⟨by simp only [sPlaces]; omega, by simp only [sPlaces]; omega⟩, _, [], _, [], rfl, rfl, rfl, rfl, fun a _ => w (scr_places1 a), fun a z b _ _ => w (scr_places2 a z b)⟩
  have k4 : PtOk (boxF b0 b1) ptStops sStops := ⟨rfl, rfl, ⟨by simp only [sStops]; omega, by simp only [sStops]; omega⟩, _, [], _, [], rfl, rfl, rfl, rfl, fun a _ => w (scr_stops1 a), fun a z b _ _ => w (scr_stops2 a z b)⟩
  have k5 : PtOk (boxF b0 b1) (ptKept b0) (sKept 0) := ⟨rfl, rfl, ⟨by simp only [sKept]; omega, by simp only [sKept]; omega⟩, _, [.pointer (some ⟨b0, 0, none⟩)], _, [.pointer (some ⟨b0, 0, none⟩)], rfl, rfl, rfl, rfl, fun a _ => w0 (kept1_c 0 (by omega) a b0), fun a z b _ _ => w0 (kept2_c 0 (by omega) a z b b0)⟩
  have k6 : PtOk (boxF b0 b1) (ptKept b1) (sKept 1) := ⟨rfl, rfl, ⟨by simp only [sKept]; omega, by simp only [sKept]; omega⟩, _, [.pointer (some ⟨b1, 0, none⟩)], _, [.pointer (some ⟨b1, 0, none⟩)], rfl, rfl, rfl, rfl, fun a _ => w1 (kept1_c 1 (by omega) a b1), fun a z b _ _ => w1 (kept2_c 1 (by omega) a z b b1)⟩
  unfold namedP namedS
  by_cases q1 : k = 1
  · rw [if_pos q1, if_pos q1]; exact Along.app ⟨k1, k2, trivial⟩ (asksP_ok hs q)
  rw [if_neg q1, if_neg q1]
  by_cases q2 : k = 2
  · rw [if_pos q2, if_pos q2]; exact ⟨k1, trivial⟩
  rw [if_neg q2, if_neg q2]
  by_cases q3 : k = 3
  · rw [if_pos q3, if_pos q3]; exact ⟨k3, trivial⟩
  rw [if_neg q3, if_neg q3]
  by_cases q4 : k = 4
  · rw [if_pos q4, if_pos q4]; exact ⟨k3, trivial⟩
  rw [if_neg q4, if_neg q4]
  by_cases q5 : k = 5
  · rw [if_pos q5, if_pos q5]; exact ⟨k3, trivial⟩
  rw [if_neg q5, if_neg q5]
  by_cases q6 : k = 6
  · rw [if_pos q6, if_pos q6]; exact ⟨k1, k4, trivial⟩
  rw [if_neg q6, if_neg q6]
  by_cases q7 : k = 7
  · rw [if_pos q7, if_pos q7]; exact ⟨k1, k5, k6, trivial⟩
  rw [if_neg q7, if_neg q7]
  by_cases q8 : k = 8
  · rw [if_pos q8, if_pos q8]; exact ⟨k1, trivial⟩
  rw [if_neg q8, if_neg q8]
  exact True.intro
theorem namedP_len {n l s k q : Int} {b0 b1 : Nat} : (namedP n l s k q b0 b1).length ≤ 6 := by
  have := asksP_len (l := l) (s := s) (q := q)
  unfold namedP
  repeat' split
  all_goals (simp; try omega)
def runA : List As → Ac → Ac → Option Ac
  | [], _, x => some x
  | m :: r, a, x => bif outBd (m.get a, m.lo, m.hi) then none else runA r a (m.put x (m.get a))
def actEq (x y : Ac) : Bool := x.kind == y.kind && (x.node == y.node && (x.at_ == y.at_ && (x.num == y.num && (x.ask.kind == y.ask.kind && (x.ask.lock == y.ask.lock && (x.ask.mode == y.ask.mode && (x.ask.prio == y.ask.prio && (x.ask.ticks == y.ask.ticks && (x.ask.slot == y.ask.slot && (x.ask.use == y.ask.use && (x.ask.chg == y.ask.chg && (x.k0 == y.k0 && (x.k1 == y.k1 && true)))))))))))))
def act0 (k : Int) : Ac := ⟨k, 0, 0, 0, ask0 0, 0, 0⟩
def okA (x : Option Ac) (a : Ac) : Bool := match x with | some y => actEq y a | none => false
/-- Has an act bytes, of a shape that may be? -/
def actB (n l s : Int) (a : Ac) : Bool := inB a.kind 1 8 && (!(a.kind == 1) || askB n l s a.ask) && okA (runA (namedS n l s a.kind a.ask.kind) a (act0 a.kind)) a
set_option maxHeartbeats 1000000 in
theorem scriptRight_c (c : Cfg) (ad : Option Addr) (cap : Nat) (a : Ac) (hs : shapeB c.n c.l c.s = true) (hw : -9223372036854775808 ≤ a.ask.chg ∧ a.ask.chg ≤ 9223372036854775807) : Cm Tryz.prog 17 [.agg (cfgL c ad cap).toArray, .agg (actL a).toArray] [] [] (rets (.bool (actB c.n c.l c.s a))) := by
  refine cm_of (tab := tb) (ok := tbOk) [.g [.v (.int .i64 c.n), .v (.int .i64 c.l), .v (.int .i64 c.s), .v (.slice ad c.fs.length cap), .v (.int .i64 c.lim), .v (.int .i64 c.ret), .v (.int .i64 c.far), .v (.int .i64 c.sus), .v (.int .i64 c.apt)], .g [.v (.int .i64 a.kind), .v (.int .i64 a.node), .v (.int .i64 a.at_), .v (.int .i64 a.num), .v (.int .i64 a.ask.kind), .v (.int .i64 a.ask.lock), .v (.int .i64 a.ask.mode), .v (.int .i64 a.ask.prio), .v (.int .i64 a.ask.ticks), .v (.int .i64 a.ask.slot), .v (.int .i64 a.ask.use), .v (.int .i64 a.ask.chg), .v (.int .i64 a.k0), .v (.int .i64 a.k1)]] Tryz.func17 Tryz.ntmps17 rfl rfl (fun _ _ => rfl) ?_
  intro w0 A0
  have hs2 := shapeB_is hs
  obtain ⟨R, hR⟩ : ∃ R, R = actB c.n c.l c.s a := ⟨_, rfl⟩
  rw [← hR]
  unfold actB at hR
  refine brB_dec (fun h1 => ?_) (fun h1 => ?_)
  · have : inB a.kind 1 8 = false := by rw [Bool.eq_false_iff, Ne, inB_iff]; omega
    rw [this] at hR
    exact endR_ok [] rfl rfl ⟨rfl, rfl⟩ rfl (fun _ => ⟨by rw [hR]; rfl, rfl⟩) (by simp)
  refine brB_dec (fun h2 => ?_) (fun h2 => ?_)
  · have : inB a.kind 1 8 = false := by rw [Bool.eq_false_iff, Ne, inB_iff]; omega
    rw [this] at hR
    exact endR_ok [] rfl rfl ⟨rfl, rfl⟩ rfl (fun _ => ⟨by rw [hR]; rfl, rfl⟩) (by simp)
  have hk : inB a.kind 1 8 = true := inB_iff.2 (by omega)
  rw [hk, Bool.true_and] at hR
  refine brB_split (fun h3 => ?_) (fun h3 => ?_)
  · rw [h3] at hR
    refine ojs_call [] [] rfl rfl rfl rfl rfl rfl rfl (by simp) (fun _ => callCheck_c a.ask c.n c.l c.s hw) (by simp) (.inl rfl) ?_
    rintro e cs F1 _ ⟨rfl, rfl⟩
    cases hA : askB c.n c.l c.s a.ask
    · rw [hA] at hR
      exact endR_ok [] rfl rfl ⟨rfl, rfl⟩ rfl (fun _ => ⟨by rw [hR]; rfl, rfl⟩) (by simp)
    rw [hA] at hR
    simp only [Bool.not_true, Bool.false_or, Bool.true_and] at hR
    refine ojs_call [] [] rfl rfl rfl rfl rfl rfl rfl (by simp) (fun _ => named_o c.n c.l c.s a.kind a.ask.kind (by omega) (by omega)) (by simp) (.inl rfl) ?_
    rintro e cs F1 _ ⟨b0, b1, a1, c1, rfl, rfl⟩
    have hal := namedP_ok (n := c.n) (l := c.l) (s := c.s) (by omega) a.kind a.ask.kind b0 b1
    have hlen := namedP_len (n := c.n) (l := c.l) (s := c.s) (k := a.kind) (q := a.ask.kind) (b0 := b0) (b1 := b1)
    generalize namedP c.n c.l c.s a.kind a.ask.kind b0 b1 = ps at hal hlen ⊢
    generalize namedS c.n c.l c.s a.kind a.ask.kind = ms at hal hR
    have hl := hal.len
    refine cjs_loopP (γ := Nat × Ac) (fun g => g.1 ≤ ps.length ∧ okA (runA (ms.drop g.1) a g.2) a = R) (fun g => [(42, .o (.v (.int .i64 g.1)))]) (fun g => [(2, .c ((actL g.2).map SV.v) 39)]) (fun _ => []) (fun g => ps.length - g.1) (0, act0 a.kind) ⟨Nat.zero_le _, by simpa using hR.symm⟩ (wk_patch (by repeat' (first | exact trivial | exact Or.inl rfl | refine Or.inr ⟨?_, ?_⟩ | rfl | refine ⟨?_, ?_⟩ | exact lt_all_v)) (by repeat' (first | exact trivial | exact Or.inl rfl | refine Or.inr ⟨?_, ?_⟩ | rfl | refine ⟨?_, ?_⟩ | exact lt_all_v)) (fun f hf => hf) (by simp) D_nil) ?_
    rintro ⟨i, x⟩ ⟨hi, hx⟩
    simp only at hi hx
    refine brB_dec (fun g1 => ?_) (fun g1 => ?_)
    · have hil : i < ps.length := by dsimp only at g1; omega
      obtain ⟨p, hp⟩ := at_some (xs := ps) (k := i) hil
      obtain ⟨m, hm, e1, e2, hbd, g, cg, h, ch, e3, e4, hg, hh, hget, hput⟩ := hal.at hp
      obtain ⟨p1, p2, p3, p4⟩ := p
      simp only at e1 e2 e3 e4
      subst e1 e2 e3 e4
      refine ojs_fact (slF encPt 4 (.slice a1 ps.length c1) ps) (by simp) (slF_neE hp) ?_
      rintro ⟨b, off, rfl⟩
      refine ojs_index rfl hil rfl rfl rfl rfl ?_
      refine ojs_loadN (vs := encPt (m.lo, m.hi, .func (.func g) #[] cg.toArray, .func (.func h) #[] ch.toArray)) (slF encPt 4 (.slice (some ⟨b, off, none⟩) ps.length c1) ps) (by simp) (slF_atN hp) rfl rfl rfl ?_
      have hget2 : ∀ ρ : Nm, Cm Tryz.prog g (argV ρ [] [TV.g [.v (.int .i64 a.kind), .v (.int .i64 a.node), .v (.int .i64 a.at_), .v (.int .i64 a.num), .v (.int .i64 a.ask.kind), .v (.int .i64 a.ask.lock), .v (.int .i64 a.ask.mode), .v (.int .i64 a.ask.prio), .v (.int .i64 a.ask.ticks), .v (.int .i64 a.ask.slot), .v (.int .i64 a.ask.use), .v (.int .i64 a.ask.chg), .v (.int .i64 a.k0), .v (.int .i64 a.k1)]] (cg.map PV.v)) [] (boxF b0 b1) (rets (.int .i64 (m.get a))) := fun ρ => by
        have e : argV ρ [] [TV.g [.v (.int .i64 a.kind), .v (.int .i64 a.node), .v (.int .i64 a.at_), .v (.int .i64 a.num), .v (.int .i64 a.ask.kind), .v (.int .i64 a.ask.lock), .v (.int .i64 a.ask.mode), .v (.int .i64 a.ask.prio), .v (.int .i64 a.ask.ticks), .v (.int .i64 a.ask.slot), .v (.int .i64 a.ask.use), .v (.int .i64 a.ask.chg), .v (.int .i64 a.k0), .v (.int .i64 a.k1)]] (cg.map PV.v) = .agg (actL a).toArray :: cg := by first | (simp [argV, List.map_map, Function.comp_def, PV.den, TV.den, SV.den, denL]; done) | (simp [argV, List.map_map, Function.comp_def, PV.den, TV.den, SV.den, denL]; rfl)
        rw [e]; exact hget a hw.2
      refine ojs_call [] [] rfl rfl rfl rfl hg rfl rfl (by simp) (fun ρ => hget2 ρ) (by simp [boxF]) (.inl rfl) ?_
      rintro e cs F1 _ ⟨rfl, rfl⟩
      have hdr : ms.drop i = m :: ms.drop (i + 1) := by
        obtain ⟨h3, h4⟩ := List.getElem?_eq_some_iff.1 hm
        rw [List.drop_eq_getElem_cons h3, h4]
      rw [hdr] at hx
      simp only [runA] at hx
      generalize hz : m.get a = z at hx ⊢
      refine brB_dec (fun g2 => ?_) (fun g2 => ?_)
      · have : outBd (z, m.lo, m.hi) = true := by dsimp only at g2; simp [outBd, g2]
        rw [this] at hx
        exact endR_ok [] rfl rfl ⟨rfl, rfl⟩ rfl (fun _ => ⟨by rw [← hx]; rfl, rfl⟩) (by simp)
      refine brB_dec (fun g3 => ?_) (fun g3 => ?_)
      · have : outBd (z, m.lo, m.hi) = true := by dsimp only at g3; simp [outBd, g3]
        rw [this] at hx
        exact endR_ok [] rfl rfl ⟨rfl, rfl⟩ rfl (fun _ => ⟨by rw [← hx]; rfl, rfl⟩) (by simp)
      dsimp only at g2 g3
      have : outBd (z, m.lo, m.hi) = false := by simp [outBd]; omega
      rw [this] at hx
      have hput2 : ∀ ρ : Nm, Cm Tryz.prog h (argV ρ [] [.o (.p 2 0), .o (.v (.int .i64 z))] (ch.map PV.v)) [(ρ 2, actL x, 39)] (boxF b0 b1) (putC (actL (m.put x z))) := fun ρ => by
        have e : argV ρ [] [.o (.p 2 0), .o (.v (.int .i64 z))] (ch.map PV.v) = .pointer (some ⟨ρ 2, 0, none⟩) :: .int .i64 z :: ch := by simp [argV, List.map_map, Function.comp_def, PV.den, TV.den, SV.den]
        rw [e]; exact hput x z (ρ 2) (by omega) (by omega)
      refine ojs_call [] [2] rfl rfl rfl rfl hh rfl rfl (by simp) (fun ρ => hput2 ρ) (by simp [boxF]) (.inl rfl) ?_
      rintro e cs F1 _ ⟨rfl, rfl, rfl⟩
      refine ojs_arith (z := ((i + 1 : Nat) : Int)) (by first | decide | (rw [wrap_in] <;> omega) | (dsimp only; rw [wrap_in] <;> omega)) rfl rfl rfl rfl ?_
      exact ⟨(i + 1, m.put x z), ⟨hil, hx⟩, (by first | omega | (dsimp only; omega)), wk_patch (by repeat' (first | exact trivial | exact Or.inl rfl | refine Or.inr ⟨?_, ?_⟩ | rfl | refine ⟨?_, ?_⟩ | exact lt_all_v)) (by repeat' (first | exact trivial | exact Or.inl rfl | refine Or.inr ⟨?_, ?_⟩ | rfl | refine ⟨?_, ?_⟩ | exact lt_all_v)) (by simp) (by simp) D_nil⟩
    · have hil : i = ps.length := by dsimp only at g1; omega
      rw [List.drop_of_length_le (by omega)] at hx
      refine ojs_yd (yd_eqF (xs := actL x) (ys := actL a) (r := actEq x a) (ks := [4, 4, 4, 4, 4, 4, 4, 4, 4, 4, 4, 4, 4, 4]) (by kernel_rfl) (by kernel_rfl) rfl rfl rfl (fun _ => rfl) (fun _ => rfl) rfl) rfl ?_
      exact endR_ok [] rfl rfl ⟨rfl, rfl⟩ rfl (fun _ => ⟨by rw [← hx]; rfl, rfl⟩) (by simp)
  · rw [h3] at hR
    simp only [Bool.not_false, Bool.true_or, Bool.true_and] at hR
    refine ojs_call [] [] rfl rfl rfl rfl rfl rfl rfl (by simp) (fun _ => named_o c.n c.l c.s a.kind a.ask.kind (by omega) (by omega)) (by simp) (.inl rfl) ?_
    rintro e cs F1 _ ⟨b0, b1, a1, c1, rfl, rfl⟩
    have hal := namedP_ok (n := c.n) (l := c.l) (s := c.s) (by omega) a.kind a.ask.kind b0 b1
    have hlen := namedP_len (n := c.n) (l := c.l) (s := c.s) (k := a.kind) (q := a.ask.kind) (b0 := b0) (b1 := b1)
    generalize namedP c.n c.l c.s a.kind a.ask.kind b0 b1 = ps at hal hlen ⊢
    generalize namedS c.n c.l c.s a.kind a.ask.kind = ms at hal hR
    have hl := hal.len
    refine cjs_loopP (γ := Nat × Ac) (fun g => g.1 ≤ ps.length ∧ okA (runA (ms.drop g.1) a g.2) a = R) (fun g => [(42, .o (.v (.int .i64 g.1)))]) (fun g => [(2, .c ((actL g.2).map SV.v) 39)]) (fun _ => []) (fun g => ps.length - g.1) (0, act0 a.kind) ⟨Nat.zero_le _, by simpa using hR.symm⟩ (wk_patch (by repeat' (first | exact trivial | exact Or.inl rfl | refine Or.inr ⟨?_, ?_⟩ | rfl | refine ⟨?_, ?_⟩ | exact lt_all_v)) (by repeat' (first | exact trivial | exact Or.inl rfl | refine Or.inr ⟨?_, ?_⟩ | rfl | refine ⟨?_, ?_⟩ | exact lt_all_v)) (fun f hf => hf) (by simp) D_nil) ?_
    rintro ⟨i, x⟩ ⟨hi, hx⟩
    simp only at hi hx
    refine brB_dec (fun g1 => ?_) (fun g1 => ?_)
    · have hil : i < ps.length := by dsimp only at g1; omega
      obtain ⟨p, hp⟩ := at_some (xs := ps) (k := i) hil
      obtain ⟨m, hm, e1, e2, hbd, g, cg, h, ch, e3, e4, hg, hh, hget, hput⟩ := hal.at hp
      obtain ⟨p1, p2, p3, p4⟩ := p
      simp only at e1 e2 e3 e4
      subst e1 e2 e3 e4
      refine ojs_fact (slF encPt 4 (.slice a1 ps.length c1) ps) (by simp) (slF_neE hp) ?_
      rintro ⟨b, off, rfl⟩
      refine ojs_index rfl hil rfl rfl rfl rfl ?_
      refine ojs_loadN (vs := encPt (m.lo, m.hi, .func (.func g) #[] cg.toArray, .func (.func h) #[] ch.toArray)) (slF encPt 4 (.slice (some ⟨b, off, none⟩) ps.length c1) ps) (by simp) (slF_atN hp) rfl rfl rfl ?_
      have hget2 : ∀ ρ : Nm, Cm Tryz.prog g (argV ρ [] [TV.g [.v (.int .i64 a.kind), .v (.int .i64 a.node), .v (.int .i64 a.at_), .v (.int .i64 a.num), .v (.int .i64 a.ask.kind), .v (.int .i64 a.ask.lock), .v (.int .i64 a.ask.mode), .v (.int .i64 a.ask.prio), .v (.int .i64 a.ask.ticks), .v (.int .i64 a.ask.slot), .v (.int .i64 a.ask.use), .v (.int .i64 a.ask.chg), .v (.int .i64 a.k0), .v (.int .i64 a.k1)]] (cg.map PV.v)) [] (boxF b0 b1) (rets (.int .i64 (m.get a))) := fun ρ => by
        have e : argV ρ [] [TV.g [.v (.int .i64 a.kind), .v (.int .i64 a.node), .v (.int .i64 a.at_), .v (.int .i64 a.num), .v (.int .i64 a.ask.kind), .v (.int .i64 a.ask.lock), .v (.int .i64 a.ask.mode), .v (.int .i64 a.ask.prio), .v (.int .i64 a.ask.ticks), .v (.int .i64 a.ask.slot), .v (.int .i64 a.ask.use), .v (.int .i64 a.ask.chg), .v (.int .i64 a.k0), .v (.int .i64 a.k1)]] (cg.map PV.v) = .agg (actL a).toArray :: cg := by first | (simp [argV, List.map_map, Function.comp_def, PV.den, TV.den, SV.den, denL]; done) | (simp [argV, List.map_map, Function.comp_def, PV.den, TV.den, SV.den, denL]; rfl)
        rw [e]; exact hget a hw.2
      refine ojs_call [] [] rfl rfl rfl rfl hg rfl rfl (by simp) (fun ρ => hget2 ρ) (by simp [boxF]) (.inl rfl) ?_
      rintro e cs F1 _ ⟨rfl, rfl⟩
      have hdr : ms.drop i = m :: ms.drop (i + 1) := by
        obtain ⟨h3, h4⟩ := List.getElem?_eq_some_iff.1 hm
        rw [List.drop_eq_getElem_cons h3, h4]
      rw [hdr] at hx
      simp only [runA] at hx
      generalize hz : m.get a = z at hx ⊢
      refine brB_dec (fun g2 => ?_) (fun g2 => ?_)
      · have : outBd (z, m.lo, m.hi) = true := by dsimp only at g2; simp [outBd, g2]
        rw [this] at hx
        exact endR_ok [] rfl rfl ⟨rfl, rfl⟩ rfl (fun _ => ⟨by rw [← hx]; rfl, rfl⟩) (by simp)
      refine brB_dec (fun g3 => ?_) (fun g3 => ?_)
      · have : outBd (z, m.lo, m.hi) = true := by dsimp only at g3; simp [outBd, g3]
        rw [this] at hx
        exact endR_ok [] rfl rfl ⟨rfl, rfl⟩ rfl (fun _ => ⟨by rw [← hx]; rfl, rfl⟩) (by simp)
      dsimp only at g2 g3
      have : outBd (z, m.lo, m.hi) = false := by simp [outBd]; omega
      rw [this] at hx
      have hput2 : ∀ ρ : Nm, Cm Tryz.prog h (argV ρ [] [.o (.p 2 0), .o (.v (.int .i64 z))] (ch.map PV.v)) [(ρ 2, actL x, 39)] (boxF b0 b1) (putC (actL (m.put x z))) := fun ρ => by
        have e : argV ρ [] [.o (.p 2 0), .o (.v (.int .i64 z))] (ch.map PV.v) = .pointer (some ⟨ρ 2, 0, none⟩) :: .int .i64 z :: ch := by simp [argV, List.map_map, Function.comp_def, PV.den, TV.den, SV.den]
        rw [e]; exact hput x z (ρ 2) (by omega) (by omega)
      refine ojs_call [] [2] rfl rfl rfl rfl hh rfl rfl (by simp) (fun ρ => hput2 ρ) (by simp [boxF]) (.inl rfl) ?_
      rintro e cs F1 _ ⟨rfl, rfl, rfl⟩
      refine ojs_arith (z := ((i + 1 : Nat) : Int)) (by first | decide | (rw [wrap_in] <;> omega) | (dsimp only; rw [wrap_in] <;> omega)) rfl rfl rfl rfl ?_
      exact ⟨(i + 1, m.put x z), ⟨hil, hx⟩, (by first | omega | (dsimp only; omega)), wk_patch (by repeat' (first | exact trivial | exact Or.inl rfl | refine Or.inr ⟨?_, ?_⟩ | rfl | refine ⟨?_, ?_⟩ | exact lt_all_v)) (by repeat' (first | exact trivial | exact Or.inl rfl | refine Or.inr ⟨?_, ?_⟩ | rfl | refine ⟨?_, ?_⟩ | exact lt_all_v)) (by simp) (by simp) D_nil⟩
    · have hil : i = ps.length := by dsimp only at g1; omega
      rw [List.drop_of_length_le (by omega)] at hx
      refine ojs_yd (yd_eqF (xs := actL x) (ys := actL a) (r := actEq x a) (ks := [4, 4, 4, 4, 4, 4, 4, 4, 4, 4, 4, 4, 4, 4]) (by kernel_rfl) (by kernel_rfl) rfl rfl rfl (fun _ => rfl) (fun _ => rfl) rfl) rfl ?_
      exact endR_ok [] rfl rfl ⟨rfl, rfl⟩ rfl (fun _ => ⟨by rw [← hx]; rfl, rfl⟩) (by simp)

theorem scriptCheck_c (c : Cfg) (ad : Option Addr) (cap : Nat) (a : Ac) (hlen : c.fs.length ≤ 1099511627776) (hr : -9223372036854775808 ≤ c.ret) (hw : -9223372036854775808 ≤ a.ask.chg ∧ a.ask.chg ≤ 9223372036854775807) : Cm Tryz.prog 7 [.agg (cfgL c ad cap).toArray, .agg (actL a).toArray] [] [slF frmL 4 (.slice ad c.fs.length cap) c.fs] (rets (.int .i64 (bif cfgB c then (bif actB c.n c.l c.s a then 0 else 350) else 2))) := by
  refine cm_of (tab := tb) (ok := tbOk) [.g [.v (.int .i64 c.n), .v (.int .i64 c.l), .v (.int .i64 c.s), .v (.slice ad c.fs.length cap), .v (.int .i64 c.lim), .v (.int .i64 c.ret), .v (.int .i64 c.far), .v (.int .i64 c.sus), .v (.int .i64 c.apt)], .g [.v (.int .i64 a.kind), .v (.int .i64 a.node), .v (.int .i64 a.at_), .v (.int .i64 a.num), .v (.int .i64 a.ask.kind), .v (.int .i64 a.ask.lock), .v (.int .i64 a.ask.mode), .v (.int .i64 a.ask.prio), .v (.int .i64 a.ask.ticks), .v (.int .i64 a.ask.slot), .v (.int .i64 a.ask.use), .v (.int .i64 a.ask.chg), .v (.int .i64 a.k0), .v (.int .i64 a.k1)]] Tryz.func7 Tryz.ntmps7 rfl rfl (fun _ _ => rfl) ?_
  intro w0 A0
  refine ojs_call [] [] rfl rfl rfl rfl rfl rfl rfl (by simp) (fun _ => nodeRightC_c c ad cap hlen hr) (by simp) (.inl rfl) ?_
  rintro e cs F1 _ ⟨rfl, rfl⟩
  cases hc : cfgB c
  · exact endR_ok [] rfl rfl ⟨rfl, rfl⟩ rfl (fun _ => ⟨rfl, rfl⟩) (by simp)
  have hs : shapeB c.n c.l c.s = true := by simp only [cfgB, Bool.and_eq_true] at hc; exact hc.1.1.1.1.1.1.1
  refine ojs_call [] [] rfl rfl rfl rfl rfl rfl rfl (by simp) (fun _ => scriptRight_c c ad cap a hs hw) (by simp) (.inl rfl) ?_
  rintro e cs F1 _ ⟨rfl, rfl⟩
  cases actB c.n c.l c.s a
  · exact endR_ok [] rfl rfl ⟨rfl, rfl⟩ rfl (fun _ => ⟨rfl, rfl⟩) (by simp)
  · exact endR_ok [] rfl rfl ⟨rfl, rfl⟩ rfl (fun _ => ⟨rfl, rfl⟩) (by simp)

end Go.Proofs.YthnkjgffahkecaaGreat
