/- Acts, by the symbolic run: their bytes. -/
import Derived.Test.YthnkjgffahkecaaGreatScJ
namespace Go.Proofs.YthnkjgffahkecaaGreat
open Go.RowKit Go.Shelf

theorem actL_len (a : Ac) : (actL a).length = 14 := rfl
def byE (z : Int) : List Value := [.int .u8 z]
theorem byE_len (z : Int) : (byE z).length = 1 := rfl
def w8 (z : Int) : Int := IntKind.u8.wrap z
/-- An act's bytes. -/
def rawP (ms : List As) (a : Ac) : List Int := ms.map fun m => w8 (m.get a - m.lo)
def rawA (n l s : Int) (a : Ac) : List Int := w8 (a.kind - 1) :: rawP (namedS n l s a.kind a.ask.kind) a
def rawX (c : Cfg) (la : List Ac) : List Int × Int := bif cfgB c then (bif la.all (actB c.n c.l c.s) then (la.flatMap (rawA c.n c.l c.s), 0) else ([], 350)) else ([], 2)
def rawR (x : List Int × Int) : OutT := fun e _ F1 => ∃ a c, e = .returned (.tuple #[.slice a x.1.length c, .int .i64 x.2]) ∧ F1 = [slF byE 1 (.slice a x.1.length c) x.1]
theorem rawP_len {n l s : Int} {a : Ac} : (rawA n l s a).length ≤ 7 := by
  have h : (namedS n l s a.kind a.ask.kind).length ≤ 6 := by
    unfold namedS asksS
    repeat' split
    all_goals (simp [tickS])
  simp [rawA, rawP]
  omega
theorem flat_le {la : List Ac} {n l s : Int} : (la.flatMap (rawA n l s)).length ≤ 7 * la.length := by
  induction la with
  | nil => simp
  | cons a la ih =>
    have := rawP_len (n := n) (l := l) (s := s) (a := a)
    rw [List.flatMap_cons, List.length_append, List.length_cons]
    omega
theorem flat_byE (xs : List Int) : xs.flatMap byE = xs.map fun z => Value.int .u8 z := by
  induction xs with
  | nil => rfl
  | cons x xs ih => rw [List.flatMap_cons, ih]; rfl
/-- A slice of bytes of the call's own. -/
abbrev ownB (a : Option Addr) (c : Nat) (xs : List Int) : LC := .own (.slice a xs.length c) 5 1 xs.length (xs.flatMap byE)
theorem ownB_snoc (a : Option Addr) (c : Nat) (xs : List Int) (z : Int) : (LC.own (.slice a (xs.length + 1) c) 5 1 (xs.length + 1) (xs.flatMap byE ++ [.int .u8 z])) = ownB a c (xs ++ [z]) := by
  have e : (xs ++ [z]).flatMap byE = xs.flatMap byE ++ [.int .u8 z] := by rw [List.flatMap_append]; rfl
  unfold ownB
  rw [e, List.length_append]
  rfl
def AcOk2 (a : Ac) : Prop := (-9223372036854775808 ≤ a.ask.chg ∧ a.ask.chg ≤ 9223372036854775807) ∧ (-9223372036854775808 ≤ a.kind ∧ a.kind ≤ 9223372036854775807)
theorem actB_kind {n l s : Int} {a : Ac} (h : actB n l s a = true) : 1 ≤ a.kind ∧ a.kind ≤ 8 := by
  unfold actB at h
  simp only [Bool.and_eq_true] at h
  exact inB_iff.1 h.1.1
theorem runA_in {ms : List As} : ∀ {a x : Ac}, okA (runA ms a x) a = true → ∀ m ∈ ms, m.lo ≤ m.get a ∧ m.get a ≤ m.hi := by
  induction ms with
  | nil => intro a x _ m hm; cases hm
  | cons m r ih =>
    intro a x h m' hm
    simp only [runA] at h
    cases ho : outBd (m.get a, m.lo, m.hi)
    · rw [ho] at h
      rcases List.mem_cons.1 hm with rfl | hm
      · have := outBd_no (m'.get a) m'.lo m'.hi
        rw [ho] at this
        simpa using this.symm
      · exact ih h m' hm
    · rw [ho] at h; cases h
theorem all_take {p : Ac → Bool} {la : List Ac} {k : Nat} {a : Ac} (h : (la.take k).all p = true) (ha : la[k]? = some a) (hp : p a = true) : (la.take (k + 1)).all p = true := by
  rw [take_snoc ha, List.all_append, h]
  simp [hp]
set_option maxHeartbeats 2000000 in
theorem scriptRaw_c (c : Cfg) (ad : Option Addr) (cap : Nat) (al : Option Addr) (capl : Nat) (la : List Ac) (hlen : c.fs.length ≤ 1099511627776) (hr : -9223372036854775808 ≤ c.ret) (hla : la.length ≤ 1000) (hw : ∀ a ∈ la, AcOk2 a) :
    Cm Tryz.prog 9 [.agg (cfgL c ad cap).toArray, .slice al la.length capl] [] [slF frmL 4 (.slice ad c.fs.length cap) c.fs, slF actL 14 (.slice al la.length capl) la] (rawR (rawX c la)) := by
  refine cm_of (tab := tb) (ok := tbOk) [.g [.v (.int .i64 c.n), .v (.int .i64 c.l), .v (.int .i64 c.s), .v (.slice ad c.fs.length cap), .v (.int .i64 c.lim), .v (.int .i64 c.ret), .v (.int .i64 c.far), .v (.int .i64 c.sus), .v (.int .i64 c.apt)], .o (.v (.slice al la.length capl))] Tryz.func9 Tryz.ntmps9 rfl rfl (fun _ _ => rfl) ?_
  intro w0 A0
  have nil0 : ∀ e : Int, ∀ A w, (∀ f ∈ ([] : List Fact), f.h A w) → ∀ f ∈ [slF byE 1 (.slice none 0 0) []], f.h A w := fun e A w _ f hf => by cases List.mem_singleton.1 hf; exact slF_nilE
  refine ojs_call [] [] rfl rfl rfl rfl rfl rfl rfl (by simp) (fun _ => nodeRightC_c c ad cap hlen hr) (by simp) (.inl rfl) ?_
  rintro e cs F1 _ ⟨rfl, rfl⟩
  cases hc : cfgB c
  · refine endR_facts [slF byE 1 (.slice none 0 0) []] (fun A w _ f hf => by cases List.mem_singleton.1 hf; exact slF_nilE) ?_
    exact endR_ok [slF byE 1 (.slice none 0 0) []] rfl rfl ⟨rfl, rfl⟩ rfl (fun _ => ⟨none, 0, by rw [rawX, hc]; rfl, by rw [rawX, hc]; rfl⟩) (by simp)
  have hs : shapeB c.n c.l c.s = true := by simp only [cfgB, Bool.and_eq_true] at hc; exact hc.1.1.1.1.1.1.1
  have hs2 := shapeB_is hs
  refine cjs_weak (wk_own 5 1) ?_
  refine cjs_loopP (γ := Nat × Option Addr × Nat × List Int) (fun g => g.1 ≤ la.length ∧ (la.take g.1).all (actB c.n c.l c.s) = true ∧ g.2.2.2 = (la.take g.1).flatMap (rawA c.n c.l c.s)) (fun g => [(17, .o (.v (.int .i64 g.1))), (4, .o (.v (.slice g.2.1 g.2.2.2.length g.2.2.1))), (5, .o (.v (.int .i64 0)))]) (fun g => [(1, ownB g.2.1 g.2.2.1 g.2.2.2)]) (fun _ => []) (fun g => la.length - g.1) (0, none, 0, []) ⟨Nat.zero_le _, by simp, by simp⟩ (wk_patch (by repeat' (first | exact trivial | exact Or.inl rfl | refine Or.inr ⟨?_, ?_⟩ | rfl | refine ⟨?_, ?_⟩ | exact lt_all_v)) (by repeat' (first | exact trivial | exact Or.inl rfl | refine Or.inr ⟨?_, ?_⟩ | rfl | refine ⟨?_, ?_⟩ | exact lt_all_v)) (fun f hf => hf) (by simp) D_nil) ?_
  rintro ⟨k, a1, c1, xs⟩ ⟨hk, hall, hxs⟩
  simp only at hk hall hxs
  have hxl : xs.length ≤ 7000 := by rw [hxs]; have := flat_le (la := la.take k) (n := c.n) (l := c.l) (s := c.s); rw [List.length_take] at this; omega
  refine brB_dec (fun g1 => ?_) (fun g1 => ?_)
  rotate_left
  · have hkl : k = la.length := by dsimp only at g1; omega
    rw [hkl, List.take_length] at hall hxs
    refine endR_weak (wk_seal (j := 1) (enc := byE) (xs := xs) (.inl rfl) byE_len rfl rfl) ?_
    refine endR_ok [slF byE 1 (.slice a1 xs.length c1) xs] rfl rfl ⟨rfl, rfl⟩ rfl (fun _ => ?_) (by simp)
    have : rawX c la = (xs, 0) := by rw [rawX, hc, hall, hxs]; rfl
    rw [this]
    exact ⟨a1, c1, rfl, rfl⟩
  have hkl : k < la.length := by dsimp only at g1; omega
  obtain ⟨a, ha⟩ := at_some (xs := la) (k := k) hkl
  have hwa := hw a (List.mem_of_getElem? ha)
  refine ojs_fact (slF actL 14 (.slice al la.length capl) la) (by simp) (slF_neE ha) ?_
  rintro ⟨b, off, rfl⟩
  refine ojs_index rfl hkl rfl rfl rfl rfl ?_
  refine ojs_loadN (vs := actL a) (slF actL 14 (.slice (some ⟨b, off, none⟩) la.length capl) la) (by simp) (slF_atN ha) rfl rfl rfl ?_
  refine ojs_call [] [] rfl rfl rfl rfl rfl rfl rfl (by simp) (fun _ => scriptCheck_c c ad cap a hlen hr hwa.1) (by simp) (.inl rfl) ?_
  rintro e cs F1 _ ⟨rfl, rfl⟩
  rw [hc]
  cases hb : actB c.n c.l c.s a
  · refine endR_facts [slF byE 1 (.slice none 0 0) []] (fun A w _ f hf => by cases List.mem_singleton.1 hf; exact slF_nilE) ?_
    refine endR_ok [slF byE 1 (.slice none 0 0) []] rfl rfl ⟨rfl, rfl⟩ rfl (fun _ => ?_) (by simp)
    have : la.all (actB c.n c.l c.s) = false := List.all_eq_false.2 ⟨a, List.mem_of_getElem? ha, by simp [hb]⟩
    have : rawX c la = ([], 350) := by rw [rawX, hc, this]; rfl
    rw [this]
    exact ⟨none, 0, rfl, rfl⟩
  have hkd := actB_kind hb
  refine ojs_arith (z := a.kind - 1) (by rw [wrap_in] <;> omega) rfl rfl rfl rfl ?_
  refine ojs_yd (yd_conv (r := w8 (a.kind - 1)) (by kernel_rfl) (by kernel_rfl) rfl rfl rfl) rfl ?_
  refine ojs_append 1 rfl rfl rfl rfl rfl rfl rfl rfl rfl (by decide) rfl rfl rfl (srcL (news := [.int .u8 (w8 (a.kind - 1))]) rfl rfl) rfl (by simp [Value.oneCell']) (by dsimp only; omega) (by simp only [maxLen]; omega) ?_
  intro a2 c2
  rw [ownB_snoc]
  obtain ⟨xs1, hx1⟩ : ∃ ys, ys = xs ++ [w8 (a.kind - 1)] := ⟨_, rfl⟩
  have hx1l : xs1.length = xs.length + 1 := by rw [hx1]; simp
  rw [← hx1, ← hx1l]
  refine ojs_call [] [] rfl rfl rfl rfl rfl rfl rfl (by simp) (fun _ => named_o c.n c.l c.s a.kind a.ask.kind (by omega) (by omega)) (by simp) (.inl rfl) ?_
  rintro e cs F1 _ ⟨b0, b1, a3, c3, rfl, rfl⟩
  have hal := namedP_ok (n := c.n) (l := c.l) (s := c.s) (by omega) a.kind a.ask.kind b0 b1
  have hlen6 := namedP_len (n := c.n) (l := c.l) (s := c.s) (k := a.kind) (q := a.ask.kind) (b0 := b0) (b1 := b1)
  have hin : ∀ m ∈ namedS c.n c.l c.s a.kind a.ask.kind, m.lo ≤ m.get a ∧ m.get a ≤ m.hi := by
    have hb2 := hb
    unfold actB at hb2
    simp only [Bool.and_eq_true] at hb2
    exact runA_in hb2.2
  have hrw : rawA c.n c.l c.s a = w8 (a.kind - 1) :: rawP (namedS c.n c.l c.s a.kind a.ask.kind) a := rfl
  generalize namedP c.n c.l c.s a.kind a.ask.kind b0 b1 = ps at hal hlen6 ⊢
  generalize namedS c.n c.l c.s a.kind a.ask.kind = ms at hal hin hrw
  have hl := hal.len
  refine cjs_loopP (γ := Nat × Option Addr × Nat × List Int) (fun g => g.1 ≤ ps.length ∧ g.2.2.2 = xs1 ++ rawP (ms.take g.1) a) (fun g => [(43, .o (.v (.int .i64 g.1))), (4, .o (.v (.slice g.2.1 g.2.2.2.length g.2.2.1)))]) (fun g => [(1, ownB g.2.1 g.2.2.1 g.2.2.2)]) (fun _ => []) (fun g => ps.length - g.1) (0, a2, c2, xs1) ⟨Nat.zero_le _, by simp [rawP]⟩ (wk_patch (by repeat' (first | exact trivial | exact Or.inl rfl | refine Or.inr ⟨?_, ?_⟩ | rfl | refine ⟨?_, ?_⟩ | exact lt_all_v)) (by repeat' (first | exact trivial | exact Or.inl rfl | refine Or.inr ⟨?_, ?_⟩ | rfl | refine ⟨?_, ?_⟩ | exact lt_all_v)) (fun f hf => hf) (by simp) D_nil) ?_
  rintro ⟨i, a4, c4, ys⟩ ⟨hi, hys⟩
  simp only at hi hys
  have hyl : ys.length ≤ 7010 := by rw [hys]; simp [rawP]; omega
  refine brB_dec (fun g2 => ?_) (fun g2 => ?_)
  rotate_left
  · have hil : i = ps.length := by dsimp only at g2; omega
    rw [List.take_of_length_le (by omega)] at hys
    refine ojs_arith (z := ((k + 1 : Nat) : Int)) (by first | decide | (rw [wrap_in] <;> omega) | (dsimp only; rw [wrap_in] <;> omega)) rfl rfl rfl rfl ?_
    refine ⟨(k + 1, a4, c4, ys), ⟨hkl, all_take hall ha hb, ?_⟩, (by first | omega | (dsimp only; omega)), wk_patch (by repeat' (first | exact trivial | exact Or.inl rfl | refine Or.inr ⟨?_, ?_⟩ | rfl | refine ⟨?_, ?_⟩ | exact lt_all_v)) (by repeat' (first | exact trivial | exact Or.inl rfl | refine Or.inr ⟨?_, ?_⟩ | rfl | refine ⟨?_, ?_⟩ | exact lt_all_v)) (by simp) (by simp) D_nil⟩
    dsimp only
    rw [take_snoc ha, List.flatMap_append, ← hxs, hys, hx1, List.append_assoc]
    simp [hrw]
  have hil : i < ps.length := by dsimp only at g2; omega
  obtain ⟨p, hp⟩ := at_some (xs := ps) (k := i) hil
  obtain ⟨m, hm, e1, e2, hbd, g, cg, h, ch, e3, e4, hg, hh, hget, hput⟩ := hal.at hp
  obtain ⟨p1, p2, p3, p4⟩ := p
  simp only at e1 e2 e3 e4
  subst e1 e2 e3 e4
  have hmin := hin m (List.mem_of_getElem? hm)
  refine ojs_fact (slF encPt 4 (.slice a3 ps.length c3) ps) (by simp) (slF_neE hp) ?_
  rintro ⟨b', off', rfl⟩
  refine ojs_index rfl hil rfl rfl rfl rfl ?_
  refine ojs_loadN (vs := encPt (m.lo, m.hi, .func (.func g) #[] cg.toArray, .func (.func h) #[] ch.toArray)) (slF encPt 4 (.slice (some ⟨b', off', none⟩) ps.length c3) ps) (by simp) (slF_atN hp) rfl rfl rfl ?_
  have hget2 : ∀ ρ : Nm, Cm Tryz.prog g (argV ρ [] [TV.g [.v (.int .i64 a.kind), .v (.int .i64 a.node), .v (.int .i64 a.at_), .v (.int .i64 a.num), .v (.int .i64 a.ask.kind), .v (.int .i64 a.ask.lock), .v (.int .i64 a.ask.mode), .v (.int .i64 a.ask.prio), .v (.int .i64 a.ask.ticks), .v (.int .i64 a.ask.slot), .v (.int .i64 a.ask.use), .v (.int .i64 a.ask.chg), .v (.int .i64 a.k0), .v (.int .i64 a.k1)]] (cg.map PV.v)) [] (boxF b0 b1) (rets (.int .i64 (m.get a))) := fun ρ => by
    have e : argV ρ [] [TV.g [.v (.int .i64 a.kind), .v (.int .i64 a.node), .v (.int .i64 a.at_), .v (.int .i64 a.num), .v (.int .i64 a.ask.kind), .v (.int .i64 a.ask.lock), .v (.int .i64 a.ask.mode), .v (.int .i64 a.ask.prio), .v (.int .i64 a.ask.ticks), .v (.int .i64 a.ask.slot), .v (.int .i64 a.ask.use), .v (.int .i64 a.ask.chg), .v (.int .i64 a.k0), .v (.int .i64 a.k1)]] (cg.map PV.v) = .agg (actL a).toArray :: cg := by first | (simp [argV, List.map_map, Function.comp_def, PV.den, TV.den, SV.den, denL]; done) | (simp [argV, List.map_map, Function.comp_def, PV.den, TV.den, SV.den, denL]; rfl)
    rw [e]; exact hget a hwa.1.2
  generalize hz : m.get a = z at hget2 hmin
  refine cjs_drawn [4, 8, 9, 10] (.op 0 <| .op 1 <| .op 2 <| .op 3 <| .op 5 <| .op 6 <| .op 4 <| .op 7 <| .op 8 <| .op 9 <| .op 10 <| .op 11 .z) [2, 4] [] [] [] (by kernel_rfl) (by kernel_rfl) rfl (by simp) (by simp) ?_
  intro N
  refine ojs_call [] [] rfl rfl rfl rfl hg rfl rfl (by simp) (fun ρ => hget2 ρ) (by simp [boxF]) (.inl rfl) ?_
  rintro e cs F1 _ ⟨rfl, rfl⟩
  refine ⟨⟨(by repeat' (first | exact trivial | refine ⟨Or.inl rfl, ?_⟩ | refine ⟨Or.inr ⟨rfl, Nat.le_of_ble_eq_true rfl, _, rfl, rfl, rfl⟩, ?_⟩)), by simp⟩, ?_⟩
  refine ⟨_, yd_arith (z := z - m.lo) (by rw [wrap_in] <;> omega) rfl rfl rfl rfl, ?_⟩
  refine ojs_yd (yd_conv (r := w8 (z - m.lo)) (by kernel_rfl) (by kernel_rfl) rfl rfl rfl) rfl ?_
  refine ⟨⟨(by repeat' (first | exact trivial | refine ⟨Or.inl rfl, ?_⟩ | refine ⟨Or.inr ⟨rfl, Nat.le_of_ble_eq_true rfl, _, rfl, rfl, rfl⟩, ?_⟩)), by simp⟩, ?_⟩
  refine ⟨⟨(by repeat' (first | exact trivial | refine ⟨Or.inl rfl, ?_⟩ | refine ⟨Or.inr ⟨rfl, Nat.le_of_ble_eq_true rfl, _, rfl, rfl, rfl⟩, ?_⟩)), by simp⟩, ?_⟩
  refine ojs_append 1 rfl rfl rfl rfl rfl rfl rfl rfl rfl (by decide) rfl rfl rfl (srcL (news := [.int .u8 (w8 (z - m.lo))]) rfl rfl) rfl (by simp [Value.oneCell']) (by dsimp only; omega) (by simp only [maxLen]; omega) ?_
  intro a5 c5
  rw [ownB_snoc]
  refine ⟨⟨(by repeat' (first | exact trivial | refine ⟨Or.inl rfl, ?_⟩ | refine ⟨Or.inr ⟨rfl, Nat.le_of_ble_eq_true rfl, _, rfl, rfl, rfl⟩, ?_⟩)), by simp⟩, ?_⟩
  refine ojs_arith (z := ((i + 1 : Nat) : Int)) (by first | decide | (rw [wrap_in] <;> omega) | (dsimp only; rw [wrap_in] <;> omega)) rfl rfl rfl rfl ?_
  refine ⟨(i + 1, a5, c5, ys ++ [w8 (z - m.lo)]), ⟨hil, ?_⟩, (by first | omega | (dsimp only; omega)), ?_⟩
  · dsimp only
    rw [take_snoc hm, hys, ← hz]
    simp [rawP]
  · dsimp only
    rw [List.length_append]
    exact wk_patch (by repeat' (first | exact trivial | exact Or.inl rfl | refine Or.inr ⟨?_, ?_⟩ | rfl | refine ⟨?_, ?_⟩ | exact lt_all_v)) (by repeat' (first | exact trivial | exact Or.inl rfl | refine Or.inr ⟨?_, ?_⟩ | rfl | refine ⟨?_, ?_⟩ | exact lt_all_v)) (by simp) (by simp) D_nil

end Go.Proofs.YthnkjgffahkecaaGreat
