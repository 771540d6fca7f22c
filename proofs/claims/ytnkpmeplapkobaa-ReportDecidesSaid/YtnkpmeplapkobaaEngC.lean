/- A symbolic run of straight code: the operations that yield a value. No program is in sight. -/
import Derived.Test.YtnkpmeplapkobaaEngB
import Derived.Laws.CopyRow
namespace Go.Proofs.Ytnkpmeplapkobaa
open Go.RowKit Go.Shelf

theorem tyK_spec {P : Program} {t : Nat} {k : Option Nat} (h : tyK P t = some k) : ∃ d i, P.underlying t = some d ∧ P.info? t = some i ∧ i.size = k.getD 1 ∧ ∀ w, (isAgg t).run P w = .ok k.isSome w := by
  unfold tyK at h
  split at h
  · rename_i d i hd hi
    refine ⟨d, i, hd, hi, ?_⟩
    split at h
    · cases h; exact ⟨rfl, fun w => by simp [isAgg, run_underlying hd]⟩
    · cases h; exact ⟨rfl, fun w => by simp [isAgg, run_underlying hd]⟩
    · rename_i h1 h2
      split at h
      · rename_i hs
        cases h
        refine ⟨hs, fun w => ?_⟩
        simp only [isAgg, Sem.run_bind, run_underlying hd, Result.andThen_ok]
        cases d <;> first | rfl | exact absurd rfl (h1 _) | exact absurd rfl (h2 _ _)
      · cases h
  · cases h

/-- A part of some cells: one cell, or so many from o on. -/
def partV (kd : Option Nat) (cs : List Value) (o : Nat) : Option Value :=
  match kd with
  | none => cs[o]?
  | some m => if o + m ≤ cs.length then some (.agg ((cs.drop o).take m).toArray) else none
theorem cell_of_list {w : World} {b o : Nat} {cs : List Value} {ty : TypeId} {fr : Nat × Nat} (h : w.heap[b]? = some (.cells cs.toArray ty fr)) : w.cell? ⟨b, o, none⟩ = cs[o]? := by
  simp [World.cell?, h]
theorem run_loadVar_part {P : Program} {t : Nat} {kd : Option Nat} (hk : tyK P t = some kd) {w : World} {b o : Nat} {cs : List Value} {ty : TypeId} {fr : Nat × Nat} (h : w.heap[b]? = some (.cells cs.toArray ty fr)) {v : Value} (hv : partV kd cs o = some v) :
    (loadVar t ⟨b, o, none⟩).run P w = .ok v w := by
  obtain ⟨d, i, hd, hi, hs, ha⟩ := tyK_spec hk
  cases kd with
  | none =>
    have hc := cell_of_list (o := o) h
    simp only [partV] at hv
    simp only [loadVar, Sem.run_bind, ha, Result.andThen_ok, Option.isSome_none, Bool.false_eq_true, if_false, run_load, hc, hv]
  | some m =>
    simp only [partV] at hv
    split at hv
    · rename_i hm
      cases hv
      have hl : ((cs.drop o).take m).length = m := by simp; omega
      have := run_loadCells_list (P := P) w ⟨b, o, none⟩ ((cs.drop o).take m) (fun j v hj => by
        rw [show (⟨b, o, none⟩ : Addr).add j = ⟨b, o + j, none⟩ by unfold Addr.add; split <;> simp_all, cell_of_list h]
        rw [List.getElem?_take] at hj
        split at hj
        · simpa using hj
        · cases hj)
      rw [hl] at this
      simp only [Option.getD_some] at hs
      simp only [loadVar, Sem.run_bind, ha, Result.andThen_ok, Option.isSome_some, if_true, sizeOf, typeInfo, run_program, hi, Sem.run_pure, hs, this]
    · cases hv
def partS (kd : Option Nat) (cs : List SV) (o : Nat) : Option TV :=
  match kd with
  | none => match cs[o]? with | some x => some (.o x) | none => none
  | some m => bif Nat.ble (o + m) cs.length then some (.g ((cs.drop o).take m)) else none
theorem partS_den {kd : Option Nat} {cs : List SV} {o : Nat} {u : TV} (h : partS kd cs o = some u) (ρ : Nm) : partV kd (denL ρ cs) o = some (u.den ρ) := by
  cases kd with
  | none =>
    simp only [partS] at h
    split at h
    · rename_i x hx
      cases h
      simp [partV, denL, hx, TV.den]
    · cases h
  | some m =>
    simp only [partS, cond_eq_ite] at h
    split at h
    · rename_i hm
      cases h
      rw [Nat.ble_eq] at hm
      simp [partV, denL, hm, TV.den, List.map_take, List.map_drop]
    · cases h

def pvS : TV → Option PV
  | .o (.v x) => some (.v x)
  | .o (.p k o) => some (.p k o)
  | _ => none
theorem pvS_den {u : TV} {p : PV} (h : pvS u = some p) (ρ : Nm) : u.den ρ = p.den ρ := by
  unfold pvS at h
  split at h <;> cases h <;> rfl
def pvL (T : TE) : List Operand → Option (List PV)
  | [] => some []
  | x :: r => match evS T x with
    | some u => match pvS u with
      | some p => match pvL T r with
        | some ps => some (p :: ps)
        | none => none
      | none => none
    | none => none
theorem pvL_den {T : TE} {L : LE} {F : List Fact} {A : Nat → Prop} {ρ : Nm} {a : Act} {w : World} (h : Vw T L F A ρ a w) : ∀ {l : List Operand} {ps : List PV}, pvL T l = some ps → l.map a.eval = ps.map (PV.den ρ)
  | [], _, h2 => by cases h2; rfl
  | x :: r, ps, h2 => by
    unfold pvL at h2
    split at h2
    · rename_i u hu
      split at h2
      · rename_i p hp
        split at h2
        · rename_i qs hq
          cases h2
          rw [List.map_cons, List.map_cons, h.ev hu, pvS_den hp, pvL_den h hq]
        · cases h2
      · cases h2
    · cases h2
def ikN : IntKind → Nat
  | .i8 => 0 | .i16 => 1 | .i32 => 2 | .i64 => 3 | .u8 => 4 | .u16 => 5 | .u32 => 6 | .u64 => 7
theorem ikN_inj {a b : IntKind} (h : ikN a = ikN b) : a = b := by cases a <;> cases b <;> first | rfl | (simp [ikN] at h)
def cmpS (op : BinOp) (a b : Int) : Option Bool :=
  match op with
  | .eql => some (a == b)
  | .neq => some (a != b)
  | .lss => some (decide (a < b))
  | .leq => some (decide (a ≤ b))
  | .gtr => some (decide (b < a))
  | .geq => some (decide (b ≤ a))
  | _ => none
theorem cmpS_run {P : Program} {op : BinOp} {k : IntKind} {a b : Int} {c : Bool} (h : cmpS op a b = some c) (t : TypeId) (w : World) : (binOp op t (.int k a) (.int k b)).run P w = .ok (.bool c) w := by
  unfold cmpS at h
  split at h <;> cases h <;> simp [binOp, Op.intCmp]
def addrS (off : Nat) : TV → Option TV
  | .o (.p k o) => some (.o (.p k (o + off)))
  | .o (.v (.pointer (some ⟨b, o, none⟩))) => some (.o (.v (.pointer (some ⟨b, o + off, none⟩))))
  | _ => none
def lenS : TV → Option TV
  | .o (.v (.slice _ n _)) => some (.o (.v (.int .i64 (n : Int))))
  | .o (.s _ _ n _) => some (.o (.v (.int .i64 (n : Int))))
  | _ => none
def extS (u : TV) (i : Nat) : Option TV :=
  match u with
  | .t xs => match xs[i]? with | some x => some (.o x) | none => none
  | .o (.v (.tuple vs)) => match vs.toList[i]? with | some x => some (.o (.v x)) | none => none
  | _ => none
def valF (tab : Tab) (op : Op) (T : TE) (L : LE) : Option TV :=
  match op with
  | .move x => evS T x
  | .assign x => evS T x
  | .unOp .not _ x => match evS T x with
    | some (.o (.v (.bool b))) => some (.o (.v (.bool (!b))))
    | _ => none
  | .binOp op _ x y _ => match evS T x, evS T y with
    | some (.o (.v (.int k a))), some (.o (.v (.int k' b))) => bif Nat.beq (ikN k) (ikN k') then (match cmpS op a b with | some c => some (.o (.v (.bool c))) | none => none) else none
    | _, _ => none
  | .extract x i => match evS T x with
    | some u => extS u i
    | none => none
  | .makeFunc fn fi ca => match pvL T fi.toList, pvL T ca.toList with
    | some a, some b => some (.o (.f fn a b))
    | _, _ => none
  | .nilCheck x => match evS T x with
    | some (.o (.p k o)) => some (.o (.p k o))
    | some (.o (.v (.pointer (some a)))) => some (.o (.v (.pointer (some a))))
    | some (.o (.f (.func g) a b)) => some (.o (.f (.func g) a b))
    | _ => none
  | .fieldAddr s x f => match alook tab.fd s with
    | some fs => match fs[f]? with
      | some p => match evS T x with
        | some u => addrS p.1 u
        | none => none
      | none => none
    | none => none
  | .field s x f => match alook tab.fd s with
    | some fs => match fs[f]? with
      | some p => match alook tab.kd p.2 with
        | some kd => match evS T x with
          | some (.g xs) => partS kd xs p.1
          | some (.o (.v (.agg cs))) => partS kd (cs.toList.map SV.v) p.1
          | _ => none
        | none => none
      | none => none
    | none => none
  | .load t x => match alook tab.kd t with
    | some kd => match evS T x with
      | some (.o (.p k o)) => match alook L k with
        | some (.c cells _) => partS kd cells o
        | _ => none
      | _ => none
    | none => none
  | .call c => match c.callee with
    | .builtin .len => match c.args.toList, c.argTypes.toList with
      | [x], [t] => match alook tab.el t with
        | some _ => match evS T x with
          | some u => lenS u
          | none => none
        | none => none
      | _, _ => none
    | _ => none
  | _ => none

theorem addr_add (b o n : Nat) : (⟨b, o, none⟩ : Addr).add n = ⟨b, o + n, none⟩ := by unfold Addr.add; split <;> simp_all
theorem tyF_spec {P : Program} {s : Nat} {fs : List (Nat × Nat)} (h : tyF P s = some fs) {f : Nat} {p : Nat × Nat} (hf : fs[f]? = some p) : ∃ fl : Array Field, P.underlying s = some (.struct fl) ∧ ∃ fd, fl[f]? = some fd ∧ fd.offset = p.1 ∧ fd.type = p.2 ∧ ∃ i, P.info? fd.type = some i ∧ i.size ≠ 0 := by
  unfold tyF at h
  split at h
  · rename_i fl hfl
    split at h
    · rename_i hall
      cases h
      simp only [List.getElem?_map, Option.map_eq_some_iff] at hf
      obtain ⟨fd, hfd, rfl⟩ := hf
      have h1 := List.all_eq_true.1 hall fd (List.mem_of_getElem? hfd)
      obtain ⟨i, hi, hi2⟩ := (Option.any_eq_true _ _).1 h1
      exact ⟨fl, hfl, fd, by simpa using hfd, rfl, rfl, i, by simpa using hi, by simpa using hi2⟩
    · cases h
  · cases h
theorem map_v_den (ρ : Nm) (cs : Array Value) : denL ρ (cs.toList.map SV.v) = cs.toList := by
  simp [denL, List.map_map, Function.comp_def, SV.den]
theorem run_part {P : Program} {t : Nat} {kd : Option Nat} (hk : tyK P t = some kd) {cs : List Value} {o : Nat} {v : Value} (hv : partV kd cs o = some v) (w : World) : (part t cs.toArray o).run P w = .ok v w := by
  obtain ⟨d, i, hd, hi, hs, ha⟩ := tyK_spec hk
  cases kd with
  | none =>
    simp only [partV] at hv
    simp [part, ha, hv]
  | some m =>
    simp only [partV] at hv
    split at hv
    · rename_i hm
      cases hv
      simp only [Option.getD_some] at hs
      simp only [part, Sem.run_bind, ha, Result.andThen_ok, Option.isSome_some, if_true, sizeOf, typeInfo, run_program, hi, Sem.run_pure, hs, List.extract_toArray]
      congr 3
      rw [List.extract_eq_take_drop]
      congr 2
      omega
    · cases hv

theorem valF_yd {X : Fx} {o : Oper} {T : TE} {L : LE} {F : List Fact} {u : TV} (h : valF X.tab o.op T L = some u) : Yd X o T L F u := by
  unfold valF at h
  split at h
  case h_1 x ho =>
    exact ⟨by simp [noDef, ho], fun A ρ a w h0 => by simp [execOp, ho, h0.ev h]⟩
  case h_2 x ho =>
    exact ⟨by simp [noDef, ho], fun A ρ a w h0 => by simp [execOp, ho, h0.ev h]⟩
  case h_3 t x ho =>
    split at h
    · rename_i b hx
      cases h
      exact ⟨by simp [noDef, ho], fun A ρ a w h0 => by simp [execOp, ho, h0.ev hx, Op.unary, TV.den, SV.den]⟩
    · cases h
  case h_4 op t x y t2 ho =>
    split at h
    · rename_i k a' k' b' hx hy
      rw [cond_eq_ite] at h
      split at h
      · rename_i hk
        have hk := ikN_inj (Nat.eq_of_beq_eq_true hk)
        subst hk
        split at h
        · rename_i c hc
          cases h
          refine ⟨by simp [noDef, ho], fun A ρ a w h0 => ?_⟩
          have e1 := h0.ev hx
          have e2 := h0.ev hy
          simp only [TV.den, SV.den] at e1 e2
          have hgd : (eqGuard op t x y (.int k a') (.int k b')).run X.P w = .ok () w := by
            unfold eqGuard
            cases op <;> simp
          simp only [execOp, ho, e1, e2, Sem.run_bind, hgd, Result.andThen_ok, cmpS_run hc, Sem.run_pure, TV.den, SV.den]
        · cases h
      · cases h
    · cases h
  case h_5 x i ho =>
    split at h
    · rename_i v hv
      unfold extS at h
      split at h
      · split at h
        · rename_i xs y hy
          cases h
          exact ⟨by simp [noDef, ho], fun A ρ a w h0 => by simp [execOp, ho, h0.ev hv, Instr.extract, TV.den, denL, hy]⟩
        · cases h
      · rename_i vs
        split at h
        · rename_i y hy
          cases h
          have hy2 : vs[i]? = some y := by simpa using hy
          exact ⟨by simp [noDef, ho], fun A ρ a w h0 => by simp [execOp, ho, h0.ev hv, Instr.extract, TV.den, SV.den, hy2]⟩
        · cases h
      · cases h
    · cases h
  case h_6 fn fi ca ho =>
    split at h
    · rename_i p q hp hq
      cases h
      refine ⟨by simp [noDef, ho], fun A ρ a w h0 => ?_⟩
      have e1 := pvL_den h0 hp
      have e2 := pvL_den h0 hq
      have f1 : fi.map a.eval = (p.map (PV.den ρ)).toArray := by apply Array.ext'; rw [Array.toList_map]; exact e1
      have f2 : ca.map a.eval = (q.map (PV.den ρ)).toArray := by apply Array.ext'; rw [Array.toList_map]; exact e2
      simp [execOp, ho, Instr.makeFunc, f1, f2, TV.den, SV.den]
    · cases h
  case h_7 x ho =>
    split at h
    · rename_i k o' hx
      cases h
      exact ⟨by simp [noDef, ho], fun A ρ a w h0 => by simp [execOp, ho, h0.ev hx, TV.den, SV.den]⟩
    · rename_i o' hx
      cases h
      exact ⟨by simp [noDef, ho], fun A ρ a w h0 => by simp [execOp, ho, h0.ev hx, TV.den, SV.den]⟩
    · rename_i g p q hx
      cases h
      exact ⟨by simp [noDef, ho], fun A ρ a w h0 => by simp [execOp, ho, h0.ev hx, TV.den, SV.den]⟩
    · cases h
  case h_8 s x f ho =>
    split at h
    · rename_i fs hfs
      split at h
      · rename_i p hp
        split at h
        · rename_i v hv
          obtain ⟨fl, h1, fd, h2, h3, h4, i, h5, h6⟩ := tyF_spec (X.ok.fd _ _ hfs) hp
          refine ⟨by simp [noDef, ho], fun A ρ a w h0 => ?_⟩
          unfold addrS at h
          split at h
          · cases h
            simp [execOp, ho, h0.ev hv, Instr.fieldAt, run_underlying h1, h2, TV.den, SV.den, Instr.sureAddr, fieldPlace, sizeOf, typeInfo, h5, h6, addr_add, h3]
          · cases h
            simp [execOp, ho, h0.ev hv, Instr.fieldAt, run_underlying h1, h2, TV.den, SV.den, Instr.sureAddr, fieldPlace, sizeOf, typeInfo, h5, h6, addr_add, h3]
          · cases h
        · cases h
      · cases h
    · cases h
  case h_9 s x f ho =>
    split at h
    · rename_i fs hfs
      split at h
      · rename_i p hp
        split at h
        · rename_i kd hkd
          obtain ⟨fl, h1, fd, h2, h3, h4, i, h5, h6⟩ := tyF_spec (X.ok.fd _ _ hfs) hp
          have hK := X.ok.kd _ _ hkd
          rw [← h4] at hK
          refine ⟨by simp [noDef, ho], fun A ρ a w h0 => ?_⟩
          split at h
          · rename_i xs hx
            have := run_part hK (partS_den h ρ) w
            simp [execOp, ho, h0.ev hx, Instr.field, run_underlying h1, h2, TV.den, asAgg, h3, this]
          · rename_i cs hx
            have := run_part hK (partS_den h ρ) w
            rw [map_v_den] at this
            simp only [Array.toArray_toList] at this
            simp [execOp, ho, h0.ev hx, Instr.field, run_underlying h1, h2, TV.den, SV.den, asAgg, h3, this]
          · cases h
        · cases h
      · cases h
    · cases h
  case h_10 t x ho =>
    split at h
    · rename_i kd hkd
      split at h
      · rename_i k o' hx
        split at h
        · rename_i cells ct hL
          refine ⟨by simp [noDef, ho], fun A ρ a w h0 => ?_⟩
          have := run_loadVar_part (X.ok.kd _ _ hkd) (h0.lo k _ hL) (partS_den h ρ)
          simp [execOp, ho, h0.ev hx, TV.den, SV.den, Instr.loadAt, Instr.sureAddr, this]
        · cases h
      · cases h
    · cases h
  case h_11 c ho =>
    split at h
    · rename_i hc
      split at h
      · rename_i x t hargs htys
        split at h
        · rename_i e he
          split at h
          · rename_i v hv
            have hE := X.ok.el _ _ he
            have hu : ∃ e', X.P.underlying t = some (.slice e') := by
              unfold tyE at hE
              split at hE
              · rename_i e' he'; exact ⟨e', he'⟩
              · cases hE
            obtain ⟨e', he'⟩ := hu
            refine ⟨by simp [noDef, ho], fun A ρ a w h0 => ?_⟩
            have ha1 : c.args = #[x] := Array.ext' hargs
            have ha2 : c.argTypes = #[t] := Array.ext' htys
            unfold lenS at h
            split at h
            · cases h
              simp [execOp, ho, resolve, hc, ha1, ha2, invoke, builtin, Builtin.len_, run_underlying he', h0.ev hv, TV.den, SV.den, goInt]
            · cases h
              simp [execOp, ho, resolve, hc, ha1, ha2, invoke, builtin, Builtin.len_, run_underlying he', h0.ev hv, TV.den, SV.den, goInt]
            · cases h
          · cases h
        · cases h
      · cases h
    · cases h
  case h_12 => cases h

end Go.Proofs.Ytnkpmeplapkobaa
