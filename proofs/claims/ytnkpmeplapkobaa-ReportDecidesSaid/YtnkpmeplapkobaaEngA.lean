/- A symbolic run of straight code: values, local blocks, tables of types. No program is in sight. -/
import Derived.Test.YtnkpmeplapkobaaLibR
namespace Go.Proofs.Ytnkpmeplapkobaa
open Go.RowKit Go.Shelf

/-- Names of the blocks that a call makes. -/
abbrev Nm := Nat → Nat
inductive PV where
  | v (x : Value)
  | p (k o : Nat)
inductive SV where
  | v (x : Value)
  | p (k o : Nat)
  | s (k o l c : Nat)
  | f (fn : Fn) (fi ca : List PV)
inductive TV where
  | o (x : SV)
  | t (xs : List SV)
  | g (xs : List SV)
def PV.den (ρ : Nm) : PV → Value
  | .v x => x
  | .p k o => .pointer (some ⟨ρ k, o, none⟩)
def SV.den (ρ : Nm) : SV → Value
  | .v x => x
  | .p k o => .pointer (some ⟨ρ k, o, none⟩)
  | .s k o l c => .slice (some ⟨ρ k, o, none⟩) l c
  | .f fn fi ca => .func fn (fi.map (PV.den ρ)).toArray (ca.map (PV.den ρ)).toArray
def denL (ρ : Nm) (xs : List SV) : List Value := xs.map (SV.den ρ)
def TV.den (ρ : Nm) : TV → Value
  | .o x => x.den ρ
  | .t xs => .tuple (denL ρ xs).toArray
  | .g xs => .agg (denL ρ xs).toArray
/-- A value of one cell, seen at its head. -/
def SV.one : SV → Bool
  | .v x => x.oneCell'
  | _ => true
theorem SV.one_den {ρ : Nm} {x : SV} (h : x.one = true) : (x.den ρ).oneCell' = true := by
  cases x with
  | v x => exact h
  | _ => rfl
theorem denL_one {ρ : Nm} {xs : List SV} (h : xs.all SV.one = true) : ∀ v ∈ denL ρ xs, v.oneCell' = true := by
  intro v hv
  obtain ⟨x, hx, rfl⟩ := List.mem_map.1 hv
  exact SV.one_den (List.all_eq_true.1 h x hx)
/-- The cells of a value, where they can be seen. -/
def TV.cells : TV → Option (List SV)
  | .g xs => some xs
  | .o (.v (.agg cs)) => some (cs.toList.map SV.v)
  | .o x => bif x.one then some [x] else none
  | .t _ => none
theorem TV.cells_den {ρ : Nm} {x : TV} {xs : List SV} (h : x.cells = some xs) : (x.den ρ).cells = (denL ρ xs).toArray := by
  unfold TV.cells at h
  split at h
  · cases h; rfl
  · cases h
    simp only [TV.den, SV.den, Value.cells, denL, List.map_map]
    simp [Function.comp_def, SV.den]
  · rename_i y hy
    rw [cond_eq_ite] at h
    split at h
    · rename_i h1
      cases h
      have h2 := SV.one_den (ρ := ρ) h1
      simp only [TV.den, denL, List.map_cons, List.map_nil]
      cases he : y.den ρ <;> first | rfl | (rw [he] at h2; simp [Value.oneCell'] at h2)
    · cases h
  · cases h

def alook {α : Type} : List (Nat × α) → Nat → Option α
  | [], _ => none
  | (k, x) :: r, t => bif Nat.beq t k then some x else alook r t
theorem alook_cons {α : Type} (k : Nat) (x : α) (r : List (Nat × α)) (t : Nat) : alook ((k, x) :: r) t = if t = k then some x else alook r t := by
  simp only [alook, cond_eq_ite, Nat.beq_eq]
theorem alook_head {α : Type} (k : Nat) (x : α) (r : List (Nat × α)) : alook ((k, x) :: r) k = some x := by rw [alook_cons, if_pos rfl]
theorem alook_all {α : Type} {p : Nat × α → Bool} : ∀ {l : List (Nat × α)} {t : Nat} {x : α}, l.all p = true → alook l t = some x → p (t, x) = true
  | (k, y) :: r, t, x, h, h2 => by
    simp only [List.all_cons, Bool.and_eq_true] at h
    rw [alook_cons] at h2
    split at h2
    · rename_i e; cases h2; subst e; exact h.1
    · exact alook_all h.2 h2

/-- Tables of what the run asks of types: one cell or how many; fields; zero cells; elements. -/
structure Tab where
  kd : List (Nat × Option Nat)
  fd : List (Nat × List (Nat × Nat))
  ze : List (Nat × List Nat)
  el : List (Nat × (Nat × Nat))
  ar : List (Nat × (Nat × Nat × Nat))
  fn : List (Nat × Unit)
  by_ : List (Nat × Nat)
def tyK (P : Program) (t : Nat) : Option (Option Nat) :=
  match P.underlying t, P.info? t with
  | some d, some i => match d with
    | .struct _ | .array _ _ => some (some i.size)
    | _ => if i.size = 1 then some none else none
  | _, _ => none
def tyF (P : Program) (s : Nat) : Option (List (Nat × Nat)) :=
  match P.underlying s with
  | some (.struct fs) => if fs.toList.all (fun f => (P.info? f.type).any (·.size != 0)) then some (fs.toList.map fun f => (f.offset, f.type)) else none
  | _ => none
def zdec : Nat → Value
  | 0 => .bool false
  | 1 => .int .i64 0
  | 2 => .int .u64 0
  | 3 => .int .u8 0
  | 4 => .int .i32 0
  | 5 => .string ⟨#[]⟩
  | 6 => .pointer none
  | 7 => .slice none 0 0
  | 8 => .map none
  | 9 => .nilFunc
  | 10 => .nilIface
  | _ => .chan none
def zeq : Nat → Value → Bool
  | 0, .bool b => !b
  | 1, .int .i64 n => n == 0
  | 2, .int .u64 n => n == 0
  | 3, .int .u8 n => n == 0
  | 4, .int .i32 n => n == 0
  | 5, .string s => s.data.isEmpty
  | 6, .pointer none => true
  | 7, .slice none 0 0 => true
  | 8, .map none => true
  | 9, .nilFunc => true
  | 10, .nilIface => true
  | _, _ => false
theorem zeq_is {n : Nat} {v : Value} (h : zeq n v = true) : v = zdec n := by
  unfold zeq at h
  split at h <;> first | (simp at h; done) | skip
  all_goals (try (simp only [Bool.not_eq_true', beq_iff_eq] at h; subst h; rfl))
  all_goals (try rfl)
  rename_i s
  obtain ⟨d⟩ := s
  simp only [Array.isEmpty_iff] at h
  subst h
  rfl
def tyZ (P : Program) (t : Nat) (cs : List Nat) : Bool :=
  match P.info? t with
  | some i => match i.zero with
    | some z => Nat.beq z.cells.size cs.length && (z.cells.toList.zip cs).all fun p => zeq p.2 p.1
    | none => false
  | none => false
def zcells (cs : List Nat) : List SV := cs.map fun n => SV.v (zdec n)
theorem tyZ_is {P : Program} {t : Nat} {cs : List Nat} (h : tyZ P t cs = true) : ∃ i z, P.info? t = some i ∧ i.zero = some z ∧ ∀ ρ, z.cells = (denL ρ (zcells cs)).toArray := by
  unfold tyZ at h
  split at h
  · rename_i i hi
    split at h
    · rename_i z hz
      rw [Bool.and_eq_true] at h
      refine ⟨i, z, hi, hz, fun ρ => ?_⟩
      have hl : z.cells.toList.length = cs.length := by simpa using Nat.eq_of_beq_eq_true h.1
      have key : ∀ (xs : List Value) (cs : List Nat), xs.length = cs.length → ((xs.zip cs).all fun p => zeq p.2 p.1) = true → xs = denL ρ (zcells cs) := by
        intro xs
        induction xs with
        | nil => intro cs h _; cases cs with | nil => rfl | cons c cs => simp at h
        | cons x xs ih =>
          intro cs h h2
          cases cs with
          | nil => simp at h
          | cons c cs =>
            simp only [List.zip_cons_cons, List.all_cons, Bool.and_eq_true] at h2
            have := ih cs (by simpa using h) h2.2
            rw [zeq_is h2.1]
            simp only [zcells, denL, List.map_cons, SV.den] at this ⊢
            rw [this]
      have := key _ _ hl h.2
      rw [← this]
    · cases h
  · cases h
def tyE (P : Program) (t : Nat) : Option (Nat × Nat) :=
  match P.underlying t with
  | some (.slice e) => match P.info? e with | some i => some (e, i.size) | none => none
  | _ => none
def tyA (P : Program) (t : Nat) : Option (Nat × Nat × Nat) :=
  match P.underlying t with
  | some (.array n e) => match P.info? e with | some i => some (n, e, i.size) | none => none
  | _ => none
/-- A function with a body of its own. -/
def tyB (P : Program) (g : Nat) : Bool :=
  match P.funcs[g]? with
  | some fn => fn.body.isSome && !(fn.name == "runtime.NumGoroutine")
  | none => false
def tyY (P : Program) (t : Nat) : Option Nat :=
  match P.info? t with
  | some i => some i.bytes
  | none => none
def Tab.chk (T : Tab) (P : Program) : Bool :=
  T.kd.all (fun p => tyK P p.1 == some p.2) && T.fd.all (fun p => tyF P p.1 == some p.2) && T.ze.all (fun p => tyZ P p.1 p.2) && T.el.all (fun p => tyE P p.1 == some p.2) && T.ar.all (fun p => tyA P p.1 == some p.2) && T.fn.all (fun p => tyB P p.1) && T.by_.all (fun p => tyY P p.1 == some p.2)
structure Tab.Ok (T : Tab) (P : Program) : Prop where
  kd : ∀ t k, alook T.kd t = some k → tyK P t = some k
  fd : ∀ t k, alook T.fd t = some k → tyF P t = some k
  ze : ∀ t k, alook T.ze t = some k → tyZ P t k = true
  el : ∀ t k, alook T.el t = some k → tyE P t = some k
  ar : ∀ t k, alook T.ar t = some k → tyA P t = some k
  fn : ∀ t k, alook T.fn t = some k → tyB P t = true
  by_ : ∀ t k, alook T.by_ t = some k → tyY P t = some k
theorem Tab.ok {T : Tab} {P : Program} (h : T.chk P = true) : T.Ok P := by
  simp only [Tab.chk, Bool.and_eq_true] at h
  obtain ⟨⟨⟨⟨⟨⟨h1, h2⟩, h3⟩, h4⟩, h5⟩, h6⟩, h7⟩ := h
  exact ⟨fun t k e => by simpa using alook_all h1 e, fun t k e => by simpa using alook_all h2 e, fun t k e => by simpa using alook_all h3 e, fun t k e => by simpa using alook_all h4 e, fun t k e => by simpa using alook_all h5 e, fun t k e => by simpa using alook_all h6 e, fun t k e => by simpa using alook_all h7 e⟩

end Go.Proofs.Ytnkpmeplapkobaa
