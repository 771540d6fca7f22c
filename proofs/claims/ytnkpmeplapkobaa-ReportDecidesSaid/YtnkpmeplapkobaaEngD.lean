/- A symbolic run of straight code: the run, and that it is sound. No program is in sight. -/
import Derived.Test.YtnkpmeplapkobaaEngC
import Derived.Sort.LoopGhostIn
import Derived.Laws.Tables
namespace Go.Proofs.Ytnkpmeplapkobaa
open Go.RowKit Go.Shelf

/-- A branch. -/
def brB (c : Bool) (x y : Prop) : Prop := match c with | true => x | false => y
theorem brB_split {c : Bool} {x y : Prop} (h1 : c = true → x) (h2 : c = false → y) : brB c x y := by
  cases c
  · exact h2 rfl
  · exact h1 rfl
theorem brB_dec {p : Prop} [Decidable p] {x y : Prop} (h1 : p → x) (h2 : ¬ p → y) : brB (decide p) x y := by
  refine brB_split (fun h => h1 (by simpa using h)) (fun h => h2 (by simpa using h))
theorem brB_true {c : Bool} {x y : Prop} (h : c = true) (hx : x) : brB c x y := by subst h; exact hx
theorem brB_false {c : Bool} {x y : Prop} (h : c = false) (hy : y) : brB c x y := by subst h; exact hy
theorem brB_imp {c : Bool} {x y x' y' : Prop} (h : brB c x y) (h1 : c = true → x → x') (h2 : c = false → y → y') : brB c x' y' := by
  cases c
  · exact h2 rfl h
  · exact h1 rfl h

def spl (cs : List SV) (o : Nat) (xs : List SV) : List SV := cs.take o ++ xs ++ cs.drop (o + xs.length)
/-- The parts of a slice literal, one behind the other. -/
def ordS (size : Nat) (T : TE) : Nat → List (Nat × Operand) → Option (List SV)
  | _, [] => some []
  | k, (i, x) :: r => bif Nat.beq i k then (match evS T x with
    | some u => match u.cells with
      | some cs => bif Nat.beq cs.length size then (match ordS size T (k + 1) r with
        | some ds => some (cs ++ ds)
        | none => none) else none
      | none => none
    | none => none) else none
/-- The parts of a struct literal, laid over its zero. -/
def fillS (tab : Tab) (T : TE) (fs : List (Nat × Nat)) : List SV → List (Nat × Operand) → Option (List SV)
  | cs, [] => some cs
  | cs, (i, x) :: r => match fs[i]? with
    | some p => match alook tab.kd p.2, evS T x with
      | some kd, some u => match u.cells with
        | some xs => bif (Nat.beq xs.length (kd.getD 1) && Nat.ble (p.1 + xs.length) cs.length) then fillS tab T fs (spl cs p.1 xs) r else none
        | none => none
      | _, _ => none
    | none => none

def opP (X : Fx) (o : Oper) (T : TE) (L : LE) (n : Nat) (k : TE → LE → Nat → Prop) (fail : Prop) : Prop :=
  match o.op with
  | .box e x => match evS T x with
    | some u => match u.cells with
      | some cs => match putS X.k o.dst (.o (.p n 0)) T with
        | some T' => k T' ((n, .c cs e) :: L) (n + 1)
        | none => fail
      | none => fail
    | none => fail
  | .alloc e => match alook X.tab.ze e with
    | some zs => match putS X.k o.dst (.o (.p n 0)) T with
      | some T' => k T' ((n, .c (zcells zs) e) :: L) (n + 1)
      | none => fail
    | none => fail
  | .store t x y => match o.dst with
    | none => match alook X.tab.kd t, evS T x, evS T y with
      | some kd, some (.o (.p j off)), some u => match u.cells, alook L j with
        | some xs, some (.c cs ct) => bif (Nat.beq xs.length (kd.getD 1) && (Nat.ble (off + xs.length) cs.length && xs.all SV.one)) then k T ((j, .c (spl cs off xs) ct) :: L) n else fail
        | _, _ => fail
      | _, _, _ => fail
    | some _ => fail
  | .pick c a b => match evS T c with
    | some (.o (.v (.bool t))) => brB t (match evS T a with
        | some u => match putS X.k o.dst u T with | some T' => k T' L n | none => fail
        | none => fail) (match evS T b with
        | some u => match putS X.k o.dst u T with | some T' => k T' L n | none => fail
        | none => fail)
    | _ => fail
  | .buildSlice t len parts => match alook X.tab.el t with
    | some p => match ordS p.2 T 0 parts.toList with
      | some cs => bif (Nat.beq parts.toList.length len && Nat.blt (len * p.2) 1000) then (match alook X.tab.ze p.1 with
        | some _ => match putS X.k o.dst (.o (.s n 0 len len)) T with
          | some T' => k T' ((n, .c cs p.1) :: L) (n + 1)
          | none => fail
        | none => fail) else fail
      | none => fail
    | none => fail
  | .build t parts => match alook X.tab.ze t, alook X.tab.fd t with
    | some zs, some fs => match fillS X.tab T fs (zcells zs) parts.toList with
      | some cs => match putS X.k o.dst (.g cs) T with
        | some T' => k T' L n
        | none => fail
      | none => fail
    | _, _ => fail
  | op => match valF X.tab op T L with
    | some u => match putS X.k o.dst u T with
      | some T' => k T' L n
      | none => fail
    | none => fail
/-- One operation's run: k is asked behind it; where it wants a word: OJs. -/
def opK (X : Fx) (o : Oper) (T : TE) (L : LE) (n : Nat) (F : List Fact) (D : DF) (k : KS) (K : KK) : Prop := opP X o T L n (fun T' L' n' => k T' L' n' F D) (OJs X o T L n F D k K)
def rl (X : Fx) (ops : List Oper) : List Oper → TE → LE → Nat → List Fact → DF → KK → Prop
  | [], T, L, n, F, D, K => K .normal T L n F D
  | o :: l, T, L, n, F, D, K =>
    match o.guard with
    | none => opK X o T L n F D (fun T' L' n' F' D' => rl X ops l T' L' n' F' D' K) K
    | some (j, b) => match (ops[j]?).bind (·.dst) with
      | some d => match alook T d with
        | some (.o (.v (.bool c))) => bif b then
            brB c (opK X o ((d, .o (.v (.bool true))) :: T) L n F D (fun T' L' n' F' D' => rl X ops l T' L' n' F' D' K) K)
              (match putS X.k o.dst (.o (.v undef)) ((d, .o (.v (.bool false))) :: T) with | some T' => rl X ops l T' L n F D K | none => False)
          else brB c (match putS X.k o.dst (.o (.v undef)) ((d, .o (.v (.bool true))) :: T) with | some T' => rl X ops l T' L n F D K | none => False)
              (opK X o ((d, .o (.v (.bool false))) :: T) L n F D (fun T' L' n' F' D' => rl X ops l T' L' n' F' D' K) K)
        | _ => False
      | none => False

theorem rls_dup {X : Fx} {ops l : List Oper} {T : TE} {L : LE} {n : Nat} {F : List Fact} {D : DF} {K : KK} {d : Nat} {u : TV} (hd : alook T d = some u) (h : RLs X ops l ((d, u) :: T) L n F D K) : RLs X ops l T L n F D K := by
  intro Q hQ a w hr
  refine h Q hQ a w ?_
  obtain ⟨hkb, ρ0, A, h0⟩ := hr
  refine ⟨hkb, ρ0, A, fun ρ hρ => ?_⟩
  have h1 := h0 ρ hρ
  refine ⟨⟨fun t x hx => ?_, h1.lo, h1.a3⟩, h1.sz, h1.df, h1.kp, h1.nw, h1.ds, h1.a1, h1.a2, h1.mb⟩
  rw [alook_cons] at hx
  split at hx
  · rename_i e; rw [e]; cases hx; exact h1.tm d _ hd
  · exact h1.tm t x hx
theorem foldl_spl (xs : List Value) (o : Nat) : ∀ (k : Nat) (cs : List Value), o + k + xs.length ≤ cs.length →
    (xs.zipIdx k).foldl (fun (c : Array Value) p => c.setIfInBounds (o + p.2) p.1) cs.toArray = (cs.take (o + k) ++ xs ++ cs.drop (o + k + xs.length)).toArray := by
  induction xs with
  | nil => intro k cs _; simp
  | cons x xs ih =>
    intro k cs h
    simp only [List.length_cons] at h
    rw [List.zipIdx_cons, List.foldl_cons, List.setIfInBounds_toArray, ih (k + 1) _ (by rw [List.length_set]; omega)]
    congr 1
    rw [List.take_set, List.drop_set, if_pos (by omega)]
    rw [show o + (k + 1) = o + k + 1 by omega, List.take_add_one, List.getElem?_eq_getElem (by omega : o + k < cs.length), Option.toList_some, List.set_append_right _ _ (by rw [List.length_take]; omega)]
    rw [List.length_take, Nat.min_eq_left (by omega), Nat.sub_self]
    simp only [List.set_cons_zero, List.append_assoc, List.cons_append, List.nil_append, List.length_cons]
    rw [show o + k + 1 + xs.length = o + k + (xs.length + 1) by omega]
theorem spl_den (ρ : Nm) (cs : List SV) (o : Nat) (xs : List SV) : denL ρ (spl cs o xs) = (denL ρ cs).take o ++ denL ρ xs ++ (denL ρ cs).drop (o + (denL ρ xs).length) := by
  simp [spl, denL, List.map_take, List.map_drop]
theorem fill_cons {place : Nat → Option (Nat × Nat)} {i off size : Nat} {v : Value} {xs : List Value} {r : List (Nat × Value)} {cs : List Value} (hp : place i = some (off, size)) (hv : v.cells = xs.toArray) (hs : xs.length = size) (hl : off + xs.length ≤ cs.length) :
    Instr.fill place cs.toArray ((i, v) :: r) = Instr.fill place (cs.take off ++ xs ++ cs.drop (off + xs.length)).toArray r := by
  have h := foldl_spl xs off 0 cs (by simpa using hl)
  simp only [Nat.add_zero] at h
  simp only [Instr.fill, hp, hv, List.size_toArray]
  rw [if_neg (by simp; omega)]
  congr 1
  rw [← h]
  simp
theorem fillS_den {X : Fx} {T : TE} {L : LE} {F : List Fact} {A : Nat → Prop} {ρ : Nm} {a : Act} {w : World} (h0 : Vw T L F A ρ a w) {fs : List (Nat × Nat)} {place : Nat → Option (Nat × Nat)}
    (hpl : ∀ i p, fs[i]? = some p → ∀ kd, tyK X.P p.2 = some kd → place i = some (p.1, kd.getD 1)) : ∀ {parts : List (Nat × Operand)} {cs ds : List SV}, fillS X.tab T fs cs parts = some ds →
    Instr.fill place (denL ρ cs).toArray (parts.map fun p => (p.1, a.eval p.2)) = some (denL ρ ds).toArray
  | [], cs, ds, h => by cases h; rfl
  | (i, x) :: r, cs, ds, h => by
    unfold fillS at h
    split at h
    · rename_i p hp
      split at h
      · rename_i kd u hkd hu
        split at h
        · rename_i xs hxs
          rw [cond_eq_ite] at h
          split at h
          · rename_i hc
            simp only [Bool.and_eq_true, Nat.ble_eq] at hc
            have hsz := Nat.eq_of_beq_eq_true hc.1
            have e1 := TV.cells_den (ρ := ρ) hxs
            rw [← h0.ev hu] at e1
            rw [List.map_cons, fill_cons (hpl i p hp kd (X.ok.kd _ _ hkd)) e1 (by simpa [denL] using hsz) (by simpa [denL] using hc.2), ← spl_den]
            exact fillS_den h0 hpl h
          · cases h
        · cases h
      · cases h
    · cases h
theorem ordS_den {T : TE} {L : LE} {F : List Fact} {A : Nat → Prop} {ρ : Nm} {a : Act} {w : World} (h0 : Vw T L F A ρ a w) {size : Nat} : ∀ {parts : List (Nat × Operand)} {k : Nat} {ds : List SV} {cs : List Value}, ordS size T k parts = some ds → cs.length = (k + parts.length) * size →
    Instr.fill (fun i => some (i * size, size)) cs.toArray (parts.map fun p => (p.1, a.eval p.2)) = some (cs.take (k * size) ++ denL ρ ds).toArray ∧ ds.length = parts.length * size
  | [], k, ds, cs, h, hl => by
    cases h
    simp only [List.map_nil, Instr.fill, denL, List.append_nil, List.length_nil, Nat.zero_mul, and_true]
    rw [List.take_of_length_le (by simp at hl; omega)]
  | (i, x) :: r, k, ds, cs, h, hl => by
    unfold ordS at h
    rw [cond_eq_ite] at h
    split at h
    · rename_i hik
      have hik := Nat.eq_of_beq_eq_true hik
      subst hik
      split at h
      · rename_i u hu
        split at h
        · rename_i xs hxs
          rw [cond_eq_ite] at h
          split at h
          · rename_i hsz
            have hsz := Nat.eq_of_beq_eq_true hsz
            split at h
            · rename_i es hes
              cases h
              have e1 := TV.cells_den (ρ := ρ) hxs
              rw [← h0.ev hu] at e1
              have hdl : (denL ρ xs).length = size := by simpa [denL] using hsz
              simp only [List.length_cons] at hl
              have hl2 : cs.length = i * size + size + r.length * size := by rw [hl]; simp only [Nat.add_mul, Nat.one_mul]; omega
              have hl3 : (i + 1) * size = i * size + size := by rw [Nat.add_mul, Nat.one_mul]
              rw [List.map_cons, fill_cons (i := i) rfl e1 hdl (by rw [hdl]; omega)]
              have ih := ordS_den h0 (cs := cs.take (i * size) ++ denL ρ xs ++ cs.drop (i * size + (denL ρ xs).length)) hes (by
                simp only [List.length_append, List.length_take, List.length_drop, hdl, hl2, Nat.add_mul, Nat.one_mul]
                omega)
              rw [ih.1]
              refine ⟨?_, ?_⟩
              · congr 2
                rw [hl3, List.take_append_of_le_length (by simp only [List.length_append, List.length_take, hdl, hl2]; omega), List.take_of_length_le (by simp only [List.length_append, List.length_take, hdl, hl2]; omega)]
                simp [denL]
              · simp only [List.length_append, List.length_cons, ih.2, hsz, Nat.add_mul, Nat.one_mul]; omega
            · cases h
          · cases h
        · cases h
      · cases h
    · cases h

theorem places_of {P : Program} : ∀ (fl : List Field), (fl.all fun f => (P.info? f.type).any (·.size != 0)) = true → ∃ places, fl.mapM (fun f => (P.info? f.type).map fun i => (f.offset, i.size)) = some places ∧
    ∀ (i : Nat) (f : Field) (kd : Option Nat), fl[i]? = some f → tyK P f.type = some kd → places[i]? = some (f.offset, kd.getD 1)
  | [], _ => ⟨[], rfl, fun i f kd h => by simp at h⟩
  | f :: fl, h => by
    simp only [List.all_cons, Bool.and_eq_true] at h
    obtain ⟨places, h1, h2⟩ := places_of fl h.2
    obtain ⟨i, hi, _⟩ := (Option.any_eq_true _ _).1 h.1
    refine ⟨(f.offset, i.size) :: places, by simp [List.mapM_cons, hi, h1], fun j g kd hj hk => ?_⟩
    cases j with
    | zero =>
      simp at hj
      subst hj
      obtain ⟨d, i', _, hi', hs, _⟩ := tyK_spec hk
      rw [hi] at hi'
      cases hi'
      simp [hs]
    | succ j => simpa using h2 j g kd (by simpa using hj) hk
theorem run_storeVar_spl {P : Program} {t : Nat} {kd : Option Nat} (hk : tyK P t = some kd) {w : World} {b o : Nat} {cs xs : List Value} {ty : TypeId} {v : Value} (h : w.heap[b]? = some (.cells cs.toArray ty (0, 0))) (hv : v.cells = xs.toArray) (hs : xs.length = kd.getD 1)
    (hl : o + xs.length ≤ cs.length) (h1 : ∀ x ∈ xs, x.oneCell' = true) : (storeVar t ⟨b, o, none⟩ v).run P w = .ok () (w.setRow b (cs.take o ++ xs ++ cs.drop (o + xs.length)).toArray) := by
  obtain ⟨d, i, hd, hi, hsz, ha⟩ := tyK_spec hk
  have := run_storeCells_at P b o ty xs 0 cs.toArray w h (by simpa using hl) h1
  simp only [Nat.add_zero] at this
  simp [storeVar, sizeOf, typeInfo, hi, hv, hsz, hs, this]

/-- One operation. -/
theorem opK_sound {X : Fx} {o : Oper} {T : TE} {L : LE} {n : Nat} {F : List Fact} {D : DF} {K : KK} {k : KS} (h : opK X o T L n F D k K) : OJs X o T L n F D k K := by
  unfold opK at h
  unfold opP at h
  split at h
  · rename_i e x ho
    split at h
    · rename_i u hu
      split at h
      · rename_i cs hcs
        split at h
        · rename_i T' hp
          refine ojs_new (by simp [noDef, ho]) (u := .o (.p n 0)) (cells := cs) (t := e) (fun A ρ a w h0 => ⟨.pointer (some ⟨w.heap.size, 0, none⟩), ?_, fun ρ' hn _ => by simp [TV.den, SV.den, hn]⟩) hp h
          have e1 := TV.cells_den (ρ := ρ) hcs
          rw [← h0.ev hu] at e1
          simp [execOp, ho, Instr.box, newVar, newRow, newObj, Sem.run, e1]
        · exact h
      · exact h
    · exact h
  · rename_i e ho
    split at h
    · rename_i zs hz
      split at h
      · rename_i T' hp
        obtain ⟨i, z, hi, hz1, hz2⟩ := tyZ_is (X.ok.ze _ _ hz)
        refine ojs_new (by simp [noDef, ho]) (u := .o (.p n 0)) (cells := zcells zs) (t := e) (fun A ρ a w h0 => ⟨.pointer (some ⟨w.heap.size, 0, none⟩), ?_, fun ρ' hn _ => by simp [TV.den, SV.den, hn]⟩) hp h
        simp [execOp, ho, Instr.alloc, zeroValue, typeInfo, hi, hz1, newVar, newRow, newObj, Sem.run, hz2 ρ]
      · exact h
    · exact h
  · rename_i t x y ho
    split at h
    · rename_i hdst
      split at h
      · rename_i kd j off u hkd hx hy
        split at h
        · rename_i xs cs ct hxs hL
          rw [cond_eq_ite] at h
          split at h
          · rename_i hc
            simp only [Bool.and_eq_true, Nat.ble_eq] at hc
            obtain ⟨hc1, hc2, hc3⟩ := hc
            have hc1 := Nat.eq_of_beq_eq_true hc1
            refine ojs_set (by simp [noDef, ho]) hdst hL (cells := spl cs off xs) (fun A ρ a w h0 => ?_) h
            have e1 := TV.cells_den (ρ := ρ) hxs
            rw [← h0.ev hy] at e1
            have := run_storeVar_spl (X.ok.kd _ _ hkd) (o := off) (h0.lo j _ hL) e1 (by simpa [denL] using hc1) (by simpa [denL] using hc2) (denL_one hc3)
            rw [spl_den]
            simp [execOp, ho, Instr.storeAt, h0.ev hx, TV.den, SV.den, Instr.sureAddr, this]
          · exact h
        · exact h
      · exact h
    · exact h
  · rename_i c a' b' ho
    split at h
    · rename_i t ht
      have key : ∀ x, (t = true → x = a') → (t = false → x = b') → (match evS T x with
          | some u => match putS X.k o.dst u T with | some T' => k T' L n F D | none => OJs X o T L n F D k K
          | none => OJs X o T L n F D k K) → OJs X o T L n F D k K := by
        intro x h1 h2 h
        split at h
        · rename_i u hu
          split at h
          · rename_i T' hp
            refine ojs_yd ⟨by simp [noDef, ho], fun A ρ a w h0 => ?_⟩ hp h
            have e1 := h0.ev ht
            simp only [TV.den, SV.den] at e1
            cases t
            · simp [execOp, ho, e1, asBool, ← h2 rfl, h0.ev hu]
            · simp [execOp, ho, e1, asBool, ← h1 rfl, h0.ev hu]
          · exact h
        · exact h
      cases t
      · exact key b' (fun h => by cases h) (fun _ => rfl) h
      · exact key a' (fun _ => rfl) (fun h => by cases h) h
    · exact h
  · rename_i t len parts ho
    split at h
    · rename_i p hp'
      split at h
      · rename_i cs hcs
        rw [cond_eq_ite] at h
        split at h
        · rename_i hc
          simp only [Bool.and_eq_true, Nat.blt_eq] at hc
          have hc1 := Nat.eq_of_beq_eq_true hc.1
          split at h
          · rename_i zs hz
            split at h
            · rename_i T' hp
              have hE := X.ok.el _ _ hp'
              obtain ⟨i, z, hi, hz1, hz2⟩ := tyZ_is (X.ok.ze _ _ hz)
              have hu : X.P.underlying t = some (.slice p.1) ∧ i.size = p.2 := by
                unfold tyE at hE
                split at hE
                · rename_i e' he'
                  split at hE
                  · rename_i i' hi'
                    cases hE
                    exact ⟨he', by rw [hi'] at hi; cases hi; rfl⟩
                  · cases hE
                · cases hE
              refine ojs_new (by simp [noDef, ho]) (u := .o (.s n 0 len len)) (cells := cs) (t := p.1) (fun A ρ a w h0 => ⟨.slice (some ⟨w.heap.size, 0, none⟩) len len, ?_, fun ρ' hn _ => by simp [TV.den, SV.den, hn]⟩) hp h
              have hbase : ∀ zz : Array Value, ((Array.range (len * p.2)).map (zz[· % zz.size]!)).toList.length = (0 + parts.toList.length) * p.2 := fun zz => by simp [hc1]
              have fin : ∀ zz : Array Value, Instr.fill (fun i => some (i * p.2, p.2)) ((Array.range (len * p.2)).map (zz[· % zz.size]!)) (parts.map fun (i, x) => (i, a.eval x)).toList = some (denL ρ cs).toArray := fun zz => by
                have := (ordS_den h0.toVw hcs (hbase zz)).1
                simp only [Array.toArray_toList, Nat.zero_mul, List.take_zero, List.nil_append] at this
                rw [Array.toList_map]
                exact this
              have h24 : ¬ len * i.size > 2 ^ 24 := by rw [hu.2]; omega
              simp only [execOp, ho, Instr.buildSlice, Sem.run_bind, run_underlying hu.1, Result.andThen_ok, sizeOf, typeInfo, run_program, hi, Sem.run_pure, if_neg h24]
              by_cases h00 : len * i.size = 0
              · rw [hu.2] at h00 ⊢
                simp only [if_pos h00, Sem.run_pure, Result.andThen_ok, fin #[], Sem.run_bind, newRow, newObj, Sem.run]
                rfl
              · rw [hu.2] at h00 ⊢
                simp only [if_neg h00, Sem.run_pure, Result.andThen_ok, zeroValue, typeInfo, run_program, hi, hz1, fin z.cells, Sem.run_bind, newRow, newObj, Sem.run]
                rfl
            · exact h
          · exact h
        · exact h
      · exact h
    · exact h
  · rename_i t parts ho
    split at h
    · rename_i zs fs hz hfs
      split at h
      · rename_i cs hcs
        split at h
        · rename_i T' hp
          refine ojs_yd ⟨by simp [noDef, ho], fun A ρ a w h0 => ?_⟩ hp h
          obtain ⟨i, z, hi, hz1, hz2⟩ := tyZ_is (X.ok.ze _ _ hz)
          have hF := X.ok.fd _ _ hfs
          unfold tyF at hF
          split at hF
          · rename_i fl hfl
            split at hF
            · rename_i hall
              cases hF
              obtain ⟨places, hp1, hp2⟩ := places_of _ hall
              have hfill := fillS_den h0 (place := (places.toArray[·]?)) (fun i p hp kd hkd => by
                simp only [List.getElem?_map, Option.map_eq_some_iff] at hp
                obtain ⟨fd, hfd, rfl⟩ := hp
                simpa using hp2 i fd kd hfd hkd) hcs
              have hb : X.P.built t (parts.map fun (i, x) => (i, a.eval x)).toList = some (denL ρ cs).toArray := by
                unfold Program.built
                simp only [hi, hfl, hz1, hp1, hz2 ρ]
                rw [Array.toList_map]
                exact hfill
              simp only [execOp, ho, Sem.run_bind, run_build w t _ _ hb, Result.andThen_ok, Sem.run_pure, TV.den]
            · cases hF
          · cases hF
        · exact h
      · exact h
    · exact h
  · split at h
    · rename_i u hu
      split at h
      · rename_i T' hp
        exact ojs_yd (valF_yd hu) hp h
      · exact h
    · exact h

theorem rl_sound {X : Fx} {ops : List Oper} : ∀ {l : List Oper} {T : TE} {L : LE} {n : Nat} {F : List Fact} {D : DF} {K : KK}, rl X ops l T L n F D K → RLs X ops l T L n F D K
  | [], _, _, _, _, _, _, h => rls_nil h
  | o :: l, T, L, n, F, D, K, h => by
    unfold rl at h
    split at h
    · rename_i hg
      exact rls_op (.inl hg) (fun _ _ _ _ _ h => rl_sound h) (opK_sound h)
    · rename_i j b hg
      split at h
      · rename_i d hd
        split at h
        · rename_i c hc
          have gd : ∀ e : Bool, guardS ops j ((d, .o (.v (.bool e))) :: T) = some e := fun e => by
            unfold guardS; rw [hd]; simp only [alook_head]
          have run : ∀ e : Bool, e = b → opK X o ((d, .o (.v (.bool e))) :: T) L n F D (fun T' L' n' F' D' => rl X ops l T' L' n' F' D' K) K → RLs X ops (o :: l) ((d, .o (.v (.bool e))) :: T) L n F D K := fun e he h =>
            rls_op (.inr ⟨j, b, hg, by rw [gd, he]⟩) (fun _ _ _ _ _ h => rl_sound h) (opK_sound h)
          have skip : ∀ e : Bool, (e == b) = false → (match putS X.k o.dst (.o (.v undef)) ((d, .o (.v (.bool e))) :: T) with | some T' => rl X ops l T' L n F D K | none => False) → RLs X ops (o :: l) ((d, .o (.v (.bool e))) :: T) L n F D K := fun e he h => by
            split at h
            · rename_i T' hp
              exact rls_skip hg (gd e) he hp (rl_sound h)
            · exact h.elim
          refine rls_dup hc ?_
          cases b <;> cases c
          · exact run _ rfl h
          · exact skip _ rfl h
          · exact skip _ rfl h
          · exact run _ rfl h
        · exact h.elim
      · exact h.elim

end Go.Proofs.Ytnkpmeplapkobaa
