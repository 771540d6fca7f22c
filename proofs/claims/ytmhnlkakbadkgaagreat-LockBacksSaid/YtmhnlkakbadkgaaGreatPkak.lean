/- Part 11 of the proof of LockBacks: contracts of functions that the law reaches, or the rules by which they are walked. No condition. -/
import Derived.Test.YtmhnlkakbadkgaaGreatPkaj
namespace Go.Proofs.YtmhnlkakbadkgaaGreat.Ck
open Go Go.RowKit Go.Shelf
set_option maxRecDepth 100000
def Runs (P : Program) (o : Oper) (a : Act) (w : World) (v : Value) (w' : World) : Prop := (execOp a.eval o).run P w = .ok (.value v) w' ∨ ((execOp a.eval o).run P w = .ok .skip w' ∧ v = undef)
def TS (al : Nat → Prop) (G0 : Gh) (T : Tr Value) (m : Nat) (a : Act) : Prop := ∀ G, Ag al G0 G → TR G T m a.tmps
def OpS (P : Program) (T : Tr Value) (m : Nat) (o : Oper) (H : CH) (v : Value) (H' : CH) : Prop :=
  ∀ al G0 a w, TS al G0 T m a → HS al G0 H w → ∃ al' G0' w', To al G0 H w al' G0' H' w' ∧ HS al' G0' H' w' ∧ ∃ u, Runs P o a w u w' ∧ ∀ G, Ag al' G0' G → u = den G v
section
variable {P : Program} {T : Tr Value} {m : Nat} {o : Oper} {H : CH}
theorem Runs.det {a : Act} {w w1 w2 : World} {u1 u2 : Value} (h1 : Runs P o a w u1 w1) (h2 : Runs P o a w u2 w2) : u1 = u2 ∧ w1 = w2 := by
  rcases h1 with h1 | ⟨h1, rfl⟩ <;> rcases h2 with h2 | ⟨h2, rfl⟩ <;> rw [h1] at h2
  · injection h2 with h3 h4
    injection h3 with h3
    exact ⟨h3, h4⟩
  · injection h2 with h3 h4
    cases h3
  · injection h2 with h3 h4
    cases h3
  · injection h2 with h3 h4
    exact ⟨rfl, h4⟩
def OpP (P : Program) (T : Tr Value) (m : Nat) (o : Oper) (H : CH) (v : Value) : Prop := ∀ (G : Gh) (a : Act) (w : World), TR G T m a.tmps → HR G H.h w → Runs P o a w (den G v) w
theorem OpP.mk {v : Value} (h : ∀ (G : Gh) (a : Act) (w : World), TR G T m a.tmps → HR G H.h w → (execOp a.eval o).run P w = .ok (.value (den G v)) w) : OpP P T m o H v := fun G a w ht hr => .inl (h G a w ht hr)
theorem OpP.s {v : Value} (h : OpP P T m o H v) : OpS P T m o H v H := by
  intro al G0 a w ht hs
  have h0 := h G0 a w (ht G0 .rfl) (hs.hr G0 .rfl)
  exact ⟨al, G0, w, .rfl, hs, den G0 v, h0, fun G hG => (h0.det (h G a w (ht G hG) (hs.hr G hG))).1⟩
def isQ : Op → Bool
  | .move _ | .assign _ | .pick .. | .build .. | .makeInterface .. | .load .. | .nilCheck _ | .binOp .. | .unOp .. | .convert .. | .makeFunc .. | .slice .. | .fieldAddr .. | .field .. | .indexAddr .. | .index .. | .lookup .. | .extract .. => true
  | .call c => match c.callee with
    | .builtin b => match b with
      | .len | .cap | .min | .max => true
      | _ => false
    | _ => false
  | _ => false
def OpD (P : Program) (T : Tr Value) (m : Nat) (o : Oper) (H : CH) (v : Value) : Prop := ∀ (G0 : Gh) (a : Act) (w : World), TR G0 T m a.tmps → HR G0 H.h w → ∃ (g : GI) (u : Value), Runs P o a w u w ∧ ∀ G : Gh, G H.n = g → u = den G v
def OpW (P : Program) (T : Tr Value) (m : Nat) (o : Oper) (H : CH) (v : Value) (H' : CH) : Prop := OpS P T m o H v H' ∧ (isQ o.op = true → H'.n = H.n → OpP P T m o H v) ∧ (isQ o.op = true → H'.n ≠ H.n → OpD P T m o H v)
theorem OpP.w {v : Value} (h : OpP P T m o H v) : OpW P T m o H v H := ⟨h.s, fun _ _ => h, fun _ h => absurd rfl h⟩
theorem OpS.w {v : Value} {H' : CH} (h : OpS P T m o H v H') (hq : isQ o.op = false) : OpW P T m o H v H' := by
  refine ⟨h, fun h1 _ => ?_, fun h1 _ => ?_⟩ <;> (rw [h1] at hq; cases hq)
end
section
variable {β : Type} {z : β}
theorem tk1_spec : ∀ (cs : List Value) (n : Nat) (K : List Value → β), tk1 z cs n K = z ∨ (tk1 z cs n K = K (cs.take n) ∧ n ≤ cs.length)
  | _, 0, K => .inr ⟨by
      rename_i cs
      cases cs <;> rfl, Nat.zero_le _⟩
  | [], n + 1, K => .inl rfl
  | x :: xs, n + 1, K => by
    rcases tk1_spec xs n (fun vs => K (x :: vs)) with h | ⟨h, h2⟩
    · exact .inl h
    · exact .inr ⟨h, by simpa using h2⟩
theorem takeK_spec (n : Nat) : ∀ (o : Nat) (cs : List Value) (K : List Value → β), takeK z cs o n K = z ∨ (takeK z cs o n K = K ((cs.drop o).take n) ∧ o + n ≤ cs.length ∨ n = 0 ∧ takeK z cs o n K = K ((cs.drop o).take n))
  | o, [], K => by
    rcases tk1_spec (z := z) [] n K with h | ⟨h, h2⟩
    · exact .inl h
    · refine .inr (.inr ⟨Nat.le_zero.1 h2, ?_⟩)
      rw [List.drop_nil]
      exact h
  | 0, x :: xs, K => by
    rcases tk1_spec (z := z) (x :: xs) n K with h | ⟨h, h2⟩
    · exact .inl h
    · exact .inr (.inl ⟨h, by simpa using h2⟩)
  | o + 1, x :: xs, K => by
    rcases takeK_spec n o xs K with h | ⟨h, h2⟩ | ⟨h2, h⟩
    · exact .inl h
    · exact .inr (.inl ⟨h, by simp; omega⟩)
    · exact .inr (.inr ⟨h2, h⟩)
theorem nthL_eq : ∀ (cs : List Value) (o : Nat), nthL cs o = cs[o]?
  | [], o => by simp; rfl
  | x :: xs, 0 => rfl
  | x :: xs, o + 1 => by
    have : nthL (x :: xs) (o + 1) = nthL xs o := rfl
    rw [this, nthL_eq xs o]
    simp
def splV (cs : List Value) (k : Nat) (vs : List Value) : List Value := cs.take k ++ vs ++ cs.drop (k + vs.length)
theorem splV_len {cs : List Value} {k : Nat} {vs : List Value} (h : k + vs.length ≤ cs.length) : (splV cs k vs).length = cs.length := by
  simp [splV]; omega
theorem splV_map (f : Value → Value) (cs : List Value) (k : Nat) (vs : List Value) : (splV cs k vs).map f = splV (cs.map f) k (vs.map f) := by
  simp [splV, List.map_take, List.map_drop]
theorem splV_mid (pr cs jk vs : List Value) (k : Nat) (h : k + vs.length ≤ cs.length) : splV (pr ++ cs ++ jk) (k + pr.length) vs = pr ++ splV cs k vs ++ jk := by
  unfold splV
  rw [List.append_assoc pr cs jk, Nat.add_comm k, List.take_length_add_append, Nat.add_assoc, List.drop_length_add_append, List.take_append_of_le_length (by omega), List.drop_append_of_le_length h]
  simp
theorem wrK_spec : ∀ (vs cs : List Value) (K : List Value → β), wrK z vs cs K = z ∨ (wrK z vs cs K = K (vs ++ cs.drop vs.length) ∧ vs.length ≤ cs.length ∧ ∀ v ∈ vs, v.oneCell' = true)
  | [], cs, K => .inr ⟨by simp; rfl, Nat.zero_le _, fun _ h => nomatch h⟩
  | v :: vs, [], K => .inl (by
    show (match v.oneCell', ([] : List Value) with
      | true, _ :: cs => wrK z vs cs fun cs => K (v :: cs)
      | _, _ => z) = z
    split <;> first | rfl | (rename_i h; cases h))
  | v :: vs, c :: cs, K => by
    have e : wrK z (v :: vs) (c :: cs) K = match v.oneCell', c :: cs with
      | true, _ :: cs => wrK z vs cs fun cs => K (v :: cs)
      | _, _ => z := rfl
    rw [e]
    cases hv : v.oneCell' with
    | false => exact .inl rfl
    | true =>
      rcases wrK_spec vs cs (fun cs => K (v :: cs)) with h | ⟨h, h2, h3⟩
      · exact .inl h
      · refine .inr ⟨h, by simpa using h2, fun u hu => ?_⟩
        rcases List.mem_cons.1 hu with rfl | hu
        · exact hv
        · exact h3 u hu
theorem setsK_spec (vs : List Value) : ∀ (cs : List Value) (k : Nat) (K : List Value → β), setsK z vs cs k K = z ∨ (setsK z vs cs k K = K (splV cs k vs) ∧ (vs = [] ∨ k + vs.length ≤ cs.length) ∧ ∀ v ∈ vs, v.oneCell' = true)
  | [], k, K => by
    rcases wrK_spec (z := z) vs [] K with h | ⟨h, h2, h3⟩
    · exact .inl h
    · have : vs = [] := List.eq_nil_of_length_eq_zero (Nat.le_zero.1 h2)
      refine .inr ⟨?_, .inl this, h3⟩
      subst this
      have e : setsK z [] [] k K = K [] := h
      rw [e]
      simp [splV]
  | x :: xs, 0, K => by
    rcases wrK_spec (z := z) vs (x :: xs) K with h | ⟨h, h2, h3⟩
    · exact .inl h
    · refine .inr ⟨?_, .inr (by simpa using h2), h3⟩
      have e : setsK z vs (x :: xs) 0 K = K (vs ++ (x :: xs).drop vs.length) := h
      rw [e]
      simp [splV]
  | x :: xs, k + 1, K => by
    rcases setsK_spec vs xs k (fun ys => K (x :: ys)) with h | ⟨h, h2, h3⟩
    · exact .inl h
    · refine .inr ⟨?_, h2.imp id (fun h => by simp; omega), h3⟩
      have e : setsK z vs (x :: xs) (k + 1) K = K (x :: splV xs k vs) := h
      rw [e]
      simp [splV, show k + 1 + vs.length = (k + vs.length) + 1 by omega]
theorem oneCell_den (G : Gh) (v : Value) : (den G v).oneCell' = v.oneCell' := by
  cases v with
  | pointer a => cases a <;> rfl
  | slice a l c => cases a <;> rfl
  | map r => cases r <;> rfl
  | func fn f c => obtain ⟨f⟩ := f; obtain ⟨c⟩ := c; rfl
  | tuple vs => obtain ⟨vs⟩ := vs; rfl
  | agg vs => obtain ⟨vs⟩ := vs; rfl
  | _ => rfl
theorem partK_spec (kd : Option Nat) (cs : List Value) (o : Nat) (K : Value → β) : partK z kd cs o K = z ∨ ∃ v, partK z kd cs o K = K v ∧ (partV kd cs o = some v ∨ kd = some 0 ∧ v = .agg ⟨[]⟩) := by
  cases kd with
  | none =>
    show (match nthL cs o with
      | some v => K v
      | none => z) = z ∨ _
    rw [nthL_eq]
    cases h : cs[o]? with
    | none => exact .inl rfl
    | some v =>
      refine .inr ⟨v, ?_, .inl h⟩
      show (match nthL cs o with
        | some v => K v
        | none => z) = K v
      rw [nthL_eq, h]
  | some n =>
    rcases takeK_spec (z := z) n o cs (fun vs => K (.agg ⟨vs⟩)) with h | ⟨h, h2⟩ | ⟨rfl, h⟩
    · exact .inl h
    · exact .inr ⟨_, h, .inl (by simp [partV, h2])⟩
    · exact .inr ⟨_, h, .inr ⟨rfl, by simp⟩⟩
end
theorem partV_mid {G : Gh} {kd : Option Nat} {cs : List Value} {o : Nat} {v : Value} (h : partV kd cs o = some v) (pr jk : List Value) : partV kd (pr ++ cs.map (den G) ++ jk) (o + pr.length) = some (den G v) := by
  cases kd with
  | none =>
    simp only [partV] at h ⊢
    obtain ⟨ho, hv⟩ := List.getElem?_eq_some_iff.1 h
    rw [List.getElem?_append_left (by simp; omega), List.getElem?_append_right (by omega)]
    simp [ho, hv]
  | some n =>
    simp only [partV] at h ⊢
    split at h
    · rename_i hn
      cases h
      rw [if_pos (by simp; omega), den_agg]
      congr 2
      rw [Nat.add_comm o, List.append_assoc, List.drop_length_add_append, List.drop_append_of_le_length (by simp; omega), List.take_append_of_le_length (by simp; omega)]
      simp [List.map_take, List.map_drop]
    · cases h
theorem HR.row {G : Gh} {h : Tr Bk} {w : World} (hr : HR G h w) {k : Nat} {cs : List Value} {t : TypeId} {op : Nat} (hk : h.get k = some (.c cs t op)) :
    ∃ pr jk : List Value, w.heap[(G k).b]? = some (.cells (pr ++ cs.map (den G) ++ jk).toArray t (0, 0)) ∧ Room (G k) cs.length pr.length jk.length op := hr.bk k _ hk rfl
theorem HR.load {P : Program} {G : Gh} {h : Tr Bk} {w : World} (hr : HR G h w) {k o : Nat} {cs : List Value} {t ty : TypeId} {op : Nat} {kd : Option Nat} {v : Value} (hk : h.get k = some (.c cs ty op)) (ht : tyK P t = some kd) (hv : partV kd cs o = some v ∨ kd = some 0 ∧ v = .agg ⟨[]⟩) :
    (loadVar t (dA G ⟨k, o, none⟩)).run P w = .ok (den G v) w := by
  obtain ⟨pr, jk, h1, _, _, h2⟩ := hr.row hk
  rcases hv with hv | ⟨rfl, rfl⟩
  · have := run_loadVar_part ht h1 (partV_mid (G := G) hv pr jk)
    rw [← h2] at this
    exact this
  · obtain ⟨d, i, hd, hi, hs, ha⟩ := tyK_spec ht
    simp only [Option.getD_some] at hs
    simp [loadVar, ha, sizeOf, typeInfo, hi, hs, loadCells, loadCellsFrom, den_agg]
theorem dA_off (G : Gh) (b o d : Nat) (s : Option Nat) : (dA G ⟨b, o, s⟩).add d = dA G ⟨b, o + d, none⟩ := by
  unfold Addr.add dA
  by_cases h : d = 0
  · simp [h]
  · rw [if_neg h]
    simp; omega
section
variable {P : Program} {T : Tr Value} {m : Nat} {o : Oper} {H : CH} {β : Type} {z : β}
theorem ops_load {t : TypeId} {x : Operand} (ho : o.op = .load t x) (hx : opdOk x = true) {K : Value → β} : loadK P z t (evT T x) H K = z ∨ ∃ v, loadK P z t (evT T x) H K = K v ∧ OpP P T m o H v := by
  unfold loadK
  split
  · rename_i b off hu
    split
    · rename_i cs ty op hb
      split
      · rename_i kd hk
        rcases partK_spec (z := z) kd cs off K with h | ⟨v, h, hv⟩
        · exact .inl h
        · refine .inr ⟨v, h, OpP.mk fun G a w ht hr => ?_⟩
          have e := ev_den ht hx
          rw [hu] at e
          simp only [execOp, ho, e, den, Instr.loadAt, Instr.sureAddr, Sem.run_bind, Sem.run_pure, Result.andThen_ok, hr.load hb hk hv]
      · exact .inl rfl
    · exact .inl rfl
  · exact .inl rfl
theorem op_val {v : Value} (h : ∀ (G : Gh) (a : Act) (w : World), TR G T m a.tmps → HR G H.h w → (execOp a.eval o).run P w = .ok (.value (den G v)) w) {K : Value → β} : K v = z ∨ ∃ v', K v = K v' ∧ OpP P T m o H v' := .inr ⟨v, rfl, OpP.mk h⟩
theorem ops_fieldAddr {s : TypeId} {x : Operand} {f : Nat} (ho : o.op = .fieldAddr s x f) (hx : opdOk x = true) {K : Value → β} : fieldK P z s (evT T x) f K = z ∨ ∃ v, fieldK P z s (evT T x) f K = K v ∧ OpP P T m o H v := by
  unfold fieldK
  split
  · rename_i b off hu
    split
    · rename_i fs hfs
      split
      · rename_i p hp
        obtain ⟨fl, h1, fd, h2, h3, h4, i, h5, h6⟩ := tyF_spec hfs hp
        refine op_val fun G a w ht hr => ?_
        have e := ev_den ht hx
        rw [hu] at e
        simp only [execOp, ho, e, den, Instr.fieldAt, run_underlying h1, h2, Instr.sureAddr, fieldPlace, sizeOf, typeInfo, h5, h6, dA_off, h3, Sem.run_bind, Sem.run_pure, Result.andThen_ok, run_program, if_false]
        rfl
      · exact .inl rfl
    · exact .inl rfl
  · exact .inl rfl
theorem partV_map {G : Gh} {kd : Option Nat} {cs : List Value} {o : Nat} {v : Value} (h : partV kd cs o = some v) : partV kd (cs.map (den G)) o = some (den G v) := by
  have := partV_mid (G := G) h [] []
  simpa using this
theorem run_part0 {P : Program} {t : TypeId} (hk : tyK P t = some (some 0)) (cs : Array Value) (o : Nat) (w : World) : (part t cs o).run P w = .ok (.agg ⟨[]⟩) w := by
  obtain ⟨d, i, hd, hi, hs, ha⟩ := tyK_spec hk
  simp only [Option.getD_some] at hs
  simp only [part, Sem.run_bind, ha, Result.andThen_ok, Option.isSome_some, if_true, sizeOf, typeInfo, run_program, hi, Sem.run_pure, hs]
  congr 2
  apply Array.ext'
  simp
theorem run_partD {P : Program} {G : Gh} {t : TypeId} {kd : Option Nat} (hk : tyK P t = some kd) {cs : List Value} {o : Nat} {v : Value} (hv : partV kd cs o = some v ∨ kd = some 0 ∧ v = .agg ⟨[]⟩) (w : World) : (part t ⟨cs.map (den G)⟩ o).run P w = .ok (den G v) w := by
  rcases hv with hv | ⟨rfl, rfl⟩
  · exact run_part hk (partV_map hv) w
  · rw [run_part0 hk, den_agg]; rfl
theorem ops_field {s : TypeId} {x : Operand} {f : Nat} (ho : o.op = .field s x f) (hx : opdOk x = true) {K : Value → β} : fieldVK P z s (evT T x) f K = z ∨ ∃ v, fieldVK P z s (evT T x) f K = K v ∧ OpP P T m o H v := by
  unfold fieldVK
  split
  · rename_i cs hu
    split
    · rename_i fs hfs
      split
      · rename_i p hp
        split
        · rename_i kd hkd
          obtain ⟨fl, h1, fd, h2, h3, h4, i, h5, h6⟩ := tyF_spec hfs hp
          rcases partK_spec (z := z) kd cs p.1 K with h | ⟨v, h, hv⟩
          · exact .inl h
          · refine .inr ⟨v, h, OpP.mk fun G a w ht hr => ?_⟩
            have e := ev_den ht hx
            rw [hu, den_agg] at e
            rw [← h4] at hkd
            have := run_partD (G := G) hkd hv w
            simp [execOp, ho, e, Instr.field, run_underlying h1, h2, asAgg, h3, this]
        · exact .inl rfl
      · exact .inl rfl
    · exact .inl rfl
  · exact .inl rfl
theorem ops_extract {x : Operand} {i : Nat} (ho : o.op = .extract x i) (hx : opdOk x = true) {vs : List Value} {v : Value} (hu : evT T x = .tuple ⟨vs⟩) (hv : vs[i]? = some v) : OpP P T m o H v := OpP.mk fun G a w ht hr => by
  have e := ev_den ht hx
  rw [hu, den_tuple] at e
  simp [execOp, ho, e, Instr.extract, hv]
theorem ops_not {x : Operand} {t : TypeId} {op : UnOp} (ho : o.op = .unOp op t x) (hx : opdOk x = true) {K : Value → β} : unK z op (evT T x) K = z ∨ ∃ v, unK z op (evT T x) K = K v ∧ OpP P T m o H v := by
  unfold unK
  split
  · rename_i b hu
    split
    · exact op_val fun G a w ht hr => by
        have e := ev_den ht hx
        rw [hu] at e
        simp [execOp, ho, e, Op.unary]
    · exact op_val fun G a w ht hr => by
        have e := ev_den ht hx
        rw [hu] at e
        simp [execOp, ho, e, Op.unary]
  · rename_i k n hu
    exact op_val fun G a w ht hr => by
      have e := ev_den ht hx
      rw [hu] at e
      simp [execOp, ho, e, Op.unary, Op.intArith]
  · exact .inl rfl
theorem tyIntK_is {t : TypeId} {k : IntKind} (h : tyIntK P t = some k) : P.underlying t = some (.int k) := by
  unfold tyIntK at h
  split at h
  · cases h; assumption
  · cases h
theorem ops_conv {x : Operand} {s d : TypeId} (ho : o.op = .convert s d x) (hx : opdOk x = true) {K : Value → β} : convK P z s d (evT T x) K = z ∨ ∃ v, convK P z s d (evT T x) K = K v ∧ OpP P T m o H v := by
  unfold convK
  split
  · rename_i k n hu
    split
    · rename_i e k' hs hd
      have hd := tyIntK_is hd
      exact op_val fun G a w ht hr => by
        have e := ev_den ht hx
        rw [hu] at e
        simp [execOp, ho, e, convert, run_underlying hs, run_underlying hd, Conv.intToInt]
    · exact .inl rfl
  · exact .inl rfl
theorem tyE_is {t : TypeId} {p : Nat × Nat} (h : tyE P t = some p) : P.underlying t = some (.slice p.1) ∧ ∃ i, P.info? p.1 = some i ∧ i.size = p.2 := by
  unfold tyE at h
  split at h
  · rename_i e he
    split at h
    · rename_i i hi; cases h; exact ⟨he, i, hi, rfl⟩
    · cases h
  · cases h
theorem tyA_is {t : TypeId} {p : Nat × Nat × Nat} (h : tyA P t = some p) : P.underlying t = some (.array p.1 p.2.1) ∧ ∃ i, P.info? p.2.1 = some i ∧ i.size = p.2.2 := by
  unfold tyA at h
  split at h
  · rename_i n e he
    split at h
    · rename_i i hi; cases h; exact ⟨he, i, hi, rfl⟩
    · cases h
  · cases h
theorem ops_idxAddr {x i : Operand} {t : TypeId} (ho : o.op = .indexAddr t x i) (hx : opdOk x = true) (hi : opdOk i = true) {K : Value → β} : idxAddrK P z t (evT T x) (evT T i) K = z ∨ ∃ v, idxAddrK P z t (evT T x) (evT T i) K = K v ∧ OpP P T m o H v := by
  unfold idxAddrK
  split
  · rename_i b off sp l c k j hu hv
    split
    · rename_i p hp hj
      obtain ⟨he, inf, hinf, hsz⟩ := tyE_is hp
      refine op_val fun G a w ht hr => ?_
      have e1 := ev_den ht hx
      have e2 := ev_den ht hi
      rw [hu] at e1
      rw [hv] at e2
      have hjl : j < l := by simpa [Nat.blt_eq] using hj
      have hj2 : (0 : Int) ≤ Int.ofNat j ∧ Int.ofNat j < (l : Int) := ⟨Int.natCast_nonneg j, by simpa using hjl⟩
      simp only [execOp, ho, e1, e2, den, Instr.indexAt, asIntOf, run_underlying he, Sem.run_bind, Sem.run_pure, Result.andThen_ok, hj2, and_self, if_true, sizeOf, typeInfo, run_program, hinf, hsz]
      simp [dA_off]
    · exact .inl rfl
  · rename_i b off k j hu hv
    split
    · rename_i p hp
      split
      · rename_i hj
        obtain ⟨he, inf, hinf, hsz⟩ := tyA_is hp
        refine op_val fun G a w ht hr => ?_
        have e1 := ev_den ht hx
        have e2 := ev_den ht hi
        rw [hu] at e1
        rw [hv] at e2
        have hjl : j < p.1 := by simpa [Nat.blt_eq] using hj
        have hj2 : (0 : Int) ≤ Int.ofNat j ∧ Int.ofNat j < (p.1 : Int) := ⟨Int.natCast_nonneg j, by simpa using hjl⟩
        simp only [execOp, ho, e1, e2, den, Instr.indexAt, asIntOf, run_underlying he, Sem.run_bind, Sem.run_pure, Result.andThen_ok, Instr.sureAddr, hj2, and_self, if_true, sizeOf, typeInfo, run_program, hinf, hsz]
        simp [dA_off]
      · exact .inl rfl
    · exact .inl rfl
  · exact .inl rfl
theorem tyStr_is {t : TypeId} (h : tyStr P t = true) : P.underlying t = some .string := by
  unfold tyStr at h
  split at h
  · assumption
  · cases h
theorem ops_index {x i : Operand} {t : TypeId} (ho : o.op = .index t x i) (hx : opdOk x = true) (hi : opdOk i = true) {K : Value → β} : indexK P z t (evT T x) (evT T i) K = z ∨ ∃ v, indexK P z t (evT T x) (evT T i) K = K v ∧ OpP P T m o H v := by
  unfold indexK
  split
  · rename_i cs k j hu hv
    split
    · rename_i p hp
      split
      · rename_i kd hj hkd
        obtain ⟨he, inf, hinf, hsz⟩ := tyA_is hp
        rcases partK_spec (z := z) kd cs (Nat.mul j p.2.2) K with h | ⟨v, h, hpv⟩
        · exact .inl h
        · refine .inr ⟨v, h, OpP.mk fun G a w ht hr => ?_⟩
          have e1 := ev_den ht hx
          have e2 := ev_den ht hi
          rw [hu, den_agg] at e1
          rw [hv] at e2
          have hjl : j < p.1 := by simpa [Nat.blt_eq] using hj
          have hj2 : (0 : Int) ≤ Int.ofNat j ∧ Int.ofNat j < (p.1 : Int) := ⟨Int.natCast_nonneg j, by simpa using hjl⟩
          have := run_partD (G := G) hkd hpv w
          simp only [Nat.mul_eq] at this
          have hj3 : (0 : Int) ≤ (j : Int) ∧ (j : Int) < (p.1 : Int) := hj2
          simp only [execOp, ho, e1, e2, den, Instr.index, asIntOf, run_underlying he, Sem.run_bind, Sem.run_pure, Result.andThen_ok, hj3, and_self, if_true, sizeOf, typeInfo, run_program, hinf, hsz, Int.ofNat_eq_natCast, Int.toNat_natCast, this]
      · exact .inl rfl
    · exact .inl rfl
  · rename_i s k j hu hv
    split
    · rename_i bt hs hj
      have hs := tyStr_is hs
      refine op_val fun G a w ht hr => ?_
      have e1 := ev_den ht hx
      have e2 := ev_den ht hi
      rw [hu] at e1
      rw [hv] at e2
      have hj2 : (0 : Int) ≤ (j : Int) := Int.natCast_nonneg j
      simp only [execOp, ho, e1, e2, den, Instr.index, asIntOf, run_underlying hs, Sem.run_bind, Sem.run_pure, Result.andThen_ok, hj2, if_true, Int.ofNat_eq_natCast, Int.toNat_natCast, hj]
    · exact .inl rfl
  · exact .inl rfl
theorem ops_nilCheck {x : Operand} (ho : o.op = .nilCheck x) (hx : opdOk x = true) {v : Value} (hu : evT T x = v) (hv : (∃ a, v = .pointer (some a)) ∨ ∃ f a b, v = .func (.func f) a b) : OpP P T m o H v := OpP.mk fun G a w ht hr => by
  have e := ev_den ht hx
  rw [hu] at e
  rcases hv with ⟨b, rfl⟩ | ⟨f, ⟨b⟩, ⟨c⟩, rfl⟩
  · simp only [den] at e
    simp [execOp, ho, e, den]
  · rw [den_func] at e
    simp [execOp, ho, e, den_func, dF]
theorem ops_makeFunc {f : FuncId} {p q : Array Operand} (ho : o.op = .makeFunc (.func f) p q) (hp : ∀ x ∈ p.toList, opdOk x = true) (hq : ∀ x ∈ q.toList, opdOk x = true) : OpP P T m o H (.func (.func f) (p.map (evT T)) (q.map (evT T))) := OpP.mk fun G a w ht hr => by
  have key : ∀ r : Array Operand, (∀ x ∈ r.toList, opdOk x = true) → r.map a.eval = ⟨(r.map (evT T)).toList.map (den G)⟩ := fun r hr => by
    apply Array.ext'
    simp only [Array.toList_map, List.map_map]
    exact List.map_congr_left fun x hx => ev_den ht (hr x hx)
  have e : den G (.func (.func f) (p.map (evT T)) (q.map (evT T))) = .func (.func f) ⟨(p.map (evT T)).toList.map (den G)⟩ ⟨(q.map (evT T)).toList.map (den G)⟩ := den_func G _ _ _
  simp only [execOp, ho, Instr.makeFunc, key p hp, key q hq, e, Sem.run_bind, Sem.run_pure, Result.andThen_ok]
end
end Go.Proofs.YtmhnlkakbadkgaaGreat.Ck
