/- Part 22 of the proof of LockBacks: contracts of functions that the law reaches, or the rules by which they are walked. No condition. -/
import Derived.Test.YtmhnlkakbadkgaaGreatPkau
namespace Go.Proofs.YtmhnlkakbadkgaaGreat.Ck
open Go Go.RowKit Go.Shelf
set_option maxRecDepth 100000
theorem sub_spec {a b k : Nat} (h : sub a b = true) (hk : a.testBit k = true) : b.testBit k = true := by
  have h1 : (a &&& b) = a := Nat.eq_of_beq_eq_true h
  rw [← h1, Nat.testBit_and, Bool.and_eq_true] at hk
  exact hk.2
theorem setB_bit (m i k : Nat) : (setB m i).testBit k = true ↔ k = i ∨ m.testBit k = true := by
  show (m ||| 1 <<< i).testBit k = true ↔ _
  rw [Nat.testBit_or, Nat.one_shiftLeft, Nat.testBit_two_pow, Bool.or_eq_true, decide_eq_true_eq]
  constructor
  · rintro (h | h)
    · exact .inr h
    · exact .inl h.symm
  · rintro (h | h)
    · exact .inr h.symm
    · exact .inl h
theorem zipIdx_all {α : Type} {l : List α} {f : α × Nat → Bool} (h : l.zipIdx.all f = true) {i : Nat} {x : α} (hx : l[i]? = some x) : f (x, i) = true :=
  List.all_eq_true.1 h _ (List.mk_mem_zipIdx_iff_getElem?.2 hx)
theorem afterM_spec {an k : Nat} : ∀ (l : List Edge) (m : Nat), (l.foldl (fun l e => match Region.binds .any e with
  | true => Nat.lor l (Nat.lor (Nat.shiftLeft 1 e.on) (ancM an e.on))
  | false => l) m).testBit k = true → m.testBit k = true ∨ ∃ e ∈ l, Region.binds .any e = true ∧ (e.on = k ∨ isAnc an k e.on = true)
  | [], m, h => .inl h
  | e :: l, m, h => by
    rw [List.foldl_cons] at h
    rcases afterM_spec l _ h with h1 | ⟨e', h1, h2⟩
    · cases hb : Region.binds .any e with
      | true =>
        rw [hb] at h1
        have h1 : (m ||| (1 <<< e.on ||| ancM an e.on)).testBit k = true := h1
        rw [Nat.testBit_or, Nat.testBit_or, Nat.one_shiftLeft, Nat.testBit_two_pow, Bool.or_eq_true, Bool.or_eq_true, decide_eq_true_eq] at h1
        rcases h1 with h1 | h1 | h1
        · exact .inl h1
        · exact .inr ⟨e, List.mem_cons_self, hb, .inl h1⟩
        · exact .inr ⟨e, List.mem_cons_self, hb, .inr h1⟩
      | false => rw [hb] at h1; exact .inl h1
    · exact .inr ⟨e', List.mem_cons_of_mem _ h1, h2⟩
theorem afterM_in {an : Nat} : ∀ (l : List Edge) (m : Nat) (k : Nat), m.testBit k = true ∨ (∃ e ∈ l, Region.binds .any e = true ∧ (e.on = k ∨ isAnc an k e.on = true)) → (l.foldl (fun l e => match Region.binds .any e with
  | true => Nat.lor l (Nat.lor (Nat.shiftLeft 1 e.on) (ancM an e.on))
  | false => l) m).testBit k = true
  | [], m, k, h => by
    rcases h with h | ⟨e, he, _⟩
    · exact h
    · cases he
  | e :: l, m, k, h => by
    rw [List.foldl_cons]
    refine afterM_in l _ k ?_
    rcases h with h | ⟨e', he, hb, h⟩
    · refine .inl ?_
      split
      · show (m ||| (1 <<< e.on ||| ancM an e.on)).testBit k = true
        rw [Nat.testBit_or, h]; rfl
      · exact h
    · rcases List.mem_cons.1 he with rfl | he
      · refine .inl ?_
        rw [hb]
        show (m ||| (1 <<< e'.on ||| ancM an e'.on)).testBit k = true
        rw [Nat.testBit_or, Nat.testBit_or, Nat.one_shiftLeft, Nat.testBit_two_pow, Bool.or_eq_true, Bool.or_eq_true, decide_eq_true_eq]
        rcases h with h | h
        · exact .inr (.inl h)
        · exact .inr (.inr h)
      · exact .inr ⟨e', he, hb, h⟩
theorem cl_of {ops : Array Oper} {an : Nat} (h : drawOk ops.toList an = true) : Cl ops an ∧ acycB ops.toList = true ∧ (∀ (i : Nat) (o : Oper), ops[i]? = some o → opOk o = true) := by
  unfold drawOk at h
  simp only [Bool.and_eq_true] at h
  obtain ⟨_, h1, h2, h3, h4, h5, h6⟩ := h
  have at' : ∀ {i : Nat} {o : Oper}, ops[i]? = some o → ops.toList[i]? = some o := fun h => by simpa using h
  unfold ancOk at h5
  generalize wrM ops.toList = wm at h4
  have anc : ∀ (i : Nat) (o : Oper), ops[i]? = some o → ancM an i = afterM an o := fun i o ho => Nat.eq_of_beq_eq_true (zipIdx_all h5 (at' ho))
  have snd : ∀ (i : Nat) (o : Oper) (k : Nat), ops[i]? = some o → isAnc an k i = true → ∃ e ∈ o.after, Region.binds .any e = true ∧ (e.on = k ∨ isAnc an k e.on = true) := fun i o k ho hk => by
    have hk : (ancM an i).testBit k = true := hk
    rw [anc i o ho] at hk
    rcases afterM_spec o.after.toList 0 hk with h7 | ⟨e, h7, h8⟩
    · simp at h7
    · exact ⟨e, by simpa using h7, h8⟩
  have inn : ∀ (i : Nat) (o : Oper) (e : Edge) (k : Nat), ops[i]? = some o → e ∈ o.after → Region.binds .any e = true → (e.on = k ∨ isAnc an k e.on = true) → isAnc an k i = true := fun i o e k ho he hb hk => by
    show (ancM an i).testBit k = true
    rw [anc i o ho]
    exact afterM_in o.after.toList 0 k (.inr ⟨e, by simpa using he, hb, hk⟩)
  have wr : ∀ (i : Nat) (o : Oper) (d : Nat), ops[i]? = some o → o.dst = some d → wrAt wm d = i + 1 := fun i o d ho hd => by
    have := zipIdx_all h4 (at' ho)
    simp only [hd, Bool.and_eq_true] at this
    exact Nat.eq_of_beq_eq_true this.1
  refine ⟨⟨fun i => ?_, snd, fun i k oi ok d hi hk hne hd => ?_, fun i o j b ho hg => ?_, fun i o ho => List.all_eq_true.1 h2 o (List.mem_of_getElem? (at' ho))⟩, h1, fun i o ho => List.all_eq_true.1 h3 o (List.mem_of_getElem? (at' ho))⟩
  · induction i using Nat.strongRecOn with
    | _ i ih =>
      intro k l hi hk hl
      have ho : ops[i]? = some ops[i] := Array.getElem?_eq_getElem hi
      obtain ⟨e, he, hb, h7⟩ := snd i _ k ho hk
      refine inn i _ e l ho he hb (.inr ?_)
      rcases h7 with rfl | h7
      · exact hl
      · have hlt := acycB_spec h1 (at' ho) he hb
        exact ih e.on hlt k l (by omega) h7 hl
  · refine ⟨fun e => ?_, ?_⟩
    · have e1 := wr i oi d hi hd
      rw [wr k ok d hk e] at e1
      omega
    · by_cases hm : Operand.tmp d ∈ ok.op.operands
      · have := zipIdx_all h4 (at' hk)
        simp only [Bool.and_eq_true] at this
        have := List.all_eq_true.1 this.2 (.tmp d) (by simpa using hm)
        unfold readOk at this
        simp only [wr i oi d hi hd, Bool.or_eq_true, Nat.beq_eq] at this
        rcases this with h7 | h7 | h7
        · exact absurd h7 hne
        · exact .inl h7
        · exact .inr (.inl h7)
      · exact .inr (.inr hm)
  · have := zipIdx_all h6 (at' ho)
    simp only [hg] at this
    exact this
section
variable {P : Program} {β : Type} {z : β} {ih : Ev β} {ops : Array Oper} {T : Tr Value} {m : Nat} {o : Oper}
theorem restrK_spec : ∀ (xs : List Operand) (A : Tr Value) (K : Tr Value → β), restrK z T xs A K = z ∨ ∃ A', restrK z T xs A K = K A' ∧ (∀ t, Operand.tmp t ∉ xs → A'.get t = A.get t) ∧ ∀ t, Operand.tmp t ∈ xs → A'.get t = T.get t ∨ T.get t = none ∧ A'.get t = A.get t
  | [], A, K => .inr ⟨A, rfl, fun _ _ => rfl, fun _ h => nomatch h⟩
  | x :: xs, A, K => by
    have e : restrK z T (x :: xs) A K = match x with
      | .tmp t => match T.get t with
        | some v => Tr.put z v A t fun A => restrK z T xs A K
        | none => restrK z T xs A K
      | _ => restrK z T xs A K := rfl
    have skip : (∀ t, x = .tmp t → T.get t = none) → restrK z T xs A K = z ∨ ∃ A', restrK z T xs A K = K A' ∧ (∀ t, Operand.tmp t ∉ x :: xs → A'.get t = A.get t) ∧ ∀ t, Operand.tmp t ∈ x :: xs → A'.get t = T.get t ∨ T.get t = none ∧ A'.get t = A.get t := fun hx => by
      rcases restrK_spec xs A K with h | ⟨A', h, h1, h2⟩
      · exact .inl h
      · refine .inr ⟨A', h, fun t ht => h1 t fun hc => ht (List.mem_cons_of_mem _ hc), fun t ht => ?_⟩
        by_cases hm : Operand.tmp t ∈ xs
        · exact h2 t hm
        · rcases List.mem_cons.1 ht with hc | hc
          · exact .inr ⟨hx t hc.symm, h1 t hm⟩
          · exact absurd hc hm
    rw [e]
    cases x with
    | tmp t =>
      dsimp only
      cases hT : T.get t with
      | none => exact skip fun t' h => by injection h with h; rw [← h]; exact hT
      | some v =>
        dsimp only
        rcases Tr.put_spec z v A t (fun A => restrK z T xs A K) with h | ⟨A1, h, hA⟩
        · exact .inl h
        rw [h]
        rcases restrK_spec xs A1 K with h | ⟨A', h, h1, h2⟩
        · exact .inl h
        · have one : ∀ t', t' ≠ t → A1.get t' = A.get t' := fun t' hne => by rw [hA, if_neg hne]
          refine .inr ⟨A', h, fun t' ht => ?_, fun t' ht => ?_⟩
          · rw [h1 t' fun hc => ht (List.mem_cons_of_mem _ hc)]
            exact one t' fun e => ht (by rw [e]; exact List.mem_cons_self)
          · by_cases hm : Operand.tmp t' ∈ xs
            · by_cases e' : t' = t
              · subst e'
                rcases h2 t' hm with h3 | ⟨h3, _⟩
                · exact .inl h3
                · rw [hT] at h3; cases h3
              · rcases h2 t' hm with h3 | ⟨h3, h4⟩
                · exact .inl h3
                · exact .inr ⟨h3, h4.trans (one t' e')⟩
            · rcases List.mem_cons.1 ht with hc | hc
              · injection hc with hc
                subst hc
                rw [h1 t' hm, hA, if_pos rfl, hT]
                exact .inl rfl
              · exact absurd hc hm
    | _ => exact skip fun t h => nomatch h
theorem restr_get {xs : List Operand} {A' : Tr Value} (h1 : ∀ t, Operand.tmp t ∉ xs → A'.get t = (Tr.lf : Tr Value).get t) (h2 : ∀ t, Operand.tmp t ∈ xs → A'.get t = T.get t ∨ T.get t = none ∧ A'.get t = (Tr.lf : Tr Value).get t) :
    (∀ t, Operand.tmp t ∉ xs → A'.get t = none) ∧ ∀ t, Operand.tmp t ∈ xs → (A'.get t).getD undef = (T.get t).getD undef :=
  ⟨h1, fun t ht => by
    rcases h2 t ht with h | ⟨h, h3⟩
    · rw [h]
    · rw [h, h3]; rfl⟩
theorem NewS.row {cs : List Value} {t : TypeId} {k : Nat} {v : Value} (u : Nat → Value) (hrun : ∀ (G : Gh) (a : Act) (w : World), TR G T m a.tmps → (execOp a.eval o).run P w = .ok (.value (u w.heap.size)) (w.alloc (.cells ⟨cs.map (den G)⟩ t)))
    (hv : ∀ (G : Gh) (s : Nat), G k = ⟨s, 0, 0, 0, 0⟩ → u s = den G v) : NewS P T m o k (.c cs t 0) v :=
  ⟨u, fun G => .cells ⟨cs.map (den G)⟩ t, hrun, hv, fun G w hn => ⟨[], [], by
    rw [hn]
    simpa using World.alloc_heap_new w (.cells ⟨cs.map (den G)⟩ t), ⟨fun _ => ⟨rfl, rfl, by rw [hn]⟩, fun h => absurd rfl h, by rw [hn]; rfl⟩⟩⟩
theorem newV_spec (hok : ∀ x ∈ o.op.operands.toList, opdOk x = true) {k : Nat} {K : Value → Bk → β} : newV P z T o k K = z ∨ ∃ v b, newV P z T o k K = K v b ∧ NewS P T m o k b v := by
  unfold newV
  split
  · rename_i t ho
    split
    · rename_i cs hz
      obtain ⟨i, v0, hi, hzv, hcs, hlen, _, hzd⟩ := tyZero_is hz
      have hc0 : v0.cells = ⟨cs⟩ := by rw [← hcs]
      refine .inr ⟨_, _, rfl, NewS.row (fun s => .pointer (some ⟨s, 0, none⟩)) (fun G a w ht => ?_) (fun G s hs => ?_)⟩
      · rw [hzd G]
        simp [execOp, ho, Instr.alloc, zeroValue, typeInfo, hi, hzv, newVar, newRow, hc0]
      · simp [den, dA, hs]
    · exact .inl rfl
  · rename_i t x ho
    have hx := hok x (by simp [ho, Op.operands])
    refine .inr ⟨_, _, rfl, NewS.row (fun s => .pointer (some ⟨s, 0, none⟩)) (fun G a w ht => ?_) (fun G s hs => ?_)⟩
    · have e := ev_den ht hx
      have e2 : (a.eval x).cells = ⟨(arrL (evT T x).cells).map (den G)⟩ := by
        apply Array.ext'
        rw [e, den_cells, arrL_toList]
      simp [execOp, ho, Instr.box, newVar, newRow, e2]
    · simp [den, dA, hs]
  · rename_i t l ps ho
    have hok : ∀ p ∈ ps.toList, opdOk p.2 = true := fun p hp => hok p.2 (by simp only [ho, Op.operands]; exact List.mem_map_of_mem hp)
    split
    · rename_i p hp
      split
      · rename_i zs sz hz hb hsz
        obtain ⟨he, inf, hinf, hsz'⟩ := tyE_is hp
        obtain ⟨i, v0, hi, hzv, hcs, hlen, _, hzd⟩ := tyZero_is hz
        rw [hinf] at hi
        cases hi
        have hs1 : inf.size = sz + 1 := hsz'.trans hsz
        rcases fillRK_spec (z := z) (m := m) (T := T) (sz := sz) ps.toList (zerosL zs l) (fun cs => K (.slice (some ⟨k, 0, none⟩) l l) (.c cs p.1 0)) hok with h | ⟨ds, h, hdl, h4⟩
        · exact .inl h
        · rcases Nat.eq_zero_or_pos l with hl0 | hl0
          · subst hl0
            refine .inr ⟨_, _, h, NewS.row (fun s => .slice (some ⟨s, 0, none⟩) 0 0) (fun G a w ht => ?_) (fun G s hs => ?_)⟩
            · have hf := h4 G a ht
              have hd0 : ds = [] := List.eq_nil_of_length_eq_zero (by rw [hdl]; simp [zerosL])
              subst hd0
              simp only [zerosL, List.replicate_zero, List.flatten_nil, List.map_nil] at hf
              have hps : (ps.map fun x => (x.1, a.eval x.2)).toList = ps.toList.map fun p => (p.1, a.eval p.2) := by simp
              have e0 : (Array.range 0) = (#[] : Array Nat) := rfl
              simp [execOp, ho, Instr.buildSlice, run_underlying he, sizeOf, typeInfo, hinf, newRow, hs1, e0, hf]
            · simp [den, dA, ext, hs]
          · refine .inr ⟨_, _, h, NewS.row (fun s => .slice (some ⟨s, 0, none⟩) l l) (fun G a w ht => ?_) (fun G s hs => ?_)⟩
            · have hf := h4 G a ht
              rw [zerosL_den (hzd G)] at hf
              have hc0 : v0.cells.size = inf.size := by rw [← hlen, ← hcs]; simp
              have hz2 : ((Array.range (l * inf.size)).map (v0.cells[· % v0.cells.size]!)) = (zerosL zs l).toArray := by
                apply Array.ext'
                rw [range_zeros v0.cells inf.size hc0 l, hcs]
              have hb2 : l * inf.size ≤ 2 ^ 24 := by
                have := Nat.le_of_ble_eq_true hb
                rw [hsz']
                exact this
              have := run_buildSlice (P := P) w t p.1 l (ps.map fun (i, x) => (i, a.eval x)) ⟨ds.map (den G)⟩ inf v0 he hinf hzv (by omega) (by rw [hs1]; exact Nat.ne_of_gt (Nat.mul_pos hl0 (Nat.succ_pos _))) (by
                rw [hz2, Array.toList_map, hs1]
                exact hf)
              simp [execOp, ho, this]
            · simp [den, dA, ext, hs]
      · exact .inl rfl
    · exact .inl rfl
  · rename_i t r ho
    split
    · refine .inr ⟨_, _, rfl, fun s => .map (some s), fun _ => .map #[] 0, fun G a w _ => by simp [execOp, ho, Instr.makeMap], fun G s hs => by simp [den, hs], fun G w hn => ?_⟩
      show (w.alloc (.map #[] 0)).heap[(G k).b]? = _
      rw [hn]
      exact World.alloc_heap_new w _
    · exact .inl rfl
  · exact .inl rfl
theorem exec_same {a a0 : Act} (hds : noDS o = true) (he : ∀ x ∈ o.op.operands, a.eval x = a0.eval x) : execOp a.eval o = execOp a0.eval o :=
  execOp_congr o (fun cs b e => by unfold noDS at hds; rw [e] at hds; cases hds) he
theorem OpS.eff {H H' : CH} {v : Value} (hds : noDS o = true) (h : OpS P T m o H v H') : EffS P T m o H v H' := by
  intro r nn al G0 a a0 w K' Q he ht hS hK
  obtain ⟨al', G', w', t1, hS1, u, hr, hu⟩ := h al G0 a0 w ht hS
  refine wpIn_runs hds ?_ (hK al' G' w' u t1 hS1 hu)
  unfold Runs at hr ⊢
  rw [exec_same hds he]
  exact hr
theorem effK_spec (hs : Sound P z ih) (hds : noDS o = true) (hok : ∀ x ∈ o.op.operands.toList, opdOk x = true) {H : CH} {K : Value → CH → β} : effK P z ih T o H K = z ∨ ∃ v H', effK P z ih T o H K = K v H' ∧ EffS P T m o H v H' := by
  have other : opV P z T o H K = z ∨ ∃ v H', opV P z T o H K = K v H' ∧ EffS P T m o H v H' := (opV_spec (m := m) hok (K := K)).imp id fun ⟨v, H', h1, h2⟩ => ⟨v, H', h1, h2.eff hds⟩
  unfold effK
  split
  · rename_i c ho
    split
    · rename_i f hc
      have hof : opdOk f = true := hok f (by simp [ho, Op.operands, Call.operands, hc])
      have hoa : ∀ x ∈ c.args.toList, opdOk x = true := fun x hx => hok x (by simp [ho, Op.operands, Call.operands, hc, Array.mem_toList_iff.1 hx])
      split
      · rename_i g first cap hv
        split
        · rename_i hB
          have hE : ∀ args w, (callFunc g args).run P w = .ok (.enter g args) w := tyB_spec hB
          generalize hK1 : (fun (e : Ex) (_ : Fr) (H : CH) => _) = K1
          rcases hs (.fn g (arrL first ++ (arrL (c.args.map (evT T)) ++ arrL cap))) noF H K1 with h | ⟨e, Fx, H1, h, hfn⟩
          · exact .inl h
          rw [h, ← hK1]
          cases e with
          | val v =>
            refine .inr ⟨v, H1, rfl, fun r nn al G0 a a0 w K' Q he ht hS hK => ?_⟩
            have ev0 : ∀ G, Ag al G0 G → a0.eval f = .func (.func g) ⟨(arrL first).map (den G)⟩ ⟨(arrL cap).map (den G)⟩ := fun G hG => by
              rw [ev_den (ht G hG) hof, hv]
              exact den_func G _ _ _
            have hargs : ∀ G, Ag al G0 G → (c.args.map a0.eval).toList = (arrL (c.args.map (evT T))).map (den G) := fun G hG => by
              rw [arrL_toList, Array.toList_map, Array.toList_map]
              exact evs_den (ht G hG) hoa
            have hrun : (execOp a0.eval o).run P w = .ok (.enter g (⟨(arrL first).map (den G0)⟩ ++ c.args.map a0.eval ++ ⟨(arrL cap).map (den G0)⟩)) w := by
              simp only [execOp, ho, resolve, hc, ev0 G0 .rfl, Deferred.ofValue, invoke, hE, Sem.run_bind, Sem.run_pure, Result.andThen_ok]
            refine wpIn_noDef (fun c' => by rw [ho]; simp) ?_
            rw [exec_same hds he, hrun]
            refine ⟨fun h => (nomatch h), hfn r (nn - 1) al G0 _ w _ (fun G hG => ?_) hS (fun al' G' w' t1 hS1 u hu => hK al' G' w' u t1 hS1 hu) (.inl ⟨v, rfl⟩)⟩
            have e1 := ev0 G hG
            rw [ev0 G0 .rfl] at e1
            injection e1 with _ e2 e3
            injection e2 with e2
            injection e3 with e3
            apply Array.ext'
            rw [e2, e3, Array.toList_append, Array.toList_append, hargs G hG]
            simp
          | _ => exact .inl rfl
        · exact .inl rfl
      · exact .inl rfl
    · exact other
  · exact other
theorem kd_isQ (op : Op) (h : kdOf op = .q ∨ kdOf op = .l) : isQ op = true := by
  cases op with
  | call c =>
    cases hc : c.callee with
    | builtin b => cases b <;> simp [kdOf, isQ, hc] at h ⊢
    | value f => simp [kdOf, hc] at h
    | invoke a b => simp [kdOf, hc] at h
  | _ => simp [kdOf, isQ] at h ⊢
theorem backOk_spec {an i k n : Nat} {v : Value} (hok : ∀ x ∈ o.op.operands.toList, opdOk x = true) (hq : isQ o.op = true) : ∀ (es : List (Nat × CH)), backOk P an i k n v T o es = true →
    ∀ (q : Nat) (p : Nat × CH), es[q]? = some p → (∀ (q' : Nat) (p' : Nat × CH), q' ≤ q → es[q']? = some p' → isAnc an p'.1 i = false) → (n = k → OpP P T m o ⟨p.2.h, k⟩ v) ∧ (n ≠ k → OpD P T m o ⟨p.2.h, k⟩ v)
  | [], _, q, p, hp, _ => by simp at hp
  | p0 :: es, h, q, p, hp, hno => by
    have e : backOk P an i k n v T o (p0 :: es) = match isAnc an p0.1 i with
      | true => true
      | false => opV P false T o ⟨p0.2.h, k⟩ fun v' H' => match Nat.beq H'.n n && eqVal v v' with
        | true => backOk P an i k n v T o es
        | false => false := rfl
    rw [e, hno 0 p0 (Nat.zero_le _) rfl] at h
    dsimp only at h
    generalize hK1 : (fun (v' : Value) (H' : CH) => _) = K1 at h
    rcases opV_specW (P := P) (T := T) (m := m) (z := false) (H := ⟨p0.2.h, k⟩) (o := o) hok (K := K1) with h1 | ⟨v', H', h1, h2⟩
    · rw [h1] at h; cases h
    · rw [h1, ← hK1] at h
      dsimp only at h
      split at h
      · rename_i hb
        simp only [Bool.and_eq_true, Nat.beq_eq] at hb
        obtain ⟨hb1, hb2⟩ := hb
        have := eqVal_eq _ _ hb2
        subst this
        cases q with
        | zero =>
          cases hp
          exact ⟨fun hn => h2.2.1 hq (hb1.trans hn), fun hn => h2.2.2 hq fun hc => hn (hb1.symm.trans hc)⟩
        | succ q => exact backOk_spec hok hq es h q p (by simpa using hp) fun q' p' hq' hp' => hno (q' + 1) p' (by omega) (by simpa using hp')
      · cases h
theorem wantK_spec {F : Fr} {K : Bool → β} : wantK z ops o F.T K = z ∨ ∃ b, wantK z ops o F.T K = K b ∧ match o.guard with
    | none => b = true
    | some (j, c) => ∃ (oj : Oper) (d : Nat), ops[j]? = some oj ∧ oj.dst = some d ∧ b = isTrue ((F.T.get d).getD undef) c := by
  unfold wantK
  split
  · rename_i hg
    exact .inr ⟨true, rfl, by rw [hg]⟩
  · rename_i j c hg
    rw [hg]
    split
    · rename_i oj hj
      split
      · rename_i d hd
        split
        · rename_i b hb
          rw [evT_tmp] at hb
          exact .inr ⟨_, rfl, oj, d, hj, hd, by rw [hb]; rfl⟩
        · rename_i hnb
          refine .inr ⟨_, rfl, oj, d, hj, hd, ?_⟩
          unfold isTrue
          split
          · rename_i c' hc'
            rw [← evT_tmp] at hc'
            exact absurd hc' (hnb c')
          · rfl
      · exact .inl rfl
    · exact .inl rfl
theorem putF_get {d : Option Nat} {v : Value} {F : Fr} {K : Fr → β} : putF z d v F K = z ∨ ∃ F', putF z d v F K = K F' ∧ F'.m = F.m ∧ F'.D = F.D ∧ F'.q = F.q ∧ (∀ d', d = some d' → d' < F.m) ∧ ∀ t, F'.T.get t = if d = some t then some v else F.T.get t := by
  unfold putF
  obtain ⟨T0, m, D, q⟩ := F
  cases d with
  | none => exact .inr ⟨_, rfl, rfl, rfl, rfl, ⟨fun _ h => (nomatch h), fun t => by rw [if_neg (by simp)]⟩⟩
  | some d =>
    dsimp only
    split
    · rename_i hd
      rcases putS_spec z v 40 d T0 (fun T => K ⟨T, m, D, q⟩) with h | ⟨T, h, hT⟩
      · exact .inl h
      · refine .inr ⟨_, h, rfl, rfl, rfl, fun d' h => by cases h; simpa [Nat.blt_eq] using hd, fun t => ?_⟩
        dsimp only
        rw [hT]
        by_cases e : t = d
        · subst e; simp
        · rw [if_neg e, if_neg (by simpa using Ne.symm e)]
    · exact .inl rfl
end
end Go.Proofs.YtmhnlkakbadkgaaGreat.Ck
