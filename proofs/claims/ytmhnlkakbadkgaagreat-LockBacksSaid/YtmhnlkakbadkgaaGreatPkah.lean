/- Part 8 of the proof of LockBacks: contracts of functions that the law reaches, or the rules by which they are walked. No condition. -/
import Derived.Test.YtmhnlkakbadkgaaGreatPkaf
import Derived.Laws.StructEq
namespace Go.Proofs.YtmhnlkakbadkgaaGreat
open Go.RowKit Go.Shelf
def fitS : Nat → Value → Value → Option Bool
  | 0, .bool a, .bool b => some (a == b)
  | n + 1, .int k a, .int k' b => bif (Nat.beq (ikN k) n && Nat.beq (ikN k') n) then some (a == b) else none
  | _, _, _ => none
def fitL : List Nat → List Value → List Value → Option Bool
  | [], [], [] => some true
  | k :: ks, x :: xs, y :: ys => match fitS k x y, fitL ks xs ys with
    | some a, some b => some (a && b)
    | _, _ => none
  | _, _, _ => none
theorem fitL_split : ∀ {ks r : List Nat} {xs ys : List Value} {q : Bool}, fitL (ks ++ r) xs ys = some q → ∃ a b, fitL ks (xs.take ks.length) (ys.take ks.length) = some a ∧ fitL r (xs.drop ks.length) (ys.drop ks.length) = some b ∧ q = (a && b)
  | [], r, xs, ys, q, h => ⟨true, q, by simp [fitL], by simpa using h, by simp⟩
  | k :: ks, r, [], ys, q, h => by cases h
  | k :: ks, r, x :: xs, [], q, h => by cases h
  | k :: ks, r, x :: xs, y :: ys, q, h => by
    simp only [List.cons_append, fitL] at h
    split at h
    · rename_i p s hp hs
      cases h
      obtain ⟨a, b, h1, h2, h3⟩ := fitL_split (ks := ks) hs
      refine ⟨p && a, b, ?_, by simpa using h2, by rw [h3, Bool.and_assoc]⟩
      simp only [List.length_cons, List.take_succ_cons, fitL, hp, h1]
    · cases h
theorem fitL_len : ∀ {ks : List Nat} {xs ys : List Value} {q : Bool}, fitL ks xs ys = some q → xs.length = ks.length ∧ ys.length = ks.length
  | [], [], [], _, _ => ⟨rfl, rfl⟩
  | k :: ks, x :: xs, y :: ys, q, h => by
    simp only [fitL] at h
    split at h
    · rename_i p s hp hs
      have := fitL_len hs
      simp [this]
    · cases h
def flatF (g : TypeId → Option (List Nat)) : List Field → Nat → Option (List Nat)
  | [], _ => some []
  | f :: fs, o => bif (f.name != "_" && Nat.beq f.offset o) then (match g f.type with
    | some ks => (match flatF g fs (o + ks.length) with
      | some r => some (ks ++ r)
      | none => none)
    | none => none) else none
def flatK (P : Program) : Nat → TypeId → Option (List Nat)
  | 0, _ => none
  | d + 1, t => match P.underlying t, P.info? t with
    | some (.int k), some i => bif Nat.beq i.size 1 then some [ikN k + 1] else none
    | some .bool, some i => bif Nat.beq i.size 1 then some [0] else none
    | some (.struct fs), some i => bif P.stoodInHeld t then none else (match flatF (flatK P d) fs.toList 0 with
      | some ks => bif Nat.beq i.size ks.length then some ks else none
      | none => none)
    | some (.array len e), some i => match flatK P d e with
      | some ks => bif Nat.beq i.size (len * ks.length) then some (List.replicate len ks).flatten else none
      | none => none
    | _, _ => none
def isScal (P : Program) (t : TypeId) : Bool := match P.underlying t with
  | some (.int _) => true
  | some .bool => true
  | _ => false
def mkF (P : Program) (t : TypeId) (xs : List Value) : Value := bif isScal P t then xs.headD undef else .agg xs.toArray
theorem flatK_tyK {P : Program} {d : Nat} {t : TypeId} {ks : List Nat} (h : flatK P d t = some ks) : (isScal P t = true ∧ ks.length = 1 ∧ tyK P t = some none) ∨ (isScal P t = false ∧ tyK P t = some (some ks.length)) := by
  cases d with
  | zero => cases h
  | succ d =>
    unfold flatK at h
    unfold isScal tyK
    split at h
    · rename_i k i hk hi
      rw [cond_eq_ite] at h
      split at h
      · rename_i hs; cases h; rw [Nat.beq_eq] at hs; simp [hk, hi, hs]
      · cases h
    · rename_i i hk hi
      rw [cond_eq_ite] at h
      split at h
      · rename_i hs; cases h; rw [Nat.beq_eq] at hs; simp [hk, hi, hs]
      · cases h
    · rename_i fs i hk hi
      rw [cond_eq_ite] at h
      split at h
      · cases h
      · split at h
        · rw [cond_eq_ite] at h
          split at h
          · rename_i hs; cases h; rw [Nat.beq_eq] at hs; simp [hk, hi, hs]
          · cases h
        · cases h
    · rename_i len e i hk hi
      split at h
      · rename_i q hq
        rw [cond_eq_ite] at h
        split at h
        · rename_i hs; cases h; rw [Nat.beq_eq] at hs; simp [hk, hi, hs]
        · cases h
      · cases h
    · cases h
theorem part_flat {P : Program} {d : Nat} {t : TypeId} {ks : List Nat} (h : flatK P d t = some ks) {cs : List Value} {o : Nat} (ho : o + ks.length ≤ cs.length) (w : World) : (part t cs.toArray o).run P w = .ok (mkF P t ((cs.drop o).take ks.length)) w := by
  rcases flatK_tyK h with ⟨h1, h3, h2⟩ | ⟨h1, h2⟩
  · have hlt : o < cs.length := by omega
    refine run_part h2 ?_ w
    simp only [partV, mkF, h1, cond_true, h3]
    rw [List.getElem?_eq_getElem hlt, List.drop_eq_getElem_cons hlt]
    rfl
  · refine run_part h2 ?_ w
    simp only [partV, mkF, h1, cond_false, if_pos ho]
def eqElems (d : Nat) (e : TypeId) (n : Nat) (xs ys : Array Value) : List Nat → Sem Bool
  | [] => pure true
  | i :: r => do
    let a ← part e xs (i * n)
    let b ← part e ys (i * n)
    let q ← Op.equalIn d e a b
    if (!q) = true then pure false else eqElems d e n xs ys r
theorem run_equalIn_array {P : Program} (w : World) (d : Nat) (t : TypeId) (xs ys : Array Value) {len : Nat} {e : TypeId} {i : TypeInfo} (ht : P.underlying t = some (.array len e)) (hi : P.info? e = some i) :
    (Op.equalIn (d + 1) t (.agg xs) (.agg ys)).run P w = (eqElems d e i.size xs ys (List.range' 0 len)).run P w := by
  simp only [Op.equalIn, Sem.run_bind, run_underlying ht, Result.andThen_ok, sizeOf, typeInfo, run_program, hi, Sem.run_pure]
  rw [Std.Legacy.Range.forIn_eq_forIn_range']
  have hsz : (Std.Legacy.Range.size [0:len]) = len := by simp [Std.Legacy.Range.size]
  rw [hsz]
  simp only
  generalize List.range' 0 len = ls
  clear ht
  induction ls generalizing w with
  | nil => simp [eqElems]
  | cons k ls ih =>
    simp only [List.forIn_cons, eqElems, Sem.run_bind, Sem.run_ite]
    generalize (part e xs (k * i.size)).run P w = r1
    cases r1 with
    | ok a w1 =>
      simp only [Result.andThen_ok]
      generalize (part e ys (k * i.size)).run P w1 = r2
      cases r2 with
      | ok b w2 =>
        simp only [Result.andThen_ok]
        generalize (Op.equalIn d e a b).run P w2 = r3
        cases r3 with
        | ok r w3 =>
          cases r
          · simp only [Result.andThen_ok, Bool.not_false, if_true, Sem.run_pure]
          · simp only [Result.andThen_ok, Bool.not_true, Bool.false_eq_true, if_false, Sem.run_pure]
            exact ih w3
        | halt x w3 => simp [Result.andThen]
      | halt x w2 => simp [Result.andThen]
    | halt x w1 => simp [Result.andThen]
theorem fit_scal {k : Nat} {xs ys : List Value} {r : Bool} (h : fitL [k] xs ys = some r) : ∃ x y, xs = [x] ∧ ys = [y] ∧ fitS k x y = some r := by
  obtain ⟨h1, h2⟩ := fitL_len h
  match xs, ys, h1, h2 with
  | [x], [y], _, _ =>
    refine ⟨x, y, rfl, rfl, ?_⟩
    simp only [fitL] at h
    split at h
    · rename_i a b ha hb
      cases hb
      cases h
      rw [ha, Bool.and_true]
    · cases h
theorem equalIn_flat {P : Program} : ∀ {d : Nat} {t : TypeId} {ks : List Nat}, flatK P d t = some ks → ∀ {xs ys : List Value} {r : Bool}, fitL ks xs ys = some r → ∀ {d' : Nat}, d ≤ d' → ∀ w, (Op.equalIn d' t (mkF P t xs) (mkF P t ys)).run P w = .ok r w
  | d + 1, t, ks, h, xs, ys, r, he, d' + 1, hd, w => by
    have hd1 : d ≤ d' := by omega
    have ih : ∀ {t : TypeId} {ks : List Nat}, flatK P d t = some ks → ∀ {xs ys : List Value} {r : Bool}, fitL ks xs ys = some r → ∀ w, (Op.equalIn d' t (mkF P t xs) (mkF P t ys)).run P w = .ok r w := fun h1 _ _ _ h2 w => equalIn_flat h1 h2 hd1 w
    have h0 := h
    unfold flatK at h
    split at h
    · rename_i k i hk hi
      rw [cond_eq_ite] at h
      split at h
      · cases h
        obtain ⟨x, y, rfl, rfl, hf⟩ := fit_scal he
        have hs : isScal P t = true := by unfold isScal; rw [hk]
        simp only [mkF, hs, cond_true, List.headD_cons]
        unfold fitS at hf
        split at hf
        · rename_i h5; cases h5
        · rename_i n k1 a k2 b h5
          rw [cond_eq_ite] at hf
          split at hf
          · rename_i h6
            cases hf
            simp only [Bool.and_eq_true, Nat.beq_eq] at h6
            have e1 := ikN_inj (h6.1.trans h6.2.symm)
            subst e1
            exact run_equalIn_int w d' t k1 k a b hk
          · cases hf
        · cases hf
      · cases h
    · rename_i i hk hi
      rw [cond_eq_ite] at h
      split at h
      · cases h
        obtain ⟨x, y, rfl, rfl, hf⟩ := fit_scal he
        have hs : isScal P t = true := by unfold isScal; rw [hk]
        simp only [mkF, hs, cond_true, List.headD_cons]
        unfold fitS at hf
        split at hf
        · rename_i a b h5
          cases hf
          exact run_equalIn_bool' w d' t a b hk
        · rename_i h5; cases h5
        · cases hf
      · cases h
    · rename_i fs i hk hi
      rw [cond_eq_ite] at h
      split at h
      · cases h
      · rename_i hst
        have hst : P.stoodInHeld t = false := by simpa using hst
        split at h
        · rename_i ks' hks
          rw [cond_eq_ite] at h
          split at h
          · cases h
            have hs : isScal P t = false := by unfold isScal; rw [hk]
            simp only [mkF, hs, cond_false]
            have hfo : P.fieldsOf t = fs := by simp [Program.fieldsOf, hk]
            rw [run_equalIn_struct w d' t _ _ (by rw [hfo]; exact hk) hst, hfo]
            obtain ⟨hlx, hly⟩ := fitL_len he
            have key : ∀ (fl : List Field) (o : Nat) (kr : List Nat) (q : Bool), flatF (flatK P d) fl o = some kr → o + kr.length = ks.length → fitL kr (xs.drop o) (ys.drop o) = some q → ∀ w, (Op.eqFields d' xs.toArray ys.toArray fl).run P w = .ok q w := by
              intro fl
              induction fl with
              | nil =>
                intro o kr q h1 h2 h3 w
                cases h1
                have : q = true := by
                  simp only [List.length_nil, Nat.add_zero] at h2
                  rw [List.drop_of_length_le (by omega), List.drop_of_length_le (by omega)] at h3
                  cases h3; rfl
                subst this
                simp [Op.eqFields]
              | cons f fl ihf =>
                intro o kr q h1 h2 h3 w
                unfold flatF at h1
                rw [cond_eq_ite] at h1
                split at h1
                · rename_i hc
                  simp only [Bool.and_eq_true, bne_iff_ne, ne_eq, Nat.beq_eq] at hc
                  split at h1
                  · rename_i k1 hk1
                    split at h1
                    · rename_i k2 hk2
                      cases h1
                      obtain ⟨a, b, g1, g2, rfl⟩ := fitL_split h3
                      rw [List.length_append] at h2
                      have p1 := part_flat hk1 (cs := xs) (o := o) (by omega)
                      have p2 := part_flat hk1 (cs := ys) (o := o) (by omega)
                      simp only [Op.eqFields, ne_eq, hc.1, not_false_eq_true, if_true, hc.2, Sem.run_bind, p1, p2, Result.andThen_ok, ih hk1 g1 w]
                      cases a
                      · simp
                      · simp only [Bool.not_true, Bool.false_eq_true, if_false, Bool.true_and]
                        exact ihf (o + k1.length) k2 b hk2 (by omega) (by rw [List.drop_drop, List.drop_drop] at g2; exact g2) w
                    · cases h1
                  · cases h1
                · cases h1
            exact key fs.toList 0 ks r hks (by simp) (by simpa using he) w
          · cases h
        · cases h
    · rename_i len e i hk hi
      split at h
      · rename_i ke hke
        rw [cond_eq_ite] at h
        split at h
        · cases h
          have hs : isScal P t = false := by unfold isScal; rw [hk]
          simp only [mkF, hs, cond_false]
          obtain ⟨ie, hie, hsz⟩ : ∃ ie, P.info? e = some ie ∧ ie.size = ke.length := by
            rcases flatK_tyK hke with ⟨_, h3, h2⟩ | ⟨_, h2⟩
            · obtain ⟨_, ie, _, h5, h6, _⟩ := tyK_spec h2
              exact ⟨ie, h5, by rw [h6, h3]; rfl⟩
            · obtain ⟨_, ie, _, h5, h6, _⟩ := tyK_spec h2
              exact ⟨ie, h5, by rw [h6]; rfl⟩
          rw [run_equalIn_array w d' t _ _ hk hie, hsz]
          obtain ⟨hlx, hly⟩ := fitL_len he
          have hfl : ∀ m : Nat, (List.replicate m ke).flatten.length = m * ke.length := by intro m; simp
          rw [hfl] at hlx hly
          have key : ∀ (m k : Nat) (q : Bool), k + m = len → fitL (List.replicate m ke).flatten (xs.drop (k * ke.length)) (ys.drop (k * ke.length)) = some q → ∀ w, (eqElems d' e ke.length xs.toArray ys.toArray (List.range' k m)).run P w = .ok q w := by
            intro m
            induction m with
            | zero =>
              intro k q h1 h3 w
              have : q = true := by
                rw [List.drop_of_length_le (by rw [hlx, ← h1]; simp), List.drop_of_length_le (by rw [hly, ← h1]; simp)] at h3
                cases h3; rfl
              subst this
              simp [eqElems]
            | succ m ihm =>
              intro k q h1 h3 w
              rw [List.replicate_succ, List.flatten_cons] at h3
              obtain ⟨a, b, g1, g2, rfl⟩ := fitL_split h3
              have hb : k * ke.length + ke.length ≤ len * ke.length := by
                rw [← Nat.succ_mul]; exact Nat.mul_le_mul_right _ (by omega)
              have p1 := part_flat hke (cs := xs) (o := k * ke.length) (by omega)
              have p2 := part_flat hke (cs := ys) (o := k * ke.length) (by omega)
              simp only [List.range'_succ, eqElems, Sem.run_bind, p1, p2, Result.andThen_ok, ih hke g1 w]
              cases a
              · simp
              · simp only [Bool.not_true, Bool.false_eq_true, if_false, Bool.true_and]
                refine ihm (k + 1) b (by omega) ?_ w
                rw [List.drop_drop, List.drop_drop] at g2
                rw [Nat.succ_mul]
                exact g2
          exact key len 0 r (by omega) (by simpa using he) w
        · cases h
      · cases h
    · cases h
section
variable {X : Fx} {T : TE} {L : LE} {n : Nat} {F : List Fact} {D : DF} {K : KK} {k : KS} {o : Oper}
def eqOk (P : Program) (t : TypeId) : Bool := !(P.eqGuardType P.depth t) && !(isScal P t)
theorem yd_eqF {t t2 : TypeId} {x y : Operand} {ux uy : TV} {xs ys : List Value} {ks : List Nat} {r : Bool} (ht : flatK X.P 9 t = some ks) (hok : eqOk X.P t = true) (ho : o.op = .binOp .eql t x y t2) (hx : evS T x = some ux) (hy : evS T y = some uy) (hu : ∀ ρ, ux.den ρ = .agg xs.toArray) (hv : ∀ ρ, uy.den ρ = .agg ys.toArray)
    (hr : fitL ks xs ys = some r) : Yd X o T L F (.o (.v (.bool r))) := by
  simp only [eqOk, Bool.and_eq_true, Bool.not_eq_true'] at hok
  have hm : ∀ zs : List Value, mkF X.P t zs = .agg zs.toArray := fun zs => by simp [mkF, hok.2]
  refine yd_binOp ho hx hy hu hv (fun w => run_eqGuard_agg w .eql t x y _ _ hok.1) (fun w => ?_)
  have := equalIn_flat ht hr (d' := 10000) (by decide) w
  rw [hm, hm] at this
  rw [run_eql_struct, this]
  rfl
theorem yd_neF {t t2 : TypeId} {x y : Operand} {ux uy : TV} {xs ys : List Value} {ks : List Nat} {r : Bool} (ht : flatK X.P 9 t = some ks) (hok : eqOk X.P t = true) (ho : o.op = .binOp .neq t x y t2) (hx : evS T x = some ux) (hy : evS T y = some uy) (hu : ∀ ρ, ux.den ρ = .agg xs.toArray) (hv : ∀ ρ, uy.den ρ = .agg ys.toArray)
    (hr : fitL ks xs ys = some r) : Yd X o T L F (.o (.v (.bool (!r)))) := by
  simp only [eqOk, Bool.and_eq_true, Bool.not_eq_true'] at hok
  have hm : ∀ zs : List Value, mkF X.P t zs = .agg zs.toArray := fun zs => by simp [mkF, hok.2]
  refine yd_binOp ho hx hy hu hv (fun w => run_eqGuard_agg w .neq t x y _ _ hok.1) (fun w => ?_)
  have := equalIn_flat ht hr (d' := 10000) (by decide) w
  rw [hm, hm] at this
  rw [run_neq_struct, this]
  rfl
end
end Go.Proofs.YtmhnlkakbadkgaaGreat
