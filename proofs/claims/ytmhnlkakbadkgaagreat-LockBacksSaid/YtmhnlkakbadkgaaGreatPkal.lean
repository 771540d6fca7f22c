/- Part 12 of the proof of LockBacks: contracts of functions that the law reaches, or the rules by which they are walked. No condition. -/
import Derived.Test.YtmhnlkakbadkgaaGreatPkak
namespace Go.Proofs.YtmhnlkakbadkgaaGreat.Ck
open Go Go.RowKit Go.Shelf
set_option maxRecDepth 100000
section
variable {P : Program} {T : Tr Value} {m : Nat} {o : Oper} {H : CH} {β : Type} {z : β}
theorem semK_spec {s : Sem Value} {K : Value → β} : semK z s K = z ∨ ∃ v, semK z s K = K v ∧ s = .pure v ∧ ∀ G, den G v = v := by
  unfold semK
  split
  · split
    · exact .inr ⟨_, rfl, rfl, fun _ => rfl⟩
    · exact .inr ⟨_, rfl, rfl, fun _ => rfl⟩
    · exact .inr ⟨_, rfl, rfl, fun _ => rfl⟩
    · exact .inl rfl
  · exact .inl rfl
theorem fitS_den {k : Nat} {x y : Value} {q : Bool} (h : fitS k x y = some q) (G : Gh) : den G x = x ∧ den G y = y := by
  unfold fitS at h
  split at h
  · exact ⟨rfl, rfl⟩
  · exact ⟨rfl, rfl⟩
  · cases h
theorem fitL_den {G : Gh} : ∀ {ks : List Nat} {xs ys : List Value} {q : Bool}, fitL ks xs ys = some q → xs.map (den G) = xs ∧ ys.map (den G) = ys
  | [], [], [], _, _ => ⟨rfl, rfl⟩
  | k :: ks, x :: xs, y :: ys, q, h => by
    simp only [fitL] at h
    split at h
    · rename_i p s hp hs
      obtain ⟨h1, h2⟩ := fitL_den (G := G) hs
      obtain ⟨h3, h4⟩ := fitS_den hp G
      exact ⟨by rw [List.map_cons, h1, h3], by rw [List.map_cons, h2, h4]⟩
    · cases h
theorem tyBool_is {t : TypeId} (h : tyBool P t = true) : P.underlying t = some .bool := by
  unfold tyBool at h
  split at h
  · assumption
  · cases h
theorem tyPtr_is {t : TypeId} (h : tyPtr P t = true) : ∃ e, P.underlying t = some (.pointer e) := by
  unfold tyPtr at h
  split at h
  · exact ⟨_, by assumption⟩
  · cases h
theorem tySlc_is {t : TypeId} (h : tySlc P t = true) : ∃ e, P.underlying t = some (.slice e) := by
  unfold tySlc at h
  split at h
  · exact ⟨_, by assumption⟩
  · cases h
theorem tyFun_is {t : TypeId} (h : tyFun P t = true) : ∃ a b c, P.underlying t = some (.func a b c) := by
  unfold tyFun at h
  split at h
  · exact ⟨_, _, _, by assumption⟩
  · cases h
theorem run_eqb {P : Program} {op : BinOp} {t : TypeId} {u v : Value} {c d : Bool} {w : World} (hq : (Op.equal t u v).run P w = .ok c w) (hop : eqlR op c = some d) (h1 : ∀ s, u ≠ .string s) (h2 : ∀ k n, u ≠ .int k n) (h3 : ∀ k n, u ≠ .float k n) (h4 : ∀ k n l, u ≠ .complex k n l) :
    (binOp op t u v).run P w = .ok (.bool d) w := by
  unfold eqlR at hop
  split at hop
  · cases hop
    cases u <;> first | exact absurd rfl (h1 _) | exact absurd rfl (h2 _ _) | exact absurd rfl (h3 _ _) | exact absurd rfl (h4 _ _ _) | simp [binOp, hq]
  · cases hop
    cases u <;> first | exact absurd rfl (h1 _) | exact absurd rfl (h2 _ _) | exact absurd rfl (h3 _ _) | exact absurd rfl (h4 _ _ _) | simp [binOp, hq]
  · cases hop
theorem eqGuard_other {op : BinOp} {t : TypeId} {x y : Operand} {u v : Value} {w : World} (h1 : ∀ a b, u = .agg a → v = .agg b → False) (h2 : u = .nilIface → v = .nilIface → False) : (eqGuard op t x y u v).run P w = .ok () w := by
  have key : ∀ (p : Sem Unit) (q : Array Value → Array Value → Sem Unit), Sem.run P (match u, v with
      | .nilIface, .nilIface => p
      | .agg a, .agg b => q a b
      | _, _ => pure ()) w = .ok () w := fun p q => by
    split
    · exact (h2 rfl rfl).elim
    · exact (h1 _ _ rfl rfl).elim
    · rfl
  unfold eqGuard
  cases op <;> first | rfl | exact key _ (fun _ _ => _)
theorem eqq_ptr {t e : TypeId} (he : P.underlying t = some (.pointer e)) (d : Nat) (b : Option Addr) (w : World) : (Op.equalIn (d + 1) t (.pointer none) (.pointer b)).run P w = .ok b.isNone w := by
  cases b <;> simp [Op.equalIn, run_underlying he]
theorem eqq_ptr2 {t e : TypeId} (he : P.underlying t = some (.pointer e)) (d : Nat) (b : Addr) (w : World) : (Op.equalIn (d + 1) t (.pointer (some b)) (.pointer none)).run P w = .ok false w := by
  simp [Op.equalIn, run_underlying he]
theorem eqq_slc {t e : TypeId} (he : P.underlying t = some (.slice e)) (d : Nat) (b : Option Addr) (l c l' c' : Nat) (w : World) : (Op.equalIn (d + 1) t (.slice none l c) (.slice b l' c')).run P w = .ok b.isNone w := by
  simp [Op.equalIn, run_underlying he]
theorem eqq_slc2 {t e : TypeId} (he : P.underlying t = some (.slice e)) (d : Nat) (b : Addr) (l c l' c' : Nat) (w : World) : (Op.equalIn (d + 1) t (.slice (some b) l c) (.slice none l' c')).run P w = .ok false w := by
  simp [Op.equalIn, run_underlying he]
theorem eqq_fun {t : TypeId} {p q r} (he : P.underlying t = some (.func p q r)) (d : Nat) (w : World) : (Op.equalIn (d + 1) t .nilFunc .nilFunc).run P w = .ok true w := by
  simp [Op.equalIn, run_underlying he]
theorem eqq_fun2 {t : TypeId} {p q r} (he : P.underlying t = some (.func p q r)) (d : Nat) (f : Fn) (a b : Array Value) (w : World) : (Op.equalIn (d + 1) t .nilFunc (.func f a b)).run P w = .ok false w := by
  simp [Op.equalIn, run_underlying he]
theorem eqq_fun3 {t : TypeId} {p q r} (he : P.underlying t = some (.func p q r)) (d : Nat) (f : Fn) (a b : Array Value) (w : World) : (Op.equalIn (d + 1) t (.func f a b) .nilFunc).run P w = .ok false w := by
  simp [Op.equalIn, run_underlying he]
theorem eqV_run {t : TypeId} {u v : Value} {c d : Bool} {op : BinOp} (h : eqV P t u v = some c) (hop : eqlR op c = some d) (G : Gh) (x y : Operand) (w : World) :
    (eqGuard op t x y (den G u) (den G v)).run P w = .ok () w ∧ (binOp op t (den G u) (den G v)).run P w = .ok (.bool d) w := by
  unfold eqV at h
  split at h
  · split at h
    · cases h
      refine ⟨eqGuard_other (fun _ _ h => nomatch h) (fun h => nomatch h), run_eqb ?_ hop (fun _ h => nomatch h) (fun _ _ h => nomatch h) (fun _ _ h => nomatch h) (fun _ _ _ h => nomatch h)⟩
      exact run_equalIn_bool' w 9999 t _ _ (tyBool_is (by assumption))
    · cases h
  · split at h
    · cases h
      rename_i b _ ht
      obtain ⟨e, he⟩ := tyPtr_is ht
      refine ⟨eqGuard_other (fun _ _ h => nomatch h) (fun h => nomatch h), run_eqb ?_ hop (fun _ h => nomatch h) (fun _ _ h => nomatch h) (fun _ _ h => nomatch h) (fun _ _ _ h => nomatch h)⟩
      cases b with
      | none => exact eqq_ptr he 9999 none w
      | some b => exact eqq_ptr he 9999 (some (dA G b)) w
    · cases h
  · split at h
    · cases h
      rename_i a _ ht
      obtain ⟨e, he⟩ := tyPtr_is ht
      refine ⟨eqGuard_other (fun _ _ h => nomatch h) (fun h => nomatch h), run_eqb ?_ hop (fun _ h => nomatch h) (fun _ _ h => nomatch h) (fun _ _ h => nomatch h) (fun _ _ _ h => nomatch h)⟩
      exact eqq_ptr2 he 9999 (dA G a) w
    · cases h
  · split at h
    · cases h
      rename_i b _ _ _ ht
      obtain ⟨e, he⟩ := tySlc_is ht
      cases b with
      | none =>
        refine ⟨eqGuard_other (fun _ _ h => nomatch h) (fun h => nomatch h), run_eqb ?_ hop (fun _ h => nomatch h) (fun _ _ h => nomatch h) (fun _ _ h => nomatch h) (fun _ _ _ h => nomatch h)⟩
        exact eqq_slc he 9999 none _ _ _ _ w
      | some b =>
        refine ⟨eqGuard_other (fun _ _ h => nomatch h) (fun h => nomatch h), run_eqb ?_ hop (fun _ h => nomatch h) (fun _ _ h => nomatch h) (fun _ _ h => nomatch h) (fun _ _ _ h => nomatch h)⟩
        exact eqq_slc he 9999 (some (dA G b)) _ _ _ _ w
    · cases h
  · split at h
    · cases h
      rename_i ht
      obtain ⟨e, he⟩ := tySlc_is ht
      refine ⟨eqGuard_other (fun _ _ h => nomatch h) (fun h => nomatch h), run_eqb ?_ hop (fun _ h => nomatch h) (fun _ _ h => nomatch h) (fun _ _ h => nomatch h) (fun _ _ _ h => nomatch h)⟩
      exact eqq_slc2 he 9999 _ _ _ _ _ w
    · cases h
  · split at h
    · cases h
      rename_i ht
      obtain ⟨e, e2, e3, he⟩ := tyFun_is ht
      refine ⟨eqGuard_other (fun _ _ h => nomatch h) (fun h => nomatch h), run_eqb ?_ hop (fun _ h => nomatch h) (fun _ _ h => nomatch h) (fun _ _ h => nomatch h) (fun _ _ _ h => nomatch h)⟩
      exact eqq_fun he 9999 w
    · cases h
  · split at h
    · cases h
      rename_i fn f c _ ht
      obtain ⟨e, e2, e3, he⟩ := tyFun_is ht
      obtain ⟨f⟩ := f
      obtain ⟨c⟩ := c
      rw [den_func]
      refine ⟨eqGuard_other (fun _ _ h => nomatch h) (fun h => nomatch h), run_eqb ?_ hop (fun _ h => nomatch h) (fun _ _ h => nomatch h) (fun _ _ h => nomatch h) (fun _ _ _ h => nomatch h)⟩
      exact eqq_fun2 he 9999 _ _ _ w
    · cases h
  · split at h
    · cases h
      rename_i fn f c _ ht
      obtain ⟨e, e2, e3, he⟩ := tyFun_is ht
      obtain ⟨f⟩ := f
      obtain ⟨c⟩ := c
      rw [den_func]
      refine ⟨eqGuard_other (fun _ _ h => nomatch h) (fun h => nomatch h), run_eqb ?_ hop (fun _ h => nomatch h) (fun _ _ h => nomatch h) (fun _ _ h => nomatch h) (fun _ _ _ h => nomatch h)⟩
      exact eqq_fun3 he 9999 _ _ _ w
    · cases h
  · rename_i xs ys
    split at h
    · rename_i hok
      split at h
      · rename_i ks hks
        obtain ⟨hx, hy⟩ := fitL_den (G := G) h
        simp only [eqOk, Bool.and_eq_true, Bool.not_eq_true'] at hok
        have hm : ∀ zs : List Value, mkF P t zs = .agg zs.toArray := fun zs => by simp [mkF, hok.2]
        have := equalIn_flat hks h (d' := 10000) (by decide) w
        rw [hm, hm] at this
        rw [den_agg, den_agg, hx, hy]
        exact ⟨run_eqGuard_agg w op t x y _ _ hok.1, run_eqb this hop (fun _ h => nomatch h) (fun _ _ h => nomatch h) (fun _ _ h => nomatch h) (fun _ _ _ h => nomatch h)⟩
      · cases h
    · cases h
  · cases h
theorem cmpB_run {op : BinOp} {k : IntKind} {a b : Int} {c : Bool} (h : cmpB op a b = some c) (t : TypeId) (w : World) : (binOp op t (.int k a) (.int k b)).run P w = .ok (.bool c) w := by
  unfold cmpB at h
  split at h <;> cases h <;> simp [binOp, Op.intCmp]
theorem ariB_run {op : BinOp} {k : IntKind} {a b c : Int} (h : ariB op k a b = some c) (t : TypeId) (w : World) : (binOp op t (.int k a) (.int k b)).run P w = .ok (.int k c) w := by
  unfold ariB at h
  split at h <;> cases h <;> simp [binOp, Op.intArith]
theorem eqGuard_int {op : BinOp} {t : TypeId} {x y : Operand} {k k' : IntKind} {a b : Int} {w : World} : (eqGuard op t x y (.int k a) (.int k' b)).run P w = .ok () w := by
  unfold eqGuard
  cases op <;> simp
theorem eqGuard_str {op : BinOp} {t : TypeId} {x y : Operand} {a b : ByteArray} {w : World} : (eqGuard op t x y (.string a) (.string b)).run P w = .ok () w := by
  unfold eqGuard
  cases op <;> simp
theorem ops_binOp {op : BinOp} {x y : Operand} {t t2 : TypeId} (ho : o.op = .binOp op t x y t2) (hx : opdOk x = true) (hy : opdOk y = true) {K : Value → β} : binK P z op t (evT T x) (evT T y) K = z ∨ ∃ v, binK P z op t (evT T x) (evT T y) K = K v ∧ OpP P T m o H v := by
  unfold binK
  split
  · rename_i k a k' b hu hv
    have semi : semK z (binOp op t (.int k a) (.int k' b)) K = z ∨ ∃ v, semK z (binOp op t (.int k a) (.int k' b)) K = K v ∧ OpP P T m o H v := by
      rcases semK_spec (z := z) (s := binOp op t (.int k a) (.int k' b)) (K := K) with h | ⟨v, h, h1, h2⟩
      · exact .inl h
      · refine .inr ⟨v, h, OpP.mk fun G a w ht hr => ?_⟩
        have e1 := ev_den ht hx
        have e2 := ev_den ht hy
        rw [hu] at e1
        rw [hv] at e2
        simp only [den_int] at e1 e2
        simp only [execOp, ho, e1, e2, Sem.run_bind, eqGuard_int, Result.andThen_ok, h1, h2]
        rfl
    split
    · rename_i hk
      have hk : k = k' := by simpa using hk
      subst hk
      split
      · rename_i c hc
        refine op_val fun G a w ht hr => ?_
        have e1 := ev_den ht hx
        have e2 := ev_den ht hy
        rw [hu] at e1
        rw [hv] at e2
        simp only [den_int] at e1 e2
        simp only [execOp, ho, e1, e2, Sem.run_bind, eqGuard_int, Result.andThen_ok, cmpB_run hc, Sem.run_pure, den_bool]
      · split
        · rename_i c hc
          refine op_val fun G a w ht hr => ?_
          have e1 := ev_den ht hx
          have e2 := ev_den ht hy
          rw [hu] at e1
          rw [hv] at e2
          simp only [den_int] at e1 e2
          simp only [execOp, ho, e1, e2, Sem.run_bind, eqGuard_int, Result.andThen_ok, ariB_run hc, Sem.run_pure, den_int]
        · exact semi
    · exact semi
  · rename_i a b hu hv
    rcases semK_spec (z := z) (s := binOp op t (.string a) (.string b)) (K := K) with h | ⟨v, h, h1, h2⟩
    · exact .inl h
    · refine .inr ⟨v, h, OpP.mk fun G a w ht hr => ?_⟩
      have e1 := ev_den ht hx
      have e2 := ev_den ht hy
      rw [hu] at e1
      rw [hv] at e2
      simp only [den_string] at e1 e2
      simp only [execOp, ho, e1, e2, Sem.run_bind, eqGuard_str, Result.andThen_ok, h1, h2]
      rfl
  · split
    · rename_i c hc
      split
      · rename_i d hd
        refine op_val fun G a w ht hr => ?_
        have e1 := ev_den ht hx
        have e2 := ev_den ht hy
        obtain ⟨h1, h2⟩ := eqV_run hc hd G x y w
        simp only [execOp, ho, e1, e2, Sem.run_bind, h1, Result.andThen_ok, h2, Sem.run_pure, den_bool]
      · exact .inl rfl
    · exact .inl rfl
end
end Go.Proofs.YtmhnlkakbadkgaaGreat.Ck
namespace Go.Proofs.YtmhnlkakbadkgaaGreat.Ck
open Go Go.RowKit Go.Shelf
set_option maxRecDepth 100000
section
variable {P : Program} {T : Tr Value} {m : Nat} {o : Oper} {H : CH} {β : Type} {z : β}
theorem tyZero_is {t : TypeId} {zs : List Value} (h : tyZero P t = some zs) : ∃ i v, P.info? t = some i ∧ i.zero = some v ∧ v.cells.toList = zs ∧ zs.length = i.size ∧ plainV v = true ∧ ∀ G, zs.map (den G) = zs := by
  unfold tyZero at h
  split at h
  · rename_i i hi
    split at h
    · rename_i v hv
      split at h
      · rename_i hp
        cases h
        rw [Bool.and_eq_true] at hp
        refine ⟨i, v, hi, hv, rfl, by simpa using hp.2, hp.1, fun G => ?_⟩
        rw [← den_cells, den_plain G v hp.1]
      · cases h
    · cases h
  · cases h
theorem arrL_toList {γ : Type} (a : Array γ) : arrL a = a.toList := rfl
theorem fillK_spec {fs : List (Nat × Nat)} {place : Nat → Option (Nat × Nat)} (hpl : ∀ i p, fs[i]? = some p → ∀ kd, tyK P p.2 = some kd → place i = some (p.1, kd.getD 1) ∧ kd.getD 1 ≠ 0) :
    ∀ (ps : List (Nat × Operand)) (cs : List Value) (K : List Value → β), (∀ p ∈ ps, opdOk p.2 = true) → fillK P z T fs ps cs K = z ∨ ∃ ds, fillK P z T fs ps cs K = K ds ∧
      ∀ (G : Gh) (a : Act), TR G T m a.tmps → Instr.fill place (cs.map (den G)).toArray (ps.map fun p => (p.1, a.eval p.2)) = some (ds.map (den G)).toArray
  | [], cs, K, _ => .inr ⟨cs, rfl, fun _ _ _ => rfl⟩
  | p :: ps, cs, K, hok => by
    have e : fillK P z T fs (p :: ps) cs K = match fs[p.1]? with
      | some q => match tyK P q.2 with
        | some kd => match Nat.beq (evT T p.2).cells.size (kd.getD 1) with
          | true => setsK z (arrL (evT T p.2).cells) cs q.1 fun cs => fillK P z T fs ps cs K
          | false => z
        | none => z
      | none => z := rfl
    rw [e]
    split
    · rename_i q hq
      split
      · rename_i kd hkd
        split
        · rename_i hsz
          have hsz := Nat.eq_of_beq_eq_true hsz
          obtain ⟨hp1, hp2⟩ := hpl _ _ hq _ hkd
          rcases setsK_spec (z := z) (arrL (evT T p.2).cells) cs q.1 (fun cs => fillK P z T fs ps cs K) with h | ⟨h, h2, _⟩
          · exact .inl h
          · have hl : (evT T p.2).cells.toList.length = kd.getD 1 := by simpa using hsz
            have h2 : q.1 + (evT T p.2).cells.toList.length ≤ cs.length := by
              rcases h2 with h2 | h2
              · rw [arrL_toList] at h2; rw [h2] at hl; simp at hl; omega
              · exact h2
            rcases fillK_spec hpl ps (splV cs q.1 (evT T p.2).cells.toList) K (fun p hp => hok p (List.mem_cons_of_mem _ hp)) with h3 | ⟨ds, h3, h4⟩
            · exact .inl (h.trans h3)
            · refine .inr ⟨ds, h.trans h3, fun G a ht => ?_⟩
              have e1 := ev_den ht (hok p List.mem_cons_self)
              rw [List.map_cons, fill_cons (xs := (evT T p.2).cells.toList.map (den G)) hp1 (by rw [e1, ← den_cells]) (by simpa using hl) (by simpa using h2)]
              have := h4 G a ht
              rw [splV_map] at this
              exact this
        · exact .inl rfl
      · exact .inl rfl
    · exact .inl rfl
theorem fillRK_spec {sz : Nat} : ∀ (ps : List (Nat × Operand)) (cs : List Value) (K : List Value → β), (∀ p ∈ ps, opdOk p.2 = true) → fillRK z T (sz + 1) ps cs K = z ∨ ∃ ds, fillRK z T (sz + 1) ps cs K = K ds ∧ ds.length = cs.length ∧
      ∀ (G : Gh) (a : Act), TR G T m a.tmps → Instr.fill (fun i => some (i * (sz + 1), sz + 1)) (cs.map (den G)).toArray (ps.map fun p => (p.1, a.eval p.2)) = some (ds.map (den G)).toArray
  | [], cs, K, _ => .inr ⟨cs, rfl, rfl, fun _ _ _ => rfl⟩
  | p :: ps, cs, K, hok => by
    have e : fillRK z T (sz + 1) (p :: ps) cs K = match Nat.beq (evT T p.2).cells.size (sz + 1) with
      | true => setsK z (arrL (evT T p.2).cells) cs (Nat.mul p.1 (sz + 1)) fun cs => fillRK z T (sz + 1) ps cs K
      | false => z := rfl
    rw [e]
    split
    · rename_i hsz
      have hsz := Nat.eq_of_beq_eq_true hsz
      rcases setsK_spec (z := z) (arrL (evT T p.2).cells) cs (Nat.mul p.1 (sz + 1)) (fun cs => fillRK z T (sz + 1) ps cs K) with h | ⟨h, h2, _⟩
      · exact .inl h
      · have hl : (evT T p.2).cells.toList.length = sz + 1 := by simpa using hsz
        have h2 : p.1 * (sz + 1) + (evT T p.2).cells.toList.length ≤ cs.length := by
          rcases h2 with h2 | h2
          · rw [arrL_toList] at h2; rw [h2] at hl; simp at hl
          · exact h2
        rcases fillRK_spec ps (splV cs (p.1 * (sz + 1)) (evT T p.2).cells.toList) K (fun p hp => hok p (List.mem_cons_of_mem _ hp)) with h3 | ⟨ds, h3, h5, h4⟩
        · exact .inl (h.trans h3)
        · refine .inr ⟨ds, h.trans h3, h5.trans (splV_len h2), fun G a ht => ?_⟩
          have e1 := ev_den ht (hok p List.mem_cons_self)
          rw [List.map_cons, fill_cons (xs := (evT T p.2).cells.toList.map (den G)) rfl (by rw [e1, ← den_cells]) (by simpa using hl) (by simpa using h2)]
          have := h4 G a ht
          rw [splV_map] at this
          exact this
    · exact .inl rfl
theorem tyF_places {s : TypeId} {fs : List (Nat × Nat)} (h : tyF P s = some fs) : ∃ (fl : Array Field) (places : List (Nat × Nat)), P.underlying s = some (.struct fl) ∧ fl.toList.mapM (fun f => (P.info? f.type).map fun i => (f.offset, i.size)) = some places ∧
    ∀ (i : Nat) (p : Nat × Nat), fs[i]? = some p → ∀ kd, tyK P p.2 = some kd → (places.toArray[i]?) = some (p.1, kd.getD 1) ∧ kd.getD 1 ≠ 0 := by
  have h0 := h
  unfold tyF at h
  split at h
  · rename_i fl hfl
    split at h
    · rename_i hall
      cases h
      obtain ⟨places, hp1, hp2⟩ := places_of _ hall
      refine ⟨fl, places, hfl, hp1, fun i p hp kd hkd => ?_⟩
      obtain ⟨fl', h1, fd, h2, h3, h4, inf, h5, h6⟩ := tyF_spec h0 hp
      rw [hfl] at h1
      cases h1
      rw [← h4] at hkd
      have := hp2 i fd kd (by simpa using h2) hkd
      rw [h3] at this
      refine ⟨by simpa using this, ?_⟩
      obtain ⟨d, i', _, hi', hs, _⟩ := tyK_spec hkd
      rw [h5] at hi'
      cases hi'
      rw [← hs]
      exact h6
    · cases h
  · cases h
theorem ops_build {t : TypeId} {ps : Array (Nat × Operand)} (ho : o.op = .build t ps) (hok : ∀ p ∈ ps.toList, opdOk p.2 = true) {K : Value → β} : buildK P z T t ps.toList K = z ∨ ∃ v, buildK P z T t ps.toList K = K v ∧ OpP P T m o H v := by
  unfold buildK
  split
  · rename_i zs hz
    obtain ⟨i, v0, hi, hzv, hcs, hlen, _, hzd⟩ := tyZero_is hz
    have hc0 : v0.cells = zs.toArray := by rw [← hcs]
    split
    · rename_i fs hfs
      obtain ⟨fl, places, h1, h2, h3⟩ := tyF_places hfs
      rcases fillK_spec (z := z) (m := m) (T := T) (P := P) h3 ps.toList zs (fun cs => K (.agg ⟨cs⟩)) hok with h | ⟨ds, h, h4⟩
      · exact .inl h
      · refine .inr ⟨_, h, OpP.mk fun G a w ht hr => ?_⟩
        have hf := h4 G a ht
        rw [hzd G] at hf
        have hb : P.built t (ps.map fun (i, x) => (i, a.eval x)).toList = some (ds.map (den G)).toArray := by
          unfold Program.built
          simp only [hi, h1, hzv, h2, hc0]
          rw [Array.toList_map]
          exact hf
        simp only [execOp, ho, Sem.run_bind, run_build w t _ _ hb, Result.andThen_ok, Sem.run_pure, den_agg]
    · split
      · rename_i p hp
        obtain ⟨he, inf, hinf, hsz⟩ := tyA_is hp
        split
        · rename_i sz hs
          rcases fillRK_spec (z := z) (m := m) (T := T) (sz := sz) ps.toList zs (fun cs => K (.agg ⟨cs⟩)) hok with h | ⟨ds, h, _, h4⟩
          · exact .inl h
          · refine .inr ⟨_, h, OpP.mk fun G a w ht hr => ?_⟩
            have hf := h4 G a ht
            rw [hzd G] at hf
            have hb : P.built t (ps.map fun (i, x) => (i, a.eval x)).toList = some (ds.map (den G)).toArray := by
              unfold Program.built
              simp only [hi, he, hzv, hinf, hc0, hsz, hs]
              rw [Array.toList_map]
              exact hf
            simp only [execOp, ho, Sem.run_bind, run_build w t _ _ hb, Result.andThen_ok, Sem.run_pure, den_agg]
        · exact .inl rfl
      · exact .inl rfl
  · exact .inl rfl
theorem tyM_is {t e : TypeId} (h : tyM P t = some e) : ∃ k ik, P.underlying t = some (.map k e) ∧ P.underlying k = some (.int ik) := by
  unfold tyM at h
  split at h
  · rename_i k e' he
    split at h
    · rename_i ik hik
      cases h
      exact ⟨k, ik, he, tyIntK_is hik⟩
    · cases h
  · cases h
theorem findM_spec {ik : IntKind} {k : IntKind} {a : Int} : ∀ {es : List MapEntry} {i : Nat} {r : Option (Nat × Value)}, findM k a es i = some r → ∀ G : Gh, Instr.findNow (.int ik) (.int k a) (es.map (denE G)) i = some (r.map fun p => (p.1, den G p.2))
  | [], i, r, h, G => by simp only [findM, Option.some.injEq] at h; subst h; rfl
  | e :: es, i, r, h, G => by
    simp only [findM] at h
    split at h
    · rename_i k' b hk
      split at h
      · rename_i hkk
        have hkk : k = k' := by simpa using hkk
        subst hkk
        split at h
        · rename_i hab
          cases h
          simp [Instr.findNow, denE, hk, Instr.sameNow, hab]
        · rename_i hab
          have := findM_spec (ik := ik) h G
          simp [Instr.findNow, denE, hk, Instr.sameNow, hab, this]
      · cases h
    · cases h
theorem tyZeroV_is {t : TypeId} {v : Value} (h : tyZeroV P t = some v) : ∃ i, P.info? t = some i ∧ i.zero = some v ∧ plainV v = true := by
  unfold tyZeroV at h
  split at h
  · rename_i i hi
    split at h
    · rename_i v' hv
      split at h
      · rename_i hp; cases h; exact ⟨i, hi, hv, hp⟩
      · cases h
    · cases h
  · cases h
theorem run_getMap {P : Program} {w : World} {r : Nat} {es : Array MapEntry} {n : Nat} (h : w.heap[r]? = some (.map es n)) : (getObj r).run P w = .ok (.map es n) w := by
  simp [getObj, Sem.run, h]
theorem den_pair (G : Gh) (v : Value) (b : Bool) : den G (.tuple #[v, .bool b]) = .tuple #[den G v, .bool b] := den_tuple G [v, .bool b]
theorem run_checkKey {P : Program} {k : TypeId} {ik k' : IntKind} {a : Int} (hk : P.underlying k = some (.int ik)) (b : Bool) (d : Nat) (w : World) : (Instr.checkKey b (d + 1) k (.int k' a)).run P w = .ok () w := by
  simp [Instr.checkKey, run_underlying hk]
theorem ops_lookup {t : TypeId} {x i : Operand} {c : Bool} (ho : o.op = .lookup t x i c) (hx : opdOk x = true) (hi : opdOk i = true) {K : Value → β} : lookupK P z t (evT T x) (evT T i) c H K = z ∨ ∃ v, lookupK P z t (evT T x) (evT T i) c H K = K v ∧ OpP P T m o H v := by
  unfold lookupK
  split
  · rename_i e k a he hv
    obtain ⟨kt, ik, h1, h2⟩ := tyM_is he
    dsimp only
    split
    · rename_i hu
      split
      · rename_i v hz
        obtain ⟨inf, h3, h4, h5⟩ := tyZeroV_is hz
        refine op_val fun G a' w ht hr => ?_
        have e1 := ev_den ht hx
        have e2 := ev_den ht hi
        rw [hu] at e1
        rw [hv] at e2
        simp only [den_int] at e2
        simp only [den] at e1
        have hck := run_checkKey (P := P) (a := a) (k' := k) h2 true 9999 w
        cases c <;> simp [execOp, ho, e1, e2, Instr.lookup, run_underlying h1, hck, Instr.findKey, run_underlying h2, Instr.findNow, zeroValue, typeInfo, h3, h4, den_pair, den_plain G v h5]
      · exact .inl rfl
    · rename_i r hu
      split
      · rename_i es n hb
        have hb0 : ∀ (G : Gh) (w : World), HR G H.h w → w.heap[(G r).b]? = some (.map ⟨es.map (denE G)⟩ n) := fun G w hr => hr.bk r _ hb rfl
        split
        · rename_i p hf
          refine op_val fun G a' w ht hr => ?_
          have e1 := ev_den ht hx
          have e2 := ev_den ht hi
          rw [hu] at e1
          rw [hv] at e2
          simp only [den_int] at e2
          simp only [den] at e1
          have hff := findM_spec (ik := ik) hf G
          simp only [Option.map_some] at hff
          have hck := fun b => run_checkKey (P := P) (a := a) (k' := k) h2 b 9999 w
          cases c <;> simp [execOp, ho, e1, e2, Instr.lookup, run_underlying h1, run_getMap (hb0 G w hr), hck, Instr.findKey, run_underlying h2, hff, den_pair]
        · rename_i hf
          split
          · rename_i v hz
            obtain ⟨inf, h3, h4, h5⟩ := tyZeroV_is hz
            refine op_val fun G a' w ht hr => ?_
            have e1 := ev_den ht hx
            have e2 := ev_den ht hi
            rw [hu] at e1
            rw [hv] at e2
            simp only [den_int] at e2
            simp only [den] at e1
            have hff := findM_spec (ik := ik) hf G
            simp only [Option.map_none] at hff
            have hck := fun b => run_checkKey (P := P) (a := a) (k' := k) h2 b 9999 w
            cases c <;> simp [execOp, ho, e1, e2, Instr.lookup, run_underlying h1, run_getMap (hb0 G w hr), hck, Instr.findKey, run_underlying h2, hff, zeroValue, typeInfo, h3, h4, den_pair, den_plain G v h5]
          · exact .inl rfl
        · exact .inl rfl
      · exact .inl rfl
    · exact .inl rfl
  · exact .inl rfl
theorem callB {c : Call} {b : Builtin} {ts : List TypeId} {xs : List Operand} (ho : o.op = .call c) (hc : c.callee = .builtin b) (hts : c.argTypes.toList = ts) (hxs : c.args.toList = xs) (a : Act) :
    execOp a.eval o = builtin b ⟨ts⟩ o.type (c.args.map fun | .const _ => true | _ => false) ⟨xs.map a.eval⟩ := by
  have h1 : c.argTypes = ⟨ts⟩ := by rw [← hts]
  have h2 : c.args.map a.eval = ⟨xs.map a.eval⟩ := by rw [← hxs]; apply Array.ext'; simp
  simp only [execOp, ho, resolve, hc, h1, h2]
  rfl
theorem evs_den {G : Gh} {a : Act} (ht : TR G T m a.tmps) : ∀ {xs : List Operand}, (∀ x ∈ xs, opdOk x = true) → xs.map a.eval = (xs.map (evT T)).map (den G)
  | [], _ => rfl
  | x :: xs, h => by
    rw [List.map_cons, List.map_cons, List.map_cons, ev_den ht (h x List.mem_cons_self), evs_den ht fun y hy => h y (List.mem_cons_of_mem _ hy)]
theorem ops_len {c : Call} {ts : List TypeId} {x : Value} {args : List Operand} (ho : o.op = .call c) (hc : c.callee = .builtin .len) (hts : c.argTypes.toList = ts) (hxs : c.args.toList = args) (hok : ∀ x ∈ args, opdOk x = true) (hx : args.map (evT T) = [x])
    {K : Value → CH → β} : lenK P z ts x H K = z ∨ ∃ v, lenK P z ts x H K = K v H ∧ OpP P T m o H v := by
  have fin : ∀ {v : Value} {L : List TypeId}, ts = L → (∀ (G : Gh) (a : Act) (w : World), HR G H.h w → (Builtin.len_ ⟨L⟩ o.type #[den G x]).run P w = .ok (den G v) w) → K v H = z ∨ ∃ v', K v H = K v' H ∧ OpP P T m o H v' := fun {v L} hL h => by
    refine .inr ⟨v, rfl, OpP.mk fun G a w ht hr => ?_⟩
    rw [callB ho hc hts hxs a, evs_den ht hok, hx, hL]
    simp only [builtin, List.map_cons, List.map_nil, Sem.run_bind, h G a w hr, Result.andThen_ok, Sem.run_pure]
  unfold lenK
  split
  · rename_i t L a l cp
    split
    · rename_i h
      obtain ⟨e, he⟩ := tySlc_is h
      refine fin rfl fun G a' w hr => ?_
      cases a <;> simp [Builtin.len_, run_underlying he, den, goInt]
    · exact .inl rfl
  · rename_i t L s
    split
    · rename_i h
      have he := tyStr_is h
      refine fin rfl fun G a' w hr => ?_
      simp [Builtin.len_, run_underlying he, den, goInt]
    · exact .inl rfl
  · rename_i t L r
    split
    · rename_i e es n he hb
      obtain ⟨k, ik, h1, _⟩ := tyM_is he
      refine fin rfl fun G a' w hr => ?_
      have hb0 : w.heap[(G r).b]? = some (.map ⟨es.map (denE G)⟩ n) := hr.bk r _ hb rfl
      simp [Builtin.len_, run_underlying h1, den, goInt, run_getMap hb0]
    · exact .inl rfl
  · exact .inl rfl
theorem ext_zero {G : Gh} {b o : Nat} {sp : Option Nat} {c l p j op : Nat} (hr : Room (G b) l p j op) (h : op = 0 ∨ (sp.isSome || Nat.blt (Nat.add o (Nat.mul c op)) l) = true) : ext G ⟨b, o, sp⟩ c = 0 := by
  unfold ext
  rcases Nat.eq_zero_or_pos op with h0 | h0
  · split
    · rfl
    · exact (hr.1 h0).2.2
  · obtain ⟨h1, h2, _⟩ := hr.2.1 (by omega)
    rcases h with h | h
    · omega
    · rw [if_pos]
      simp only [Bool.or_eq_true, Nat.blt_eq] at h
      simp only [Bool.or_eq_true, decide_eq_true_eq]
      rcases h with h | h
      · exact .inl h
      · refine .inr ?_
        show o + c * (G b).sz < (G b).N
        rw [h1, h2]
        exact h
theorem ops_cap {c : Call} {ts : List TypeId} {x : Value} {args : List Operand} (ho : o.op = .call c) (hc : c.callee = .builtin .cap) (hts : c.argTypes.toList = ts) (hxs : c.args.toList = args) (hok : ∀ x ∈ args, opdOk x = true) (hx : args.map (evT T) = [x])
    {K : Value → CH → β} : capK P z ts x H K = z ∨ ∃ v, capK P z ts x H K = K v H ∧ OpP P T m o H v := by
  have fin : ∀ {v : Value} {L : List TypeId}, ts = L → (∀ (G : Gh) (a : Act) (w : World), HR G H.h w → (Builtin.cap_ ⟨L⟩ o.type #[den G x]).run P w = .ok (den G v) w) → K v H = z ∨ ∃ v', K v H = K v' H ∧ OpP P T m o H v' := fun {v L} hL h => by
    refine .inr ⟨v, rfl, OpP.mk fun G a w ht hr => ?_⟩
    rw [callB ho hc hts hxs a, evs_den ht hok, hx, hL]
    simp only [builtin, List.map_cons, List.map_nil, Sem.run_bind, h G a w hr, Result.andThen_ok, Sem.run_pure]
  unfold capK
  split
  · rename_i t L l cp
    split
    · rename_i h
      obtain ⟨e, he⟩ := tySlc_is h
      refine fin rfl fun G a' w hr => ?_
      simp [Builtin.cap_, run_underlying he, den, goInt]
    · exact .inl rfl
  · rename_i t L b off sp l cp
    split
    · rename_i cs ty op h hb
      obtain ⟨e, he⟩ := tySlc_is h
      have go : (op = 0 ∨ (sp.isSome || Nat.blt (Nat.add off (Nat.mul cp op)) cs.length) = true) → K (.int .i64 (.ofNat cp)) H = z ∨ ∃ v', K (.int .i64 (.ofNat cp)) H = K v' H ∧ OpP P T m o H v' := fun hz => by
        refine fin rfl fun G a' w hr => ?_
        obtain ⟨pr, jk, _, hR⟩ := hr.row hb
        have := ext_zero (c := cp) (o := off) (sp := sp) hR hz
        simp [Builtin.cap_, run_underlying he, den, goInt, this]
      split
      · exact go (.inl rfl)
      · rename_i hz
        exact go (.inr hz)
      · exact .inl rfl
    · exact .inl rfl
  · exact .inl rfl
end
end Go.Proofs.YtmhnlkakbadkgaaGreat.Ck
