/- A symbolic run: parts of slices, clear; rows that are lent. No program is in sight. -/
import Derived.Test.YtnkpmeplapkobaaEngP
import Derived.Laws.Slices
namespace Go.Proofs.Ytnkpmeplapkobaa
open Go.RowKit Go.Shelf

theorem add_zero (a : Addr) : a.add 0 = a := by unfold Addr.add; simp
theorem map_add_zero (a : Option Addr) : a.map (·.add 0) = a := by cases a <;> simp [add_zero]
section
variable {X : Fx} {o : Oper} {T : TE} {L : LE} {n : Nat} {F : List Fact} {D : DF} {K : KK} {k : KS} {c : Code}

theorem elem_of {P : Program} {t e : TypeId} (h : P.underlying t = some (.slice e)) : P.underlying t = some (.slice (P.elem t)) := by
  have : P.elem t = e := by unfold Program.elem; rw [h]
  rw [this]; exact h
/-- x[:y] -/
theorem ojs_sliceH {t : TypeId} {x y : Operand} {a : Option Addr} {m cap i sz e : Nat} {ki : IntKind} {z : Int} (hz : z = (i : Int)) (hi : i ≤ cap) (ho : o.op = .slice t x none (some y) none) (he : alook X.tab.el t = some (e, sz)) (hx : evS T x = some (.o (.v (.slice a m cap)))) (hy : evS T y = some (.o (.v (.int ki z))))
    (h : optK X o T L n F D k (.o (.v (.slice a i cap)))) : OJs X o T L n F D k K := by
  subst hz
  refine ojs_run (by simp [noDef, ho]) (fun A ρ a' w h0 => ?_) h
  obtain ⟨h1, i', h2, h3⟩ := tyE_spec (X.ok.el _ _ he)
  have h4 := elem_of h1
  have h5 : X.P.elem t = e := by unfold Program.elem; rw [h1]
  have e1 := h0.ev hx
  have e2 := h0.ev hy
  simp only [TV.den, SV.den] at e1 e2
  have hs : (sizeOf (X.P.elem t)).run X.P w = .ok i'.size w := by rw [h5]; simp [sizeOf, typeInfo, h2]
  simp only [execOp, ho, Option.map_none, Option.map_some, e1, e2, Sem.run_bind, run_sliceAt_slice (h := h4), run_slice_h (ht := h4) (h0 := Int.natCast_nonneg i) (h2 := Int.ofNat_le.2 hi), hs, Result.andThen_ok, Sem.run_pure, TV.den, SV.den]
  simp [sliced, map_add_zero]
/-- x[y:] -/
theorem ojs_sliceL {t : TypeId} {x y : Operand} {a : Option Addr} {m cap i sz e : Nat} {ki : IntKind} {z : Int} (hz : z = (i : Int)) (hi : i ≤ m) (ho : o.op = .slice t x (some y) none none) (he : alook X.tab.el t = some (e, sz)) (hx : evS T x = some (.o (.v (.slice a m cap)))) (hy : evS T y = some (.o (.v (.int ki z))))
    (h : optK X o T L n F D k (.o (.v (.slice (if cap = i then a else a.map (·.add (i * sz))) (m - i) (cap - i))))) : OJs X o T L n F D k K := by
  subst hz
  refine ojs_run (by simp [noDef, ho]) (fun A ρ a' w h0 => ?_) h
  obtain ⟨h1, i', h2, h3⟩ := tyE_spec (X.ok.el _ _ he)
  have h4 := elem_of h1
  have h5 : X.P.elem t = e := by unfold Program.elem; rw [h1]
  have e1 := h0.ev hx
  have e2 := h0.ev hy
  simp only [TV.den, SV.den] at e1 e2
  simp only at h2 h3
  have hs : (sizeOf (X.P.elem t)).run X.P w = .ok sz w := by rw [h5]; simp [sizeOf, typeInfo, h2, h3]
  simp only [execOp, ho, Option.map_none, Option.map_some, e1, e2, Sem.run_bind, run_sliceAt_slice (h := h4), run_slice_l (ht := h4) (h0 := Int.natCast_nonneg i) (h1 := Int.ofNat_le.2 hi), hs, Result.andThen_ok, Sem.run_pure, TV.den, SV.den]
  simp [sliced]
/-- A row is shortened. -/
theorem wk_shrink {j m m' sz cap : Nat} {a : Option Addr} {e : TypeId} {cells : List Value} (hj : alook L j = some (.own (.slice a m cap) e sz m cells)) (hm : m' ≤ m) (h0 : 0 < m) : Wk X T L n F D ⟨T, (j, .own (.slice a m' cap) e sz m' (cells.take (m' * sz))) :: L, n, F, D⟩ := fun a' w hr =>
  hr.reL fun k e' hk => by
    rw [alook_cons] at hk
    split at hk
    · rename_i ek
      cases hk
      subst ek
      refine ⟨_, hj, fun _ => by cases a <;> rfl, fun ρ h => ?_⟩
      obtain ⟨g, cur, e1, h3, h4, h5, h6, h7, h8⟩ := own_at h h0
      subst e1
      have hmm : m' * sz ≤ m * sz := Nat.mul_le_mul_right _ hm
      refine ⟨by rw [List.length_take]; omega, .inr ⟨g, cap, cur, rfl, Nat.zero_le _, h3, by omega, h5, h6, ?_⟩⟩
      rw [← h7, List.take_take, Nat.min_eq_left hmm]
    · exact ⟨e', hk, fun _ => rfl, fun _ h => h⟩
theorem zdec_one (n : Nat) : (zdec n).oneCell' = true := by
  unfold zdec
  split <;> rfl
theorem zeroCells_one {z : Array Value} {m : Nat} (hz : 0 < z.size) (h : ∀ v ∈ z, v.oneCell' = true) : ∀ v ∈ (Builtin.zeroCells z m).toList, v.oneCell' = true := by
  intro v hv
  simp only [Builtin.zeroCells, Array.toList_map, Array.toList_range, List.mem_map, List.mem_range] at hv
  obtain ⟨i, _, rfl⟩ := hv
  have hi : i % z.size < z.size := Nat.mod_lt _ hz
  rw [getElem!_pos z _ hi]
  exact h _ (Array.getElem_mem hi)
set_option maxHeartbeats 1000000 in
/-- clear of a tail of a slice of the call's own. -/
theorem ojs_clearW {cl : Call} {s : Operand} {t e : TypeId} (j : Nat) {sz m cap g i c' : Nat} {zs : List Nat} {cells : List Value} {q : Option Addr} (hj : alook L j = some (.own (.slice (some ⟨g, 0, none⟩) m cap) e sz m cells)) (ho : o.op = .call cl) (hcl : cl.callee = .builtin .clear) (hargs : cl.args.toList = [s]) (htys : cl.argTypes.toList = [t]) (hd : o.dst = none)
    (hs : evS T s = some (.o (.v (.slice q (m - i) c')))) (hel : alook X.tab.el t = some (e, sz)) (hze : alook X.tab.ze e = some zs) (hzl : zs.length = sz) (hsz : 0 < sz) (hm : 0 < m) (hq : m ≤ cap → m = i ∨ q = some ⟨g, i * sz, none⟩) (hi : i ≤ m)
    (h : ∀ cells', cells'.length = cells.length → cells'.take (i * sz) = cells.take (i * sz) → k T ((j, .own (.slice (some ⟨g, 0, none⟩) m cap) e sz m cells') :: L) n F D) : OJs X o T L n F D k K := by
  intro Q hQ Φ hΦ a w hr
  obtain ⟨A, ρ, h0⟩ := hr.one
  refine Oper.wpIn_of_run (by simp [noDef, ho]) ?_
  obtain ⟨ht, i', hi', his⟩ := tyE_spec (X.ok.el _ _ hel)
  obtain ⟨i'', z, hi'', hz1, hz2⟩ := tyZ_is (X.ok.ze _ _ hze)
  simp only at ht hi' his
  rw [hi'] at hi''
  cases hi''
  have ha1 : cl.args = #[s] := Array.ext' hargs
  have ha2 : cl.argTypes = #[t] := Array.ext' htys
  have hv : a.eval s = .slice q (m - i) c' := h0.ev hs
  obtain ⟨g', cur, e1, h3, h4, h5, h6, h7, h8⟩ := own_at (h0.lo j _ hj) hm
  cases e1
  have hput : ∀ v, a.put o.dst v = a := fun v => by rw [hd]; rfl
  have fin : ∀ w', (Builtin.clear_ #[t] o.type #[.slice q (m - i) c']).run X.P w = .ok (.tuple #[]) w' → (execOp a.eval o).run X.P w = .ok (.value (.tuple #[])) w' := by
    intro w' hw
    simp only [execOp, ho, resolve, hcl, ha1, ha2, List.map_toArray, List.map_cons, List.map_nil, hv, Sem.run_bind, Sem.run_pure, Result.andThen_ok, invoke, builtin, hw]
  rcases hq h4 with rfl | rfl
  · rw [fin w (by rw [Nat.sub_self]; cases q <;> simp [Builtin.clear_, run_underlying ht])]
    show Φ (a.put o.dst _) w
    rw [hput]
    refine hΦ _ _ _ _ _ (h cells rfl rfl) _ _ (hr.reL fun k e' hk => ?_)
    rw [alook_cons] at hk
    split at hk
    · rename_i ek; cases hk; subst ek; exact ⟨_, hj, fun _ => rfl, fun _ h => h⟩
    · exact ⟨e', hk, fun _ => rfl, fun _ h => h⟩
  · by_cases him : m = i
    · subst him
      rw [fin w (by rw [Nat.sub_self]; simp [Builtin.clear_, run_underlying ht])]
      show Φ (a.put o.dst _) w
      rw [hput]
      refine hΦ _ _ _ _ _ (h cells rfl rfl) _ _ (hr.reL fun k e' hk => ?_)
      rw [alook_cons] at hk
      split at hk
      · rename_i ek; cases hk; subst ek; exact ⟨_, hj, fun _ => rfl, fun _ h => h⟩
      · exact ⟨e', hk, fun _ => rfl, fun _ h => h⟩
    · obtain ⟨p, hp⟩ : ∃ p, m - i = p + 1 := ⟨m - i - 1, by omega⟩
      have hzs : z.cells.size = sz := by rw [hz2 ρ]; simp [denL, zcells, hzl]
      obtain ⟨vs, hvs⟩ : ∃ vs, vs = (Builtin.zeroCells z.cells (p + 1)).toList := ⟨_, rfl⟩
      have hl : vs.length = (m - i) * sz := by rw [hvs, hp]; simp [Builtin.zeroCells, hzs]
      have hone : ∀ v ∈ vs, v.oneCell' = true := by
        rw [hvs]
        refine zeroCells_one (by omega) fun v hv => ?_
        rw [hz2 ρ] at hv
        simp only [denL, zcells, List.map_map, List.mem_toArray, List.mem_map] at hv
        obtain ⟨n, _, rfl⟩ := hv
        exact zdec_one n
      have hmul : i * sz + (m - i) * sz = m * sz := by rw [← Nat.add_mul]; congr 1; omega
      have hcap : m * sz ≤ cap * sz := Nat.mul_le_mul_right _ h4
      have hst := run_storeCells_at X.P g (i * sz) e vs 0 cur w h3 (by rw [hl]; omega) hone
      obtain ⟨W', hW'⟩ : ∃ W', W' = w.setRow g (cur.toList.take (i * sz + 0) ++ vs ++ cur.toList.drop (i * sz + 0 + vs.length)).toArray := ⟨_, rfl⟩
      rw [← hW'] at hst
      have hrun : (Builtin.clear_ #[t] o.type #[.slice (some ⟨g, i * sz, none⟩) (m - i) c']).run X.P w = .ok (.tuple #[]) W' := by
        rw [hp]
        simp only [Builtin.clear_]
        simp [run_underlying ht, zeroValue, typeInfo, hi', hz1, ← hvs, hst]
      rw [fin W' hrun]
      show Φ (a.put o.dst _) _
      rw [hput]
      have hcl : cells.length ≤ cur.toList.length := by rw [← h7, List.length_take]; omega
      have hcs : cur.toList.length = cap * sz := by simpa using h6
      subst hW'
      refine hΦ _ _ _ _ _ (h _ ?_ ?_) _ _ (hr.own hj (v' := .slice (some ⟨g, 0, none⟩) m cap) ⟨?_, .inr ⟨g, cap, _, rfl, Nat.zero_le _, setRow_heap w _ _ _ _ _ h3, h4, h5, ?_, rfl⟩⟩ ⟨rfl, rfl, rfl, by rw [size_setRow]; exact Nat.le_refl _, fun b hb hn => setRow_other w _ _ _ fun e => hn (by rw [e]; rfl)⟩ fun g hg => .inl hg)
      · simp only [List.length_take, List.length_append, List.length_drop, Nat.add_zero, List.toList_toArray, hl, h8]
        omega
      · rw [List.toList_toArray, List.take_take, Nat.min_eq_left (by omega), Nat.add_zero, List.append_assoc, List.take_append_of_le_length (by rw [List.length_take]; omega), List.take_take, Nat.min_self, ← h7, List.take_take, Nat.min_eq_left (by omega)]
      · simp only [List.length_take, List.length_append, List.length_drop, Nat.add_zero, List.toList_toArray, hl]
        omega
      · simp only [List.size_toArray, List.length_take, List.length_append, List.length_drop, Nat.add_zero, hl]
        omega
end

end Go.Proofs.Ytnkpmeplapkobaa
