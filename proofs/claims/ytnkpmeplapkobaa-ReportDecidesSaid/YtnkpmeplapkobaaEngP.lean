/- A symbolic run: slices of the call's own, read and written by index; calls that hand over a fresh row. No program is in sight. -/
import Derived.Test.YtnkpmeplapkobaaEngO
namespace Go.Proofs.Ytnkpmeplapkobaa
open Go.RowKit Go.Shelf

section
variable {X : Fx} {o : Oper} {T : TE} {L : LE} {n : Nat} {F : List Fact} {D : DF} {K : KK} {k : KS} {c : Code}

theorem own_at {w : World} {e : TypeId} {sz m cap : Nat} {a : Option Addr} {cells : List Value} (h : w.ownsRow 0 e sz (.slice a m cap) m cells) (hm : 0 < m) : ∃ g cur, a = some ⟨g, 0, none⟩ ∧ w.heap[g]? = some (.cells cur e (0, 0)) ∧ m ≤ cap ∧ cap ≤ maxLen ∧ cur.size = cap * sz ∧ cur.toList.take (m * sz) = cells ∧ cells.length = m * sz := by
  rcases h.2 with ⟨_, h2⟩ | ⟨g, cap', cur, h2, _, h3, h4, h5, h6, h7⟩
  · omega
  · simp only [Value.slice.injEq] at h2
    obtain ⟨rfl, _, rfl⟩ := h2
    exact ⟨g, cur, rfl, h3, h4, h5, h6, h7, h.1⟩
theorem ojs_ownAddr (j : Nat) {a : Option Addr} {e : TypeId} {sz m cap : Nat} {cells : List Value} (hj : alook L j = some (.own (.slice a m cap) e sz m cells)) (hm : 0 < m) (h : ∀ g, a = some ⟨g, 0, none⟩ → OJs X o T L n F D k K) : OJs X o T L n F D k K := by
  intro Q hQ Φ hΦ a' w hr
  obtain ⟨A, ρ, h0⟩ := hr.one
  obtain ⟨g, _, e1, _⟩ := own_at (h0.lo j _ hj) hm
  exact h g e1 Q hQ Φ hΦ a' w hr
theorem cjs_ownAddr (j : Nat) {a : Option Addr} {e : TypeId} {sz m cap : Nat} {cells : List Value} (hj : alook L j = some (.own (.slice a m cap) e sz m cells)) (hm : 0 < m) (h : ∀ g, a = some ⟨g, 0, none⟩ → CJs X c T L n F D K) : CJs X c T L n F D K := by
  intro Q hQ a' w hr
  obtain ⟨A, ρ, h0⟩ := hr.one
  obtain ⟨g, _, e1, _⟩ := own_at (h0.lo j _ hj) hm
  exact h g e1 Q hQ a' w hr
theorem cjs_ownCap (j : Nat) {a : Option Addr} {e : TypeId} {sz m cap : Nat} {cells : List Value} (hj : alook L j = some (.own (.slice a m cap) e sz m cells)) (h : m ≤ cap → CJs X c T L n F D K) : CJs X c T L n F D K := by
  intro Q hQ a' w hr
  obtain ⟨A, ρ, h0⟩ := hr.one
  refine h ?_ Q hQ a' w hr
  by_cases hm : 0 < m
  · obtain ⟨_, _, _, _, h4, _⟩ := own_at (h0.lo j _ hj) hm
    exact h4
  · omega
theorem partV_prefix {kd : Option Nat} {cs pre : List Value} {off : Nat} {v : Value} {m : Nat} (hp : cs.take m = pre) (h : partV kd pre off = some v) : partV kd cs off = some v := by
  subst hp
  cases kd with
  | none =>
    simp only [partV] at h ⊢
    rw [List.getElem?_take] at h
    split at h
    · exact h
    · cases h
  | some q =>
    simp only [partV] at h ⊢
    split at h
    · rename_i hq
      rw [List.length_take] at hq
      rw [if_pos (by omega)]
      cases h
      rw [List.drop_take, List.take_take, Nat.min_eq_left (by omega)]
    · cases h
theorem yd_loadW {t : TypeId} {x : Operand} {j g off m cap : Nat} {e : TypeId} {sz : Nat} {cells : List Value} {kd : Option Nat} {u : TV} (ho : o.op = .load t x) (hk : alook X.tab.kd t = some kd) (hx : evS T x = some (.o (.v (.pointer (some ⟨g, off, none⟩)))))
    (hj : alook L j = some (.own (.slice (some ⟨g, 0, none⟩) m cap) e sz m cells)) (hm : 0 < m) (hp : partS kd (cells.map SV.v) off = some u) : Yd X o T L F u := by
  refine ⟨by simp [noDef, ho], fun A ρ a w h0 => ?_⟩
  obtain ⟨g', cur, e1, h3, h4, h5, h6, h7, h8⟩ := own_at (h0.lo j _ hj) hm
  cases e1
  have h9 := partS_den hp ρ
  rw [map_v_denL] at h9
  have := run_loadVar_part (X.ok.kd _ _ hk) (b := g) (cs := cur.toList) (by simpa using h3) (partV_prefix h7 h9)
  simp [execOp, ho, h0.ev hx, TV.den, SV.den, Instr.loadAt, Instr.sureAddr, this]
theorem ojs_loadW {t : TypeId} {x : Operand} (j : Nat) {g off m cap : Nat} {e : TypeId} {sz : Nat} {cells : List Value} {kd : Option Nat} {u : TV} (hj : alook L j = some (.own (.slice (some ⟨g, 0, none⟩) m cap) e sz m cells)) (ho : o.op = .load t x) (hk : alook X.tab.kd t = some kd) (hx : evS T x = some (.o (.v (.pointer (some ⟨g, off, none⟩)))))
    (hm : 0 < m) (hp : partS kd (cells.map SV.v) off = some u) (h : optK X o T L n F D k u) : OJs X o T L n F D k K := optK_yd (yd_loadW ho hk hx hj hm hp) h
theorem spl_prefix {cs pre xs : List Value} {off m : Nat} (hp : cs.take m = pre) (hl : off + xs.length ≤ pre.length) : (cs.take off ++ xs ++ cs.drop (off + xs.length)).take m = pre.take off ++ xs ++ pre.drop (off + xs.length) := by
  subst hp
  rw [List.length_take] at hl
  have e1 : min m off = off := by omega
  have e2 : min off cs.length = off := by omega
  have e3 : min off m = off := by omega
  rw [List.append_assoc, List.append_assoc, List.take_append, List.take_append, List.take_take, List.length_take, List.take_take, e1, e2, e3, List.take_of_length_le (l := xs) (by omega), List.drop_take]
  rw [show m - off - xs.length = m - (off + xs.length) by omega]
/-- A store into a slice of the call's own. -/
theorem ojs_storeW {t : TypeId} {x y : Operand} (j : Nat) {g off m cap : Nat} {e : TypeId} {sz : Nat} {cells xs : List Value} {kd : Option Nat} {u : TV} (hj : alook L j = some (.own (.slice (some ⟨g, 0, none⟩) m cap) e sz m cells)) (ho : o.op = .store t x y) (hd : o.dst = none) (hk : alook X.tab.kd t = some kd)
    (hx : evS T x = some (.o (.v (.pointer (some ⟨g, off, none⟩))))) (hy : evS T y = some u) (hu : u.cells = some (xs.map SV.v)) (hm : 0 < m) (hxs : xs.length = kd.getD 1) (hl : off + xs.length ≤ cells.length) (h1 : ∀ v ∈ xs, v.oneCell' = true) {cells' : List Value} (he : cells.take off ++ xs ++ cells.drop (off + xs.length) = cells')
    (h : k T ((j, .own (.slice (some ⟨g, 0, none⟩) m cap) e sz m cells') :: L) n F D) : OJs X o T L n F D k K := by
  subst he
  intro Q hQ Φ hΦ a w hr
  obtain ⟨A, ρ, h0⟩ := hr.one
  obtain ⟨g', cur, e1, h3, h4, h5, h6, h7, h8⟩ := own_at (h0.lo j _ hj) hm
  cases e1
  have e2 : (a.eval y).cells = xs.toArray := by
    rw [h0.ev hy]
    have := TV.cells_den (ρ := ρ) hu
    rwa [map_v_denL] at this
  have hcl : cells.length ≤ cur.toList.length := by rw [← h7, List.length_take]; omega
  have run := run_storeVar_spl (X.ok.kd _ _ hk) (b := g) (o := off) (cs := cur.toList) (by simpa using h3) e2 hxs (by omega) h1
  have e3 : (execOp a.eval o).run X.P w = .ok .skip (w.setRow g (cur.toList.take off ++ xs ++ cur.toList.drop (off + xs.length)).toArray) := by
    simp [execOp, ho, Instr.storeAt, h0.ev hx, TV.den, SV.den, Instr.sureAddr, run]
  refine Oper.wpIn_of_run (by simp [noDef, ho]) ?_
  rw [e3]
  have hput : a.put o.dst undef = a := by rw [hd]; rfl
  show Φ (a.put o.dst undef) _
  rw [hput]
  refine hΦ _ _ _ _ _ h _ _ (hr.own hj (v' := .slice (some ⟨g, 0, none⟩) m cap) ⟨?_, .inr ⟨g, cap, (cur.toList.take off ++ xs ++ cur.toList.drop (off + xs.length)).toArray, rfl, Nat.zero_le _, setRow_heap w _ _ _ _ _ h3, h4, h5, ?_, ?_⟩⟩ ⟨rfl, rfl, rfl, by rw [size_setRow]; exact Nat.le_refl _, fun b hb hn => setRow_other w _ _ _ fun e => hn (by rw [e]; rfl)⟩ fun g hg => .inl hg)
  · simp; omega
  · simp at hcl ⊢; omega
  · rw [List.toList_toArray]
    exact spl_prefix h7 hl
theorem ownsRow_base {w : World} {base : Nat} {e : TypeId} {sz m : Nat} {v : Value} {xs : List Value} (h : w.ownsRow base e sz v m xs) : w.ownsRow 0 e sz v m xs ∧ ∀ g, v.ownBlock = some g → base ≤ g := by
  refine ⟨⟨h.1, h.2.imp id fun ⟨g, cap, cur, h1, _, h3⟩ => ⟨g, cap, cur, h1, Nat.zero_le _, h3⟩⟩, fun g hg => ?_⟩
  rcases h.2 with ⟨rfl, _⟩ | ⟨g', cap, cur, rfl, h2, _⟩
  · simp [Value.ownBlock] at hg
  · simp only [Value.ownBlock, Option.some.injEq] at hg
    omega
/-- A fresh row is the call's own. -/
theorem Rel.newRow {a : Act} {w w' : World} {v : Value} {e : TypeId} {sz m : Nat} {xs : List Value} (h : Rel X T L n F D a w) (hb : Below w.heap.size w w') (hown : w'.ownsRow w.heap.size e sz v m xs) : Rel X T ((n, .own v e sz m xs) :: L) (n + 1) F D a w' := by
  obtain ⟨hkb, ρ0, A, h0⟩ := h
  obtain ⟨hown0, hbase⟩ := ownsRow_base hown
  refine ⟨fun k e hk => ?_, ρ0, A, fun ρ hρ => ?_⟩
  · rw [alook_cons] at hk
    split at hk
    · omega
    · have := hkb k e hk; omega
  have h1 := h0 ρ fun j hj => hρ j (by omega)
  have bl : ∀ k e' b, alook ((n, LC.own v e sz m xs) :: L) k = some e' → e'.blk ρ k = some b → (k = n ∧ w.heap.size ≤ b) ∨ (k ≠ n ∧ alook L k = some e' ∧ b < w.heap.size) := by
    intro k e' b hk hbk
    rw [alook_cons] at hk
    split at hk
    · rename_i ek
      cases hk
      exact .inl ⟨ek, hbase b hbk⟩
    · rename_i ek
      exact .inr ⟨ek, hk, LC.lt (h1.lo k e' hk) hbk⟩
  refine ⟨⟨h1.tm, fun k e' hk => ?_, fun f hf => f.ok (w := w) (fun _ h => h) (fun b hb' => hb.block b (h1.a2 b hb').1) ⟨hb.os, hb.tape, hb.output, hb.size⟩ (h1.a3 f hf)⟩, h1.sz, h1.df, h1.kp.trans ⟨hb.os, hb.tape, hb.output, hb.size, fun b hb' _ => hb.block b hb'⟩, fun k e' b hk hbk => ?_, fun k1 k2 f1 f2 b hk1 hk2 hb1 hb2 => ?_, h1.a1, fun b hA => ⟨Nat.lt_of_lt_of_le (h1.a2 b hA).1 hb.size, fun k e' hk hbk => ?_⟩, h1.mb⟩
  · have hk0 := hk
    rw [alook_cons] at hk
    split at hk
    · cases hk; exact hown0
    · refine LC.keep (w := w) (h1.lo k e' hk) fun b hbk => hb.block b (LC.lt (h1.lo k e' hk) hbk)
  · rcases bl k e' b hk hbk with ⟨_, h2⟩ | ⟨_, h2, _⟩
    · exact .inr (Nat.le_trans h1.kp.size h2)
    · exact h1.nw k e' b h2 hbk
  · rcases bl k1 f1 b hk1 hb1 with ⟨rfl, h2⟩ | ⟨_, h2, h3⟩ <;> rcases bl k2 f2 b hk2 hb2 with ⟨rfl, h5⟩ | ⟨_, h5, h6⟩
    · rfl
    · omega
    · omega
    · exact h1.ds k1 k2 f1 f2 b h2 h5 hb1 hb2
  · have hlt := (h1.a2 b hA).1
    rcases bl k e' b hk hbk with ⟨_, h2⟩ | ⟨_, h2, _⟩
    · omega
    · exact (h1.a2 b hA).2 k e' h2 hbk
/-- A contract of a function that hands over a fresh row. -/
def Co (P : Program) (g : FuncId) (args : List Value) (F0 : List Fact) (R : Value → Value) (e : TypeId) (sz m : Nat) (xs : List Value) : Prop :=
  ∀ (A : Nat → Prop) (w : World), (∀ b, A b → b < w.heap.size) → (∀ f ∈ F0, f.h A w) → Calls P g args.toArray w fun en w' => ∃ v, en = .returned (R v) ∧ w'.ownsRow w.heap.size e sz v m xs ∧ Below w.heap.size w w'
theorem ojs_callOwn {c : Call} {f : Operand} {g d : Nat} {fi ca : List PV} {us : List TV} {args : List Value} {F0 : List Fact} {R : Value → Value} {e : TypeId} {sz m : Nat} {xs : List Value}
    (ho : o.op = .call c) (hc : c.callee = .value f) (hf : calS T f = some (g, fi, ca)) (hus : argS T c.args.toList = some us) (hfn : alook X.tab.fn g = some ()) (hargs : ∀ ρ, argV ρ fi us ca = args) (hd : o.dst = some d) (hdk : Nat.blt d X.k = true)
    (ct : Co X.P g args F0 R e sz m xs) (hF0 : ∀ f ∈ F0, f ∈ F)
    (h : ∀ a' c', k ((d, .o (.v (R (.slice a' m c')))) :: T) ((n, .own (.slice a' m c') e sz m xs) :: L) (n + 1) F D) : OJs X o T L n F D k K := by
  intro Q hQ Φ hΦ a w hr
  obtain ⟨A, ρ, h0⟩ := hr.one
  refine Oper.wpIn_of_run (by simp [noDef, ho]) ?_
  rw [call_run h0.toVw ho hc hf hus hfn, hargs ρ]
  refine ⟨fun hd => by simp [Fx.fe, Fence.wide] at hd, ?_⟩
  have hC := ct A w (fun b hb => (h0.a2 b hb).1) fun f hf => h0.a3 f (hF0 f hf)
  refine CallsIn.mono (show CallsIn X.fe (X.nn - 1) X.P g args.toArray w _ from ⟨trivial, ((callsIn_wide (n := X.nn - 1)).2 hC).2⟩) ?_
  rintro en w' ⟨v, rfl, hown, hb⟩
  obtain ⟨a', c', rfl⟩ := own_shape (ownsRow_base hown).1
  refine hΦ _ _ _ _ _ (h a' c') _ w' ((hr.newRow hb hown).put (u := .o (.v (R (.slice a' m c')))) (fun _ _ _ => rfl) ?_)
  simp only [putS, hd, hdk, cond_true]
end

end Go.Proofs.Ytnkpmeplapkobaa
