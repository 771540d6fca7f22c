/- A symbolic run: loads and stores of own blocks at places that are no numerals; restarts of own slices. No program is in sight. -/
import Derived.Test.YtnkpmeplapkobaaEngJ
namespace Go.Proofs.Ytnkpmeplapkobaa
open Go.RowKit Go.Shelf

section
variable {X : Fx} {ops l : List Oper} {o : Oper} {T : TE} {L : LE} {n : Nat} {F : List Fact} {D : DF} {K : KK} {k : KS} {c : Code}

theorem yd_loadL {t ct : TypeId} {x : Operand} {j off : Nat} {kd : Option Nat} {cs : List SV} {u : TV} (ho : o.op = .load t x) (hk : alook X.tab.kd t = some kd) (hx : evS T x = some (.o (.p j off))) (hL : alook L j = some (.c cs ct)) (hp : partS kd cs off = some u) : Yd X o T L F u := by
  refine ⟨by simp [noDef, ho], fun A ρ a w h0 => ?_⟩
  have := run_loadVar_part (X.ok.kd _ _ hk) (h0.lo j _ hL) (partS_den hp ρ)
  simp [execOp, ho, h0.ev hx, TV.den, SV.den, Instr.loadAt, Instr.sureAddr, this]
theorem ojs_loadL {t ct : TypeId} {x : Operand} {j off : Nat} {kd : Option Nat} {cs : List SV} {u : TV} (ho : o.op = .load t x) (hk : alook X.tab.kd t = some kd) (hx : evS T x = some (.o (.p j off))) (hL : alook L j = some (.c cs ct)) (hp : partS kd cs off = some u)
    (h : optK X o T L n F D k u) : OJs X o T L n F D k K := optK_yd (yd_loadL ho hk hx hL hp) h
/-- A store to a place that is no numeral. -/
theorem ojs_storeL {t ct : TypeId} {x y : Operand} {j off : Nat} {kd : Option Nat} {cs xs cs' : List SV} {u : TV} (ho : o.op = .store t x y) (hd : o.dst = none) (hk : alook X.tab.kd t = some kd) (hx : evS T x = some (.o (.p j off))) (hy : evS T y = some u) (hu : u.cells = some xs) (hL : alook L j = some (.c cs ct))
    (hxs : xs.length = kd.getD 1) (hl : off + xs.length ≤ cs.length) (h1 : xs.all SV.one = true) (he : spl cs off xs = cs') (h : k T ((j, .c cs' ct) :: L) n F D) : OJs X o T L n F D k K := by
  subst he
  refine ojs_set (by simp [noDef, ho]) hd hL (cells := spl cs off xs) (fun A ρ a w h0 => ?_) h
  have e1 := TV.cells_den (ρ := ρ) hu
  rw [← h0.ev hy] at e1
  have := run_storeVar_spl (X.ok.kd _ _ hk) (o := off) (h0.lo j _ hL) e1 (by simpa [denL] using hxs) (by simpa [denL] using hl) (denL_one h1)
  rw [spl_den]
  simp [execOp, ho, Instr.storeAt, h0.ev hx, TV.den, SV.den, Instr.sureAddr, this]
theorem endR_weak {res : List ResultVar} {mu : List MB} {Out : OutT} {σ : Sg} (hw : Wk X T L n F D σ) (h : EndR X res mu Out σ.T σ.L σ.n σ.F σ.D) : EndR X res mu Out T L n F D := fun a w hr => h a w (hw a w hr)
theorem lv_weak {res : List ResultVar} {mu : List MB} {Out : OutT} {u : FrameMode} {σ : Sg} (hw : Wk X T L n F D σ) (h : Lv X res mu Out u σ.T σ.L σ.n σ.F σ.D) : Lv X res mu Out u T L n F D := fun a w hr => h a w (hw a w hr)
theorem lt_all_v {cs : List Value} {t : TypeId} {m : Nat} : (LC.c (cs.map SV.v) t).lt' m = true := by
  simp only [LC.lt', List.all_map, List.all_eq_true]
  intro x _
  rfl
/-- Another word for the same blocks. -/
theorem Rel.reL {L' : LE} {a : Act} {w : World} (h : Rel X T L n F D a w) (hL : ∀ k e, alook L' k = some e → ∃ e0, alook L k = some e0 ∧ (∀ ρ, e.blk ρ k = e0.blk ρ k) ∧ ∀ ρ, e0.holds ρ k w → e.holds ρ k w) : Rel X T L' n F D a w := by
  obtain ⟨hkb, ρ0, A, h0⟩ := h
  refine ⟨fun k e hk => ?_, ρ0, A, fun ρ hρ => ?_⟩
  · obtain ⟨e0, h1, _⟩ := hL k e hk
    exact hkb k e0 h1
  have h1 := h0 ρ hρ
  refine ⟨⟨h1.tm, fun k e hk => ?_, h1.a3⟩, h1.sz, h1.df, h1.kp, fun k e b hk hb => ?_, fun k k' e e' b hk hk' hb hb' => ?_, h1.a1, fun b hb => ⟨(h1.a2 b hb).1, fun k e hk hbk => ?_⟩, h1.mb⟩
  · obtain ⟨e0, h2, _, h4⟩ := hL k e hk
    exact h4 ρ (h1.lo k e0 h2)
  · obtain ⟨e0, h2, h3, _⟩ := hL k e hk
    exact h1.nw k e0 b h2 (by rw [← h3]; exact hb)
  · obtain ⟨e0, h2, h3, _⟩ := hL k e hk
    obtain ⟨e1, h4, h5, _⟩ := hL k' e' hk'
    exact h1.ds k k' e0 e1 b h2 h4 (by rw [← h3]; exact hb) (by rw [← h5]; exact hb')
  · obtain ⟨e0, h2, h3, _⟩ := hL k e hk
    exact (h1.a2 b hb).2 k e0 h2 (by rw [← h3]; exact hbk)
/-- A block that is looked at by words alone. -/
def objC (hs : List Value) (t : TypeId) : LC := .obj (.cells hs.toArray t (0, 0))
theorem alook_sub {j : Nat} {e e0 : LC} (hj : alook L j = some e0) : ∀ k e', alook ((j, e) :: L) k = some e' → ∃ e1, alook L k = some e1 ∧ (k = j ∧ e' = e ∧ e1 = e0 ∨ k ≠ j ∧ e' = e1) := by
  intro k e' hk
  rw [alook_cons] at hk
  split at hk
  · rename_i ek; cases hk; subst ek; exact ⟨e0, hj, .inl ⟨rfl, rfl, rfl⟩⟩
  · rename_i ek; exact ⟨e', hk, .inr ⟨ek, rfl⟩⟩
theorem Rel.c2o {j : Nat} {hs : List Value} {t : TypeId} {a : Act} {w : World} (h : Rel X T L n F D a w) (hj : alook L j = some (.c (hs.map SV.v) t)) : Rel X T ((j, objC hs t) :: L) n F D a w := by
  refine h.reL fun k e' hk => ?_
  obtain ⟨e1, h1, ⟨rfl, rfl, rfl⟩ | ⟨_, rfl⟩⟩ := alook_sub hj k e' hk
  · exact ⟨_, h1, fun _ => rfl, fun ρ h => by simp only [LC.holds, map_v_denL] at h; exact h⟩
  · exact ⟨_, h1, fun _ => rfl, fun ρ h => h⟩
theorem Rel.o2c {j : Nat} {hs : List Value} {t : TypeId} {a : Act} {w : World} (h : Rel X T L n F D a w) (hj : alook L j = some (objC hs t)) : Rel X T ((j, .c (hs.map SV.v) t) :: L) n F D a w := by
  refine h.reL fun k e' hk => ?_
  obtain ⟨e1, h1, ⟨rfl, rfl, rfl⟩ | ⟨_, rfl⟩⟩ := alook_sub hj k e' hk
  · exact ⟨_, h1, fun _ => rfl, fun ρ h => by simp only [LC.holds, map_v_denL]; exact h⟩
  · exact ⟨_, h1, fun _ => rfl, fun ρ h => h⟩
theorem wk_c2o {j : Nat} {t : TypeId} (hs : List Value) (hj : alook L j = some (.c (hs.map SV.v) t)) : Wk X T L n F D ⟨T, (j, objC hs t) :: L, n, F, D⟩ := fun _ _ hr => hr.c2o hj
theorem wk_o2c {j : Nat} {t : TypeId} {hs : List Value} (hj : alook L j = some (objC hs t)) : Wk X T L n F D ⟨T, (j, .c (hs.map SV.v) t) :: L, n, F, D⟩ := fun _ _ hr => hr.o2c hj
theorem Wk.trans {σ τ : Sg} (h : Wk X T L n F D σ) (k : Wk X σ.T σ.L σ.n σ.F σ.D τ) : Wk X T L n F D τ := fun a w hr => k a w (h a w hr)
theorem yd_loadO {t ct : TypeId} {x : Operand} {j off : Nat} {hs : List Value} {v : Value} (ho : o.op = .load t x) (hk : alook X.tab.kd t = some none) (hx : evS T x = some (.o (.p j off))) (hL : alook L j = some (objC hs ct)) (hp : hs[off]? = some v) : Yd X o T L F (.o (.v v)) := by
  refine ⟨by simp [noDef, ho], fun A ρ a w h0 => ?_⟩
  have hl : w.heap[ρ j]? = some (.cells hs.toArray ct (0, 0)) := h0.lo j _ hL
  have := run_loadVar_part (o := off) (v := v) (X.ok.kd _ _ hk) hl (by simp only [partV, hp])
  simp [execOp, ho, h0.ev hx, TV.den, SV.den, Instr.loadAt, Instr.sureAddr, this]
theorem ojs_loadO {t ct : TypeId} {x : Operand} {j off : Nat} {hs : List Value} {v : Value} (ho : o.op = .load t x) (hk : alook X.tab.kd t = some none) (hx : evS T x = some (.o (.p j off))) (hL : alook L j = some (objC hs ct)) (hp : hs[off]? = some v)
    (h : optK X o T L n F D k (.o (.v v))) : OJs X o T L n F D k K := optK_yd (yd_loadO ho hk hx hL hp) h
theorem ojs_storeO {t ct : TypeId} {x y : Operand} {j off : Nat} {hs : List Value} {v : Value} (ho : o.op = .store t x y) (hd : o.dst = none) (hk : alook X.tab.kd t = some none) (hx : evS T x = some (.o (.p j off))) (hy : evS T y = some (.o (.v v))) (hv : v.oneCell' = true) (hL : alook L j = some (objC hs ct)) (hl : off < hs.length)
    (h : k T ((j, objC (hs.set off v) ct) :: L) n F D) : OJs X o T L n F D k K := by
  intro Q hQ Φ hΦ a w hr
  obtain ⟨A, ρ0, h0⟩ := hr.one
  have run : ∀ (L' : LE) A ρ, Rel0 X T L' F D A ρ a w → w.heap[ρ j]? = some (.cells hs.toArray ct (0, 0)) → (execOp a.eval o).run X.P w = .ok .skip (w.setRow (ρ j) (hs.set off v).toArray) := by
    intro L' A ρ h0 hh
    have e1 : (a.eval y).cells = [v].toArray := by
      rw [h0.ev hy]
      simp only [TV.den, SV.den]
      cases hv2 : v <;> first | rfl | (rw [hv2] at hv; simp [Value.oneCell'] at hv)
    have := run_storeVar_spl (o := off) (xs := [v]) (X.ok.kd _ _ hk) hh e1 rfl (by simp; omega) (by simpa using hv)
    rw [List.set_eq_take_append_cons_drop, if_pos hl]
    simp only [List.length_singleton, List.append_assoc, List.singleton_append] at this
    simp [execOp, ho, Instr.storeAt, h0.ev hx, TV.den, SV.den, Instr.sureAddr, this]
  refine Oper.wpIn_of_run (by simp [noDef, ho]) ?_
  rw [run L A ρ0 h0 (h0.lo j _ hL)]
  have hput : a.put o.dst undef = a := by rw [hd]; rfl
  show Φ (a.put o.dst undef) _
  rw [hput]
  have h1 := (hr.o2c hL).setRow (cells := (hs.set off v).map SV.v) (w' := w.setRow (ρ0 j) (hs.set off v).toArray) (alook_head _ _ _) fun A' ρ' h' => ?_
  · refine hΦ _ _ _ _ _ h _ _ ((h1.c2o (alook_head _ _ _)).reL fun k e' hk => ?_)
    rw [alook_cons] at hk
    split at hk
    · rename_i ek; cases hk; subst ek; exact ⟨_, alook_head _ _ _, fun _ => rfl, fun _ h => h⟩
    · rename_i ek
      exact ⟨e', by rw [alook_cons, if_neg ek, alook_cons, if_neg ek, alook_cons, if_neg ek]; exact hk, fun _ => rfl, fun _ h => h⟩
  · have e := run _ A' ρ' h' (by have := h'.lo j _ (alook_head _ _ _); simp only [LC.holds, map_v_denL] at this; exact this)
    rw [run L A ρ0 h0 (h0.lo j _ hL)] at e
    injection e with e1 e2
    rw [e2, map_v_denL]
theorem spl_set {cs : List SV} {i : Nat} {v : SV} (h : i < cs.length) : spl cs i [v] = cs.set i v := by
  unfold spl
  rw [List.set_eq_take_append_cons_drop, if_pos h]
  simp
end

end Go.Proofs.Ytnkpmeplapkobaa
