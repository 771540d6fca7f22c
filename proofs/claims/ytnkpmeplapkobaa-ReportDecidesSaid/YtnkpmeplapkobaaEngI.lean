/- A symbolic run: slices of the call's own, that are appended to. No program is in sight. -/
import Derived.Test.YtnkpmeplapkobaaEngH
namespace Go.Proofs.Ytnkpmeplapkobaa
open Go.RowKit Go.Shelf

/-- Where an append's result lies: in the old block, or in a new one. -/
theorem append_far {P : Program} {w : World} {t ty e : TypeId} {i : TypeInfo} {z : Value} {size bytes : Nat} (ht : P.underlying t = some (.slice e)) (hi : P.info? e = some i) (hz : i.zero = some z) (hsize : i.size = size) (hby : i.bytes = bytes) (hzs : z.cells.size = size) (hsz : 0 < size)
    {v : Value} {n : Nat} {xs : List Value} (hown : w.ownsRow 0 e size v n xs) {ad : Addr} {m c : Nat} {news : List Value} (hl : news.length = m * size) (hnews : ∀ j u, news[j]? = some u → w.cell? (ad.add j) = some u) (h1 : ∀ u ∈ news, u.oneCell' = true)
    (h63 : n + m ≤ maxLen) (hbytes : (n + m) * bytes ≤ 140737488355328) {v' : Value} {w' : World} (hr : (Builtin.append_ #[t, t] ty #[v, .slice (some ad) m c]).run P w = .ok v' w') : ∀ g, v'.ownBlock = some g → v.ownBlock = some g ∨ w.heap.size ≤ g := by
  intro g' hg'
  rcases hown.2 with ⟨rfl, rfl⟩ | ⟨g, cap, cur, rfl, hbg, hg, hnc, hcm, hcs, htake⟩
  · have hx : xs = [] := List.eq_nil_of_length_eq_zero (by simpa using hown.1)
    subst hx
    obtain ⟨v2, w2, hr2, ho2, _⟩ := run_append_own (P := P) w w.heap.size t ty e i z size bytes ht hi hz hsize hby hzs hsz _ 0 [] (World.ownsRow_nil w w.heap.size e size) ad m c news hl hnews h1 h63 hbytes (Nat.le_refl _)
    rw [hr] at hr2
    injection hr2 with e1 e2
    subst e1
    rcases ho2.2 with ⟨rfl, _⟩ | ⟨g2, cap2, cur2, rfl, hb2, _⟩
    · simp [Value.ownBlock] at hg'
    · simp only [Value.ownBlock, Option.some.injEq] at hg'
      right; omega
  · subst hsize
    subst hby
    by_cases hroom : n + m ≤ cap
    · have hfit : n * i.size + news.length ≤ cur.size := by rw [hl, hcs, ← Nat.add_mul]; exact Nat.mul_le_mul_right _ hroom
      have hr2 := run_append_room (P := P) w t ty e i ht hi g n cap cur hg ad m c news hl hnews h1 hroom hfit
      rw [hr] at hr2
      injection hr2 with e1 e2
      subst e1
      exact .inl hg'
    · have holds : ∀ j u, xs[j]? = some u → w.cell? ((⟨g, 0, none⟩ : Addr).add j) = some u := hown.cells (g := g) rfl
      have hsmall : n + m ≤ 9223372036854775807 := by simp only [maxLen] at h63; omega
      have hr2 := run_append_grow (P := P) w t ty e i z ht hi hz ⟨g, 0, none⟩ n cap xs hown.1 holds ad m c news hl hnews (by omega) (by omega) (growslice_fits (by omega) hbytes)
      rw [hr] at hr2
      injection hr2 with e1 e2
      subst e1
      simp only [Value.ownBlock, Option.some.injEq] at hg'
      right; omega
theorem own_shape {w : World} {base : Nat} {e : TypeId} {size : Nat} {v : Value} {n : Nat} {xs : List Value} (h : w.ownsRow base e size v n xs) : ∃ a c, v = .slice a n c := by
  rcases h.2 with ⟨rfl, rfl⟩ | ⟨g, cap, cur, rfl, _⟩
  · exact ⟨_, _, rfl⟩
  · exact ⟨_, _, rfl⟩

section
variable {X : Fx} {ops l : List Oper} {o : Oper} {T : TE} {L : LE} {n : Nat} {F : List Fact} {D : DF} {K : KK} {k : KS} {c : Code}

theorem Rel.own {a : Act} {w w' : World} {j : Nat} {v v' : Value} {e : TypeId} {sz m m' : Nat} {xs xs' : List Value} (h : Rel X T L n F D a w) (hj : alook L j = some (.own v e sz m xs)) (hown : w'.ownsRow 0 e sz v' m' xs') (hg : w.grownBy w' v.ownBlock)
    (far : ∀ g, v'.ownBlock = some g → v.ownBlock = some g ∨ w.heap.size ≤ g) : Rel X T ((j, .own v' e sz m' xs') :: L) n F D a w' := by
  obtain ⟨hkb, ρ0, A, h0⟩ := h
  refine ⟨fun k e hk => ?_, ρ0, A, fun ρ hρ => ?_⟩
  · rw [alook_cons] at hk
    split at hk
    · rename_i ek; rw [ek]; exact hkb _ _ hj
    · exact hkb _ _ hk
  have h1 := h0 ρ hρ
  have old : ∀ b, b < w.heap.size → v.ownBlock ≠ some b → w'.heap[b]? = w.heap[b]? := fun b hb hn => hg.block b hb (fun e => hn e.symm)
  have bl : ∀ k e' b, alook ((j, LC.own v' e sz m' xs') :: L) k = some e' → e'.blk ρ k = some b → (k = j ∧ v'.ownBlock = some b) ∨ (k ≠ j ∧ alook L k = some e' ∧ b < w.heap.size ∧ v.ownBlock ≠ some b) := by
    intro k e' b hk hb
    rw [alook_cons] at hk
    split at hk
    · rename_i ek; cases hk; exact .inl ⟨ek, hb⟩
    · rename_i ek
      exact .inr ⟨ek, hk, LC.lt (h1.lo k e' hk) hb, fun hv => ek (h1.ds k j e' _ b hk hj hb hv)⟩
  have Ab : ∀ b, A b → v.ownBlock ≠ some b := fun b hb => (h1.a2 b hb).2 j _ hj
  refine ⟨⟨h1.tm, ?_, fun f hf => f.ok (w := w) (fun _ h => h) (fun b hb => old b (h1.a2 b hb).1 (Ab b hb)) ⟨hg.os, hg.tape, hg.output, hg.size⟩ (h1.a3 f hf)⟩, h1.sz, h1.df, ?_, ?_, ?_, h1.a1, ?_, h1.mb⟩
  · intro k e' hk
    have hk0 := hk
    rw [alook_cons] at hk
    split at hk
    · cases hk; exact hown
    · rename_i ek
      refine LC.keep (w := w) (h1.lo k e' hk) fun b hb => ?_
      rcases bl k e' b hk0 hb with ⟨e1, _⟩ | ⟨_, _, h3, h4⟩
      · exact absurd e1 ek
      · exact old b h3 h4
  · refine ⟨hg.os.trans h1.kp.os, hg.tape.trans h1.kp.tape, hg.output.trans h1.kp.output, Nat.le_trans h1.kp.size hg.size, fun b hb hm => ?_⟩
    rw [old b (Nat.lt_of_lt_of_le hb h1.kp.size) (fun hv => ?_)]
    · exact h1.kp.keep b hb hm
    · rcases h1.nw j _ b hj hv with h2 | h2
      · exact hm h2
      · omega
  · intro k e' b hk hb
    rcases bl k e' b hk hb with ⟨_, hv⟩ | ⟨_, h2, _, _⟩
    · rcases far b hv with h3 | h3
      · exact h1.nw j _ b hj h3
      · exact .inr (Nat.le_trans h1.kp.size h3)
    · exact h1.nw k e' b h2 hb
  · intro k1 k2 f1 f2 b hk1 hk2 hb1 hb2
    rcases bl k1 f1 b hk1 hb1 with ⟨e1, hv1⟩ | ⟨_, h2, h3, h4⟩ <;> rcases bl k2 f2 b hk2 hb2 with ⟨e2, hv2⟩ | ⟨_, h2', h3', h4'⟩
    · rw [e1, e2]
    · rcases far b hv1 with h5 | h5
      · exact absurd h5 h4'
      · omega
    · rcases far b hv2 with h5 | h5
      · exact absurd h5 h4
      · omega
    · exact h1.ds k1 k2 f1 f2 b h2 h2' hb1 hb2
  · intro b hb
    refine ⟨Nat.lt_of_lt_of_le (h1.a2 b hb).1 hg.size, fun k e' hk hbk => ?_⟩
    rcases bl k e' b hk hbk with ⟨_, hv⟩ | ⟨_, h2, _, _⟩
    · rcases far b hv with h3 | h3
      · exact Ab b hb h3
      · have := (h1.a2 b hb).1; omega
    · exact (h1.a2 b hb).2 k e' h2 hbk

/-- A nil slice is the call's own. -/
theorem wk_own (e : TypeId) (sz : Nat) : Wk X T L n F D ⟨T, (n, .own (.slice none 0 0) e sz 0 []) :: L, n + 1, F, D⟩ := by
  rintro a w ⟨hkb, ρ0, A, h0⟩
  show Rel X T ((n, .own (.slice none 0 0) e sz 0 []) :: L) (n + 1) F D a w
  have bl : ∀ (ρ : Nm) k e' b, alook ((n, LC.own (.slice none 0 0) e sz 0 []) :: L) k = some e' → e'.blk ρ k = some b → alook L k = some e' := by
    intro ρ k e' b hk hb
    rw [alook_cons] at hk
    split at hk
    · cases hk; simp [LC.blk, Value.ownBlock] at hb
    · exact hk
  refine ⟨fun k e' hk => ?_, ρ0, A, fun ρ hρ => ?_⟩
  · rw [alook_cons] at hk
    split at hk
    · omega
    · have := hkb k e' hk; omega
  have h1 := h0 ρ fun j hj => hρ j (by omega)
  refine ⟨⟨h1.tm, fun k e' hk => ?_, h1.a3⟩, h1.sz, h1.df, h1.kp, fun k e' b hk hb => h1.nw k e' b (bl ρ k e' b hk hb) hb, fun k1 k2 f1 f2 b hk1 hk2 hb1 hb2 => h1.ds k1 k2 f1 f2 b (bl ρ k1 f1 b hk1 hb1) (bl ρ k2 f2 b hk2 hb2) hb1 hb2, h1.a1,
    fun b hb => ⟨(h1.a2 b hb).1, fun k e' hk hbk => (h1.a2 b hb).2 k e' (bl ρ k e' b hk hbk) hbk⟩, h1.mb⟩
  rw [alook_cons] at hk
  split at hk
  · cases hk; exact World.ownsRow_nil _ _ _ _
  · exact h1.lo k e' hk
def muChk (L : LE) : Nat → Bool
  | 0 => true
  | i + 1 => (match alook L i with | some (.c _ _) => true | _ => false) && muChk L i
theorem muChk_at {L : LE} : ∀ {m i : Nat}, muChk L m = true → i < m → ∃ cs t, alook L i = some (.c cs t)
  | m + 1, i, h, hi => by
    simp only [muChk, Bool.and_eq_true] at h
    by_cases e : i = m
    · subst e
      have h1 := h.1
      split at h1
      · rename_i cs t hk; exact ⟨cs, t, hk⟩
      · cases h1
    · exact muChk_at h.2 (by omega)
/-- A slice of the call's own is written no more: it is a fact. -/
theorem wk_seal {α : Type} {enc : α → List Value} {xs : List α} {j : Nat} {v : Value} {e : TypeId} {sz m : Nat} (hM : X.M = [] ∨ (X.M = X.N ∧ muChk L X.N.length = true)) (henc : ∀ x, (enc x).length = sz) (hm : m = xs.length) (hj : alook L j = some (.own v e sz m (xs.flatMap enc))) : Wk X T L n F D ⟨T, (j, .dead) :: L, n, slF enc sz v xs :: F, D⟩ := by
  subst hm
  rintro a w ⟨hkb, ρ0, A, h0⟩
  have hb0 := h0 ρ0 (fun _ _ => rfl)
  have hown : w.ownsRow 0 e sz v xs.length (xs.flatMap enc) := hb0.lo j _ hj
  have bl : ∀ (ρ : Nm) k e' b, alook ((j, LC.dead) :: L) k = some e' → e'.blk ρ k = some b → k ≠ j ∧ alook L k = some e' := by
    intro ρ k e' b hk hb
    rw [alook_cons] at hk
    split at hk
    · cases hk; simp [LC.blk] at hb
    · rename_i ek; exact ⟨ek, hk⟩
  refine ⟨fun k e' hk => ?_, ρ0, fun b => A b ∨ v.ownBlock = some b, fun ρ hρ => ?_⟩
  · rw [alook_cons] at hk
    split at hk
    · rename_i ek; rw [ek]; exact hkb _ _ hj
    · exact hkb k e' hk
  have h1 := h0 ρ hρ
  refine ⟨⟨h1.tm, fun k e' hk => ?_, fun f hf => ?_⟩, h1.sz, h1.df, h1.kp, fun k e' b hk hb => h1.nw k e' b (bl ρ k e' b hk hb).2 hb, fun k1 k2 f1 f2 b hk1 hk2 hb1 hb2 => h1.ds k1 k2 f1 f2 b (bl ρ k1 f1 b hk1 hb1).2 (bl ρ k2 f2 b hk2 hb2).2 hb1 hb2, ?_, ?_, h1.mb⟩
  · rw [alook_cons] at hk
    split at hk
    · cases hk; trivial
    · exact h1.lo k e' hk
  · rcases List.mem_cons.1 hf with rfl | hf
    · have hS := Sl.of_owns henc hown
      obtain ⟨a', cap, e1, e2, h3⟩ := hS
      refine ⟨a', cap, e1, e2, h3.imp id ?_⟩
      rintro ⟨b, off, h4, _, h6⟩
      exact ⟨b, off, h4, .inr (by rw [e1, h4]; rfl), h6⟩
    · exact f.ok (w := w) (fun _ h => .inl h) (fun _ _ => rfl) (Grow.refl _) (h1.a3 f hf)
  · rintro b (hb | hb)
    · exact h1.a1 b hb
    · rcases h1.nw j _ b hj hb with h2 | h2
      · exfalso
        rcases hM with hM | ⟨hM, hC⟩
        · rw [hM] at h2; cases h2
        · rw [hM] at h2
          obtain ⟨i, hi⟩ := List.mem_iff_getElem?.1 h2
          obtain ⟨cs, t, hk⟩ := muChk_at hC (List.getElem?_eq_some_iff.1 hi).1
          have := h1.ds i j _ _ b hk hj (by simp only [LC.blk]; rw [h1.mb i b hi]) hb
          subst this
          rw [hk] at hj
          cases hj
      · exact .inr h2
  · rintro b (hb | hb)
    · exact ⟨(h1.a2 b hb).1, fun k e' hk hbk => (h1.a2 b hb).2 k e' (bl ρ k e' b hk hbk).2 hbk⟩
    · refine ⟨LC.lt (h1.lo j _ hj) hb, fun k e' hk hbk => ?_⟩
      obtain ⟨h2, h3⟩ := bl ρ k e' b hk hbk
      exact h2 (h1.ds k j e' _ b h3 hj hbk hb)

/-- append onto a slice of the call's own. -/
theorem ojs_append {cl : Call} {s src : Operand} {t e : TypeId} {sz by_ m m' : Nat} {zs : List Nat} {v : Value} {xs news : List Value} {d : Nat} (j : Nat) (hj : alook L j = some (.own v e sz m xs)) (ho : o.op = .call cl) (hcl : cl.callee = .builtin .append) (hargs : cl.args.toList = [s, src]) (htys : cl.argTypes.toList = [t, t])
    (hs : evS T s = some (.o (.v v))) (hel : alook X.tab.el t = some (e, sz)) (hze : alook X.tab.ze e = some zs) (hzl : zs.length = sz) (hsz : 0 < sz) (hby : alook X.tab.by_ e = some by_) (hdst : o.dst = some d) (hd : Nat.blt d X.k = true)
    (hsrc : ∀ A ρ a w, Vw T L F A ρ a w → (∀ b, A b → b < w.heap.size) → (∃ ad c, a.eval src = .slice (some ad) m' c ∧ ∀ j u, news[j]? = some u → w.cell? (ad.add j) = some u) ∨ (a.eval src = .slice none 0 0 ∧ m' = 0 ∧ news = [])) (hl : news.length = m' * sz) (h1 : ∀ u ∈ news, u.oneCell' = true) (hcap : (m + m') * by_ ≤ 140737488355328) (h63 : m + m' ≤ maxLen)
    (h : ∀ a' c', k ((d, .o (.v (.slice a' (m + m') c'))) :: T) ((j, .own (.slice a' (m + m') c') e sz (m + m') (xs ++ news)) :: L) n F D) : OJs X o T L n F D k K := by
  intro Q hQ Φ hΦ a w hr
  obtain ⟨A, ρ, h0⟩ := hr.one
  refine Oper.wpIn_of_run (by simp [noDef, ho]) ?_
  obtain ⟨ht, i, hi, his⟩ := tyE_spec (X.ok.el _ _ hel)
  obtain ⟨i', z, hi', hz1, hz2⟩ := tyZ_is (X.ok.ze _ _ hze)
  simp only at ht hi his
  rw [hi] at hi'
  cases hi'
  have hyb : i.bytes = by_ := by
    have := X.ok.by_ _ _ hby
    unfold tyY at this
    rw [hi] at this
    simpa using this
  have hzs : z.cells.size = sz := by rw [hz2 ρ]; simp [denL, zcells, hzl]
  have ha1 : cl.args = #[s, src] := Array.ext' hargs
  have ha2 : cl.argTypes = #[t, t] := Array.ext' htys
  have hv : a.eval s = v := h0.ev hs
  have hown : w.ownsRow 0 e sz v m xs := h0.lo j _ hj
  have fin : ∀ v' w', (Builtin.append_ #[t, t] o.type #[v, a.eval src]).run X.P w = .ok v' w' → w'.ownsRow 0 e sz v' (m + m') (xs ++ news) → w.grownBy w' v.ownBlock → (∀ g, v'.ownBlock = some g → v.ownBlock = some g ∨ w.heap.size ≤ g) →
      o.uponIn X.fe X.nn X.P a Φ Q ((execOp a.eval o).run X.P w) := by
    intro v' w' hrun ho' hg far
    obtain ⟨a', c', rfl⟩ := own_shape ho'
    have e1 : (execOp a.eval o).run X.P w = .ok (.value (.slice a' (m + m') c')) w' := by
      simp only [execOp, ho, resolve, hcl, ha1, ha2, List.map_toArray, List.map_cons, List.map_nil, hv, Sem.run_bind, Sem.run_pure, Result.andThen_ok, invoke, builtin, hrun]
    rw [e1]
    refine hΦ _ _ _ _ _ (h a' c') _ w' ?_
    have := hr.own hj ho' hg far
    have hp : putS X.k o.dst (.o (.v (.slice a' (m + m') c'))) T = some ((d, .o (.v (.slice a' (m + m') c'))) :: T) := by simp [putS, hdst, hd]
    exact this.put (fun _ _ _ => rfl) hp
  rcases hsrc A ρ a w h0.toVw (fun b hb => (h0.a2 b hb).1) with ⟨ad, c', hsv, hnews⟩ | ⟨hsv, rfl, rfl⟩
  · obtain ⟨v', w', hr1, hr2, hr3, _⟩ := run_append_own (P := X.P) w 0 t o.type e i z sz by_ ht hi hz1 his hyb hzs hsz v m xs hown ad m' c' news hl hnews h1 h63 hcap (Nat.zero_le _)
    exact fin v' w' (by rw [hsv]; exact hr1) hr2 hr3 (append_far ht hi hz1 his hyb hzs hsz hown hl hnews h1 h63 hcap hr1)
  · refine fin v w (by rw [hsv]; exact run_append_owned_none w 0 t o.type e i sz ht hi v m xs hown) (by simpa using hown) ⟨rfl, rfl, rfl, Nat.le_refl _, fun _ _ _ => rfl⟩ fun g hg => .inl hg
/-- The source is a slice literal of the call's own. -/
theorem srcL {src : Operand} {q m' : Nat} {news : List Value} {e : TypeId} (hsrc : evS T src = some (.o (.s q 0 m' m'))) (hq : alook L q = some (.c (news.map SV.v) e)) : ∀ A ρ a w, Vw T L F A ρ a w → (∀ b, A b → b < w.heap.size) → (∃ ad c, a.eval src = .slice (some ad) m' c ∧ ∀ j u, news[j]? = some u → w.cell? (ad.add j) = some u) ∨ (a.eval src = .slice none 0 0 ∧ m' = 0 ∧ news = []) := by
  intro A ρ a w h0 _
  refine .inl ⟨⟨ρ q, 0, none⟩, m', h0.ev hsrc, fun j u hu => ?_⟩
  have h1 := h0.lo q _ hq
  simp only [LC.holds, map_v_denL] at h1
  rw [addr_add, cell_of_list h1]
  simpa using hu
/-- The source is a slice that reads as a list. -/
theorem srcF {α : Type} {enc : α → List Value} {sz : Nat} {src : Operand} {ao : Option Addr} {m' c' : Nat} {ys : List α} (hsrc : evS T src = some (.o (.v (.slice ao m' c')))) (hf : slF enc sz (.slice ao m' c') ys ∈ F) (henc : ∀ x, (enc x).length = sz) :
    ∀ A ρ a w, Vw T L F A ρ a w → (∀ b, A b → b < w.heap.size) → (∃ ad c, a.eval src = .slice (some ad) m' c ∧ ∀ j u, (ys.flatMap enc)[j]? = some u → w.cell? (ad.add j) = some u) ∨ (a.eval src = .slice none 0 0 ∧ m' = 0 ∧ ys.flatMap enc = []) := by
  intro A ρ a w h0 hA
  have hS := slF_sl (h0.a3 _ hf) hA
  cases ao with
  | none =>
    obtain ⟨rfl, rfl⟩ := hS.nil_cap
    have := hS.nil_of_none
    subst this
    exact .inr ⟨h0.ev hsrc, rfl, rfl⟩
  | some ad => exact .inl ⟨ad, c', h0.ev hsrc, hS.news henc⟩
end

end Go.Proofs.Ytnkpmeplapkobaa
