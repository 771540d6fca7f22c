/- A symbolic run: iterators (functions that call yield). No program is in sight. -/
import Derived.Test.YtnkpmeplapkobaaEngK
namespace Go.Proofs.Ytnkpmeplapkobaa
open Go.RowKit Go.Shelf

/-- V' is V but for the blocks of O and new ones. -/
structure Chg (O : Nat → Prop) (V V' : World) : Prop extends Grow V V' where
  keep : ∀ b, b < V.heap.size → ¬ O b → V'.heap[b]? = V.heap[b]?
def Grown (O : Nat → Prop) (V V' : World) : Nat → Prop := fun b => O b ∨ (V.heap.size ≤ b ∧ b < V'.heap.size)
/-- The blocks of B stay. -/
structure Keep (B : Nat → Prop) (V V' : World) : Prop extends Grow V V' where
  keep : ∀ b, b < V.heap.size → B b → V'.heap[b]? = V.heap[b]?
/-- What an iterator is told of its caller: what the rounds keep (J), what a round leaves that stops (Jx); O: the iterator's own blocks; A: the blocks of what was captured. -/
structure It (P : Program) {α : Type} (enc : α → List Value) (xs : List α) where
  n : Nat
  l : Nat
  A : Nat → Prop
  J : Nat → (Nat → Prop) → World → Prop
  Jx : Nat → (Nat → Prop) → World → Prop
  W : World
  hJ : ∀ k O V V', J k O V → Chg O V V' → J k (Grown O V V') V'
  hJx : ∀ k O V V', Jx k O V → Chg O V V' → Jx k (Grown O V V') V'
  hY : ∀ k x O V, xs[k]? = some x → J k O V → W.heap.size ≤ V.heap.size → (∀ b, O b → W.heap.size ≤ b ∧ b < V.heap.size) → YieldAt Fence.wide (n - 1) P l (enc x).toArray V fun e V' =>
    (e = .returned (.bool true) ∧ J (k + 1) O V' ∧ Keep (fun b => A b ∨ O b) V V') ∨ (e = .returned (.bool false) ∧ Jx (k + 1) O V' ∧ Keep O V V')
section
variable {P : Program} {α : Type} {enc : α → List Value} {xs : List α}
def It.post (S : It P enc xs) : Ending → World → Prop := fun e W' => (∃ v, e = .returned v) ∧ ((∃ O, S.J xs.length O W') ∨ ∃ k O, S.Jx k O W' ∧ 0 < k ∧ k ≤ xs.length)
/-- The function gf, with lb captured, gives the elements of xs, one by one. -/
def SeqC (P : Program) (gf : FuncId) (lb : List Value) (F0 : List Fact) (enc : α → List Value) (xs : List α) : Prop :=
  ∀ S : It P enc xs, (∀ b, S.A b → b < S.W.heap.size) → (∀ f ∈ F0, f.h S.A S.W) → S.J 0 (fun _ => False) S.W → CallsIn Fence.wide S.n P gf (#[.func (.yield S.l) #[] #[]] ++ lb.toArray) S.W S.post

def jFact (m : Nat) (J : (Nat → Prop) → World → Prop) (hJ : ∀ O V V', J O V → Chg O V V' → J (Grown O V V') V') : Fact where
  h A w := m ≤ w.heap.size ∧ ∃ O, J O w ∧ (∀ b, O b → m ≤ b ∧ b < w.heap.size) ∧ ∀ b, b < w.heap.size → O b ∨ A b
  ok := by
    rintro A A' w w' hA hw hg ⟨h1, O, h2, h3, h4⟩
    refine ⟨Nat.le_trans h1 hg.size, Grown O w w', hJ O w w' h2 ⟨hg, fun b hb hO => hw b ((h4 b hb).resolve_left hO)⟩, ?_, ?_⟩
    · rintro b (hb | hb)
      · exact ⟨(h3 b hb).1, Nat.lt_of_lt_of_le (h3 b hb).2 hg.size⟩
      · omega
    · intro b hb
      by_cases hlt : b < w.heap.size
      · rcases h4 b hlt with h | h
        · exact .inl (.inl h)
        · exact .inr (hA b h)
      · exact .inl (.inr ⟨by omega, hb⟩)
def It.jF (S : It P enc xs) (k : Nat) : Fact := jFact S.W.heap.size (S.J k) (S.hJ k)
def It.jxF (S : It P enc xs) (k : Nat) : Fact := jFact S.W.heap.size (S.Jx k) (S.hJx k)
def It.inF (S : It P enc xs) (f : Fact) : Fact where
  h A w := (∀ b, S.A b → A b) ∧ f.h S.A w
  ok := fun hA hw hg h => ⟨fun b hb => hA b (h.1 b hb), f.ok (fun _ h => h) (fun b hb => hw b (h.1 b hb)) hg h.2⟩
def It.X (S : It P enc xs) (tab : Tab) (ok : tab.Ok P) (k : Nat) : Fx := ⟨P, tab, ok, none, S.n, k, S.W, fun b => b < S.W.heap.size, List.range S.W.heap.size, []⟩

/-- What is to be shown where a body is left. -/
def LvR (X : Fx) (nn : Nat) (R : Ending → World → Prop) (res : List ResultVar) (u : FrameMode) (T : TE) (L : LE) (n : Nat) (F : List Fact) (D : DF) : Prop :=
  ∀ a w, Rel X T L n F D a w → ∀ fn : Func, fn.results.toList = res → LeavesInM Fence.wide nn X.P fn a.tmps R a.defers u w
theorem lv_of {X : Fx} {res : List ResultVar} {mu : List MB} {Out : OutT} {u : FrameMode} {T : TE} {L : LE} {n : Nat} {F : List Fact} {D : DF} (h : LvR X 8 (Res X.w0 X.A0 mu Out) res u T L n F D) : Lv X res mu Out u T L n F D := h
def It.endK (S : It P enc xs) (X : Fx) (res : List ResultVar) : KK := fun e T L n F D => match e with
  | .normal => LvR X S.n S.post res .returning T L n F D
  | .ret => LvR X S.n S.post res .returning T L n F D
  | _ => False
theorem endS_done {S : It P enc xs} {X : Fx} {res : List ResultVar} {T : TE} {L : LE} {n : Nat} {F : List Fact} {D : DF} {us : List TV} (h : S.jF xs.length ∈ F) (hD : D = fun _ => []) (hres : resS X.tab T L res = some us) : LvR X S.n S.post res .returning T L n F D := by
  intro a w hr fn hfn
  obtain ⟨A, ρ, h0⟩ := hr.one
  rw [h0.df, hD]
  obtain ⟨_, O, h2, _⟩ := h0.a3 _ h
  exact ⟨retV ρ us, results_run h0.toVw (by rw [hfn]; exact hres), ⟨_, rfl⟩, .inl ⟨O, h2⟩⟩
theorem endS_stop {S : It P enc xs} {X : Fx} {res : List ResultVar} {T : TE} {L : LE} {n : Nat} {F : List Fact} {D : DF} {us : List TV} (k : Nat) (h : S.jxF k ∈ F) (hk : 0 < k) (hk2 : k ≤ xs.length) (hD : D = fun _ => []) (hres : resS X.tab T L res = some us) : LvR X S.n S.post res .returning T L n F D := by
  intro a w hr fn hfn
  obtain ⟨A, ρ, h0⟩ := hr.one
  rw [h0.df, hD]
  obtain ⟨_, O, h2, _⟩ := h0.a3 _ h
  exact ⟨retV ρ us, results_run h0.toVw (by rw [hfn]; exact hres), ⟨_, rfl⟩, .inr ⟨k, O, h2, hk, hk2⟩⟩

/-- An iterator's contract from a run of its body. -/
theorem seq_of {tab : Tab} {ok : tab.Ok P} {gf : Nat} {fn : Func} {body : Code} {lb : List Value} {F0 : List Fact} {k : Nat} (us : List TV) (hf : P.funcs[gf]? = some fn) (hk : fn.ntmps = k) (hb : fn.body = some body) (hul : Nat.ble (us.length + 1) k = true) (hargs : ∀ ρ, us.map (TV.den ρ) = lb)
    (h : ∀ S : It P enc xs, sx (S.X tab ok k) body (argT 0 (.o (.v (.func (.yield S.l) #[] #[])) :: us)) [] 0 (S.jF 0 :: F0.map S.inF) (fun _ => []) (S.endK (S.X tab ok k) fn.results.toList)) : SeqC P gf lb F0 enc xs := by
  intro S hA hF h0
  refine callsIn_of_wp_marks hf hb trivial ?_ rfl
  rw [hk]
  have hk2 : us.length + 1 ≤ k := by rwa [Nat.ble_eq] at hul
  have hll : lb.length = us.length := by rw [← hargs (fun _ => 0)]; simp
  refine sx_sound (h S) _ ?_ _ _ ?_
  · intro e T L n F D hK a w' hr
    cases e with
    | normal => exact hK a w' hr fn rfl
    | ret => exact hK a w' hr fn rfl
    | panic ch => exact hK.elim
    | exit id => exact hK.elim
    | goto l => exact hK.elim
    | outgrown => exact hK.elim
  · refine ⟨fun k e hk => (by cases hk), fun _ => 0, fun b => b < S.W.heap.size, fun ρ _ => ⟨⟨?_, fun k e hk => (by cases hk), ?_⟩, by simp [It.X]; omega, rfl, Kp.refl _ _, fun k e b hk => (by cases hk), fun k k' e e' b hk => (by cases hk), fun b hb => .inl hb, fun b hb => ⟨hb, fun k e hk => (by cases hk)⟩, fun i b hi => (by cases hi)⟩⟩
    · intro t x hx
      obtain ⟨j, rfl, hj⟩ := argT_look hx
      rw [Nat.zero_add]
      have e : (#[Value.func (.yield S.l) #[] #[]] ++ lb.toArray) = ((.o (.v (.func (.yield S.l) #[] #[])) :: us).map (TV.den ρ)).toArray := by
        rw [List.map_cons, hargs ρ]; simp [TV.den, SV.den]
      rw [e, Array.getD_eq_getD_getElem?, Array.getElem?_append_left (by simp; have := (List.getElem?_eq_some_iff.1 hj).1; simpa using this)]
      rw [List.getElem?_toArray, List.getElem?_map, hj]
      rfl
    · intro f hf
      rcases List.mem_cons.1 hf with rfl | hf
      · exact ⟨Nat.le_refl _, _, h0, fun _ h => h.elim, fun b hb => .inr hb⟩
      · obtain ⟨f0, hf0, rfl⟩ := List.mem_map.1 hf
        exact ⟨hA, hF f0 hf0⟩

set_option maxHeartbeats 1000000 in
/-- A call of yield: element k is given. -/
theorem ojs_yield {S : It P enc xs} {tab : Tab} {ok : tab.Ok P} {kk : Nat} {o : Oper} {T : TE} {L : LE} {n : Nat} {F : List Fact} {D : DF} {kq : KS} {K : KK} {cl : Call} {f : Operand} {us : List TV} {x : α} (k : Nat) (fs : List Fact) (ho : o.op = .call cl) (hc : cl.callee = .value f) (hf : evS T f = some (.o (.v (.func (.yield S.l) #[] #[]))))
    (hus : argS T cl.args.toList = some us) (hx : xs[k]? = some x) (henc : ∀ ρ, us.map (TV.den ρ) = enc x) (hj : S.jF k ∈ F) (hfs : ∀ f ∈ fs, S.inF f ∈ F)
    (h1 : match putS kk o.dst (.o (.v (.bool true))) T with | some T' => kq T' L n (S.jF (k + 1) :: fs.map S.inF) D | none => False)
    (h2 : match putS kk o.dst (.o (.v (.bool false))) T with | some T' => kq T' L n [S.jxF (k + 1)] D | none => False) : OJs (S.X tab ok kk) o T L n F D kq K := by
  intro Q hQ Φ hΦ a w hr
  obtain ⟨hkb, ρ0, A, hr0⟩ := hr
  have h0 := hr0 ρ0 (fun _ _ => rfl)
  obtain ⟨hm, O, hJ, hO, hcov⟩ := h0.a3 _ hj
  obtain ⟨fn', tmps', as', bd', hy, hR⟩ := S.hY k x O w hx hJ hm hO
  have e1 := argS_den h0.toVw hus
  have e2 : cl.args.map a.eval = (enc x).toArray := by apply Array.ext'; rw [Array.toList_map, e1, henc]
  have e3 := h0.ev hf
  simp only [TV.den, SV.den] at e3
  have run : (execOp a.eval o).run P w = .ok (.round S.l fn' tmps' as' bd') w := by
    simp [execOp, ho, resolve, hc, e3, Deferred.ofValue, invoke, e2, hy]
  have own : ∀ k e b, alook L k = some e → e.blk ρ0 k = some b → O b ∧ b < w.heap.size := by
    intro k e b hk hb
    have hlt := LC.lt (h0.lo k e hk) hb
    rcases hcov b hlt with h | h
    · exact ⟨h, hlt⟩
    · exact absurd hb ((h0.a2 b h).2 k e hk)
  have gen : ∀ (V' : World) (Fn : List Fact) (v : Value) (T' : TE), Keep O w V' → putS kk o.dst (.o (.v v)) T = some T' → (∀ f ∈ Fn, f.h (fun b => b < V'.heap.size ∧ ∀ k e, alook L k = some e → e.blk ρ0 k ≠ some b) V') →
      Rel (S.X tab ok kk) T' L n Fn D (a.put o.dst v) V' := by
    intro V' Fn v T' hK hp hFn
    refine Rel.put (T := T) (u := .o (.v v)) ⟨hkb, ρ0, fun b => b < V'.heap.size ∧ ∀ k e, alook L k = some e → e.blk ρ0 k ≠ some b, fun ρ hρ => ?_⟩ (fun _ _ _ => rfl) hp
    have h3 := hr0 ρ hρ
    have bk : ∀ k e b, alook L k = some e → e.blk ρ k = some b → e.blk ρ0 k = some b := fun k e b hk hb => by rw [← LC.blk_congr (hρ k (hkb k e hk))]; exact hb
    refine ⟨⟨h3.tm, fun k e hk => LC.keep (w := w) (h3.lo k e hk) fun b hb => ?_, hFn⟩, h3.sz, h3.df, ⟨hK.os.trans h3.kp.os, hK.tape.trans h3.kp.tape, hK.output.trans h3.kp.output, Nat.le_trans h3.kp.size hK.size, fun b hb hm => ?_⟩, h3.nw, h3.ds, fun b hb => ?_, fun b hb => ⟨hb.1, fun k e hk hbk => hb.2 k e hk (bk k e b hk hbk)⟩, h3.mb⟩
    · obtain ⟨g1, g2⟩ := own k e b hk (bk k e b hk hb)
      exact hK.keep b g2 g1
    · exact absurd (List.mem_range.2 hb) hm
    · by_cases hlt : b < S.W.heap.size
      · exact .inl hlt
      · exact .inr (Nat.le_of_not_lt hlt)
  refine Oper.wpIn_of_run (by simp [noDef, ho]) ?_
  show o.uponIn _ _ _ _ _ _ ((execOp a.eval o).run P w)
  rw [run]
  refine ⟨fun hd => by simp [Fx.fe, Fence.wide] at hd, hR.mono ?_⟩
  rintro e V' (⟨rfl, hJ', hK⟩ | ⟨rfl, hJ', hK⟩)
  · split at h1
    · rename_i T' hp
      refine hΦ _ _ _ _ _ h1 _ V' (gen V' _ _ T' ⟨hK.toGrow, fun b hb hO => hK.keep b hb (.inr hO)⟩ hp ?_)
      intro f hf
      rcases List.mem_cons.1 hf with rfl | hf
      · refine ⟨Nat.le_trans hm hK.size, O, hJ', fun b hb => ⟨(hO b hb).1, Nat.lt_of_lt_of_le (hO b hb).2 hK.size⟩, fun b hb => ?_⟩
        by_cases hob : O b
        · exact .inl hob
        · exact .inr ⟨hb, fun k e hk hbk => hob (own k e b hk hbk).1⟩
      · obtain ⟨f0, hf0, rfl⟩ := List.mem_map.1 hf
        obtain ⟨g1, g2⟩ := h0.a3 _ (hfs f0 hf0)
        refine ⟨fun b hb => ⟨Nat.lt_of_lt_of_le (h0.a2 b (g1 b hb)).1 hK.size, fun k e hk hbk => (h0.a2 b (g1 b hb)).2 k e hk hbk⟩, f0.ok (w := w) (fun _ h => h) (fun b hb => hK.keep b (h0.a2 b (g1 b hb)).1 (.inl hb)) hK.toGrow g2⟩
    · exact h1.elim
  · split at h2
    · rename_i T' hp
      refine hΦ _ _ _ _ _ h2 _ V' (gen V' _ _ T' hK hp ?_)
      intro f hf
      cases List.mem_singleton.1 hf
      refine ⟨Nat.le_trans hm hK.size, O, hJ', fun b hb => ⟨(hO b hb).1, Nat.lt_of_lt_of_le (hO b hb).2 hK.size⟩, fun b hb => ?_⟩
      by_cases hob : O b
      · exact .inl hob
      · exact .inr ⟨hb, fun k e hk hbk => hob (own k e b hk hbk).1⟩
    · exact h2.elim
end

end Go.Proofs.Ytnkpmeplapkobaa
