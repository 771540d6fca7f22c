/- Part 36 of the proof of LockBacks: contracts of functions that the law reaches, or the rules by which they are walked. No condition. -/
import Derived.Test.YtmhnlkakbadkgaaGreatPkaf
import Derived.Test.YtmhnlkakbadkgaaGreatPkbg
import Derived.Test.YtmhnlkakbadkgaaGreatPkbi
namespace Go.Proofs.YtmhnlkakbadkgaaGreat
open Go.RowKit Go.Shelf
def jFactZ (m : Nat) (J : (Nat → Prop) → World → Prop) (hJ : ∀ O V V', J O V → Chg O V V' → J (Grown O V V') V') (Z : Nat → Prop) : Fact where
  h A w := m ≤ w.heap.size ∧ ∃ O, J O w ∧ (∀ b, O b → m ≤ b ∧ b < w.heap.size) ∧ (∀ b, Z b → O b) ∧ ∀ b, b < w.heap.size → O b ∨ A b
  ok := by
    rintro A A' w w' hA hw hg ⟨h1, O, h2, h3, h5, h4⟩
    refine ⟨Nat.le_trans h1 hg.size, Grown O w w', hJ O w w' h2 ⟨hg, fun b hb hO => hw b ((h4 b hb).resolve_left hO)⟩, ?_, fun b hb => .inl (h5 b hb), ?_⟩
    · rintro b (hb | hb)
      · exact ⟨(h3 b hb).1, Nat.lt_of_lt_of_le (h3 b hb).2 hg.size⟩
      · omega
    · intro b hb
      by_cases hlt : b < w.heap.size
      · rcases h4 b hlt with h | h
        · exact .inl (.inl h)
        · exact .inr (hA b h)
      · exact .inl (.inr ⟨by omega, hb⟩)
section
variable {P : Program} {α : Type} {enc : α → List Value} {xs : List α}
def It.jFZ (S : It P enc xs) (Z : Nat → Prop) (k : Nat) : Fact := jFactZ S.W.heap.size (S.J k) (S.hJ k) Z
def It.jxFZ (S : It P enc xs) (Z : Nat → Prop) (k : Nat) : Fact := jFactZ S.W.heap.size (S.Jx k) (S.hJx k) Z
def It.keF (S : It P enc xs) (w0 : World) : Fact where
  h A w := ∀ b, S.A b → A b ∧ w.heap[b]? = w0.heap[b]?
  ok := fun hA hw _ h b hb => ⟨hA b (h b hb).1, (hw b (h b hb).1).trans (h b hb).2⟩
def It.Xr (S : It P enc xs) (tab : Tab) (ok : tab.Ok P) (kk l : Nat) (w0 : World) (A0 : Nat → Prop) (M N : List Nat) : Fx := ⟨P, tab, ok, some l, S.n - 1 - 1, kk, w0, A0, M, N⟩
theorem Grow.trans {a b c : World} (h : Grow a b) (k : Grow b c) : Grow a c := ⟨k.os.trans h.os, k.tape.trans h.tape, k.output.trans h.output, Nat.le_trans h.size k.size⟩
theorem roundIn_any {F F' : Fence} (hF : F = { Fence.wide with round := F.round }) (hF' : F' = { Fence.wide with round := F'.round }) {n n' : Nat} {l : Nat} {f : FuncId} {tmps : Array Value} {assign body : Code} {w : World} {R : Ending → World → Prop} (h : RoundIn F n P l f tmps assign body w R) : RoundIn F' n' P l f tmps assign body w R := by
  rw [hF] at h
  rw [hF']
  exact ⟨trivial, fun c cs _ => h.2 c cs (room_wide _)⟩
set_option maxHeartbeats 1000000 in
theorem ojs_yieldZ {S : It P enc xs} {tab : Tab} {ok : tab.Ok P} {kk l : Nat} {w0 : World} {A0 : Nat → Prop} {M N : List Nat} {Z : Nat → Prop} {o : Oper} {T : TE} {L : LE} {n : Nat} {F : List Fact} {D : DF} {kq : KS} {K : KK} {cl : Call} {f : Operand} {us : List TV} {x : α} (k : Nat) (hM : ∀ b, b < w0.heap.size → b ∉ M → Z b) (ho : o.op = .call cl) (hc : cl.callee = .value f) (hf : evS T f = some (.o (.v (.func (.yield S.l) #[] #[]))))
    (hus : argS T cl.args.toList = some us) (hx : xs[k]? = some x) (henc : ∀ ρ, us.map (TV.den ρ) = enc x) (hj : S.jFZ Z k ∈ F) (hke : S.keF w0 ∈ F)
    (h1 : match putS kk o.dst (.o (.v (.bool true))) T with | some T' => kq T' L n [S.jFZ Z (k + 1), S.keF w0] D | none => False)
    (h2 : match putS kk o.dst (.o (.v (.bool false))) T with | some T' => kq T' L n [S.jxFZ Z (k + 1)] D | none => False) : OJs (S.Xr tab ok kk l w0 A0 M N) o T L n F D kq K := by
  intro Q hQ Φ hΦ a w hr
  obtain ⟨hkb, ρ0, A, hr0⟩ := hr
  have h0 := hr0 ρ0 (fun _ _ => rfl)
  obtain ⟨hm, O, hJ, hO, hZO, hcov⟩ := h0.a3 _ hj
  have hk0 := h0.a3 _ hke
  obtain ⟨fn', tmps', as', bd', hy, hR⟩ := S.hY k x O w hx hJ hm hO
  have e1 := argS_den h0.toVw hus
  have e2 : cl.args.map a.eval = (enc x).toArray := by apply Array.ext'; rw [Array.toList_map, e1, henc]
  have e3 := h0.ev hf
  simp only [TV.den, SV.den] at e3
  have run : (execOp a.eval o).run P w = .ok (.round S.l fn' tmps' as' bd') w := by
    simp [execOp, ho, resolve, hc, e3, Deferred.ofValue, invoke, e2, hy]
  have own : ∀ k e b, alook L k = some e → e.blk ρ0 k = some b → O b ∧ b < w.heap.size := by
    intro k e b hk hb
    have hlt := LC.lt (h0.lo k e hk) hb
    rcases hcov b hlt with h | h
    · exact ⟨h, hlt⟩
    · exact absurd hb ((h0.a2 b h).2 k e hk)
  have gen : ∀ (V' : World) (Fn : List Fact) (v : Value) (T' : TE), Keep O w V' → putS kk o.dst (.o (.v v)) T = some T' → (∀ f ∈ Fn, f.h (fun b => b < V'.heap.size ∧ (A0 b ∨ w0.heap.size ≤ b) ∧ ∀ k e, alook L k = some e → e.blk ρ0 k ≠ some b) V') →
      Rel (S.Xr tab ok kk l w0 A0 M N) T' L n Fn D (a.put o.dst v) V' := by
    intro V' Fn v T' hK hp hFn
    refine Rel.put (T := T) (u := .o (.v v)) ⟨hkb, ρ0, fun b => b < V'.heap.size ∧ (A0 b ∨ w0.heap.size ≤ b) ∧ ∀ k e, alook L k = some e → e.blk ρ0 k ≠ some b, fun ρ hρ => ?_⟩ (fun _ _ _ => rfl) hp
    have h3 := hr0 ρ hρ
    have bk : ∀ k e b, alook L k = some e → e.blk ρ k = some b → e.blk ρ0 k = some b := fun k e b hk hb => by rw [← LC.blk_congr (hρ k (hkb k e hk))]; exact hb
    refine ⟨⟨h3.tm, fun k e hk => LC.keep (w := w) (h3.lo k e hk) fun b hb => ?_, hFn⟩, h3.sz, h3.df, ⟨hK.os.trans h3.kp.os, hK.tape.trans h3.kp.tape, hK.output.trans h3.kp.output, Nat.le_trans h3.kp.size hK.size, fun b hb hm => ?_⟩, h3.nw, h3.ds, fun b hb => hb.2.1, fun b hb => ⟨hb.1, fun k e hk hbk => hb.2.2 k e hk (bk k e b hk hbk)⟩, h3.mb⟩
    · obtain ⟨g1, g2⟩ := own k e b hk (bk k e b hk hb)
      exact hK.keep b g2 g1
    · rw [hK.keep b (Nat.lt_of_lt_of_le hb h3.kp.size) (hZO b (hM b hb hm))]
      exact h3.kp.keep b hb hm
  have cov : ∀ V' : World, w.heap.size ≤ V'.heap.size → ∀ b, b < V'.heap.size → O b ∨ (b < V'.heap.size ∧ (A0 b ∨ w0.heap.size ≤ b) ∧ ∀ k e, alook L k = some e → e.blk ρ0 k ≠ some b) := by
    intro V' hs b hb
    by_cases hob : O b
    · exact .inl hob
    · refine .inr ⟨hb, ?_, fun k e hk hbk => hob (own k e b hk hbk).1⟩
      by_cases hlt : b < w.heap.size
      · exact h0.a1 b ((hcov b hlt).resolve_left hob)
      · exact .inr (Nat.le_trans h0.kp.size (Nat.le_of_not_lt hlt))
  refine Oper.wpIn_of_run (by simp [noDef, ho]) ?_
  show o.uponIn _ _ _ _ _ _ ((execOp a.eval o).run P w)
  rw [run]
  refine ⟨fun hd => by simp [Fx.fe, Fence.wide] at hd, roundIn_any (F := Fence.wide) rfl rfl (hR.mono ?_)⟩
  rintro e V' (⟨rfl, hJ', hK⟩ | ⟨rfl, hJ', hK⟩)
  · split at h1
    · rename_i T' hp
      refine hΦ _ _ _ _ _ h1 _ V' (gen V' _ _ T' ⟨hK.toGrow, fun b hb hO => hK.keep b hb (.inr hO)⟩ hp ?_)
      intro f hf
      simp only [List.mem_cons, List.not_mem_nil, or_false] at hf
      rcases hf with rfl | rfl
      · exact ⟨Nat.le_trans hm hK.size, O, hJ', fun b hb => ⟨(hO b hb).1, Nat.lt_of_lt_of_le (hO b hb).2 hK.size⟩, hZO, cov V' hK.size⟩
      · intro b hb
        obtain ⟨g1, g2⟩ := hk0 b hb
        obtain ⟨g3, g4⟩ := h0.a2 b g1
        exact ⟨⟨Nat.lt_of_lt_of_le g3 hK.size, h0.a1 b g1, g4⟩, (hK.keep b g3 (.inl hb)).trans g2⟩
    · exact h1.elim
  · split at h2
    · rename_i T' hp
      refine hΦ _ _ _ _ _ h2 _ V' (gen V' _ _ T' hK hp ?_)
      intro f hf
      cases List.mem_singleton.1 hf
      exact ⟨Nat.le_trans hm hK.size, O, hJ', fun b hb => ⟨(hO b hb).1, Nat.lt_of_lt_of_le (hO b hb).2 hK.size⟩, hZO, cov V' hK.size⟩
    · exact h2.elim
def nestL (S : It P enc xs) (B : Nat) (ro : Loop) (ty : TypeId) : LE := [(0, .ob (B + 1) (.loop ro)), (1, .ob B (.deferred (some []))), (2, .c [.v (.func (.yield S.l) #[] #[])] ty)]
theorem nestL_look {S : It P enc xs} {B : Nat} {ro : Loop} {ty : TypeId} {k : Nat} {e : LC} (h : alook (nestL S B ro ty) k = some e) : (k = 0 ∧ e = .ob (B + 1) (.loop ro)) ∨ (k = 1 ∧ e = .ob B (.deferred (some []))) ∨ (k = 2 ∧ e = .c [.v (.func (.yield S.l) #[] #[])] ty) := by
  unfold nestL at h
  rw [alook_cons] at h
  split at h
  · cases h; exact .inl ⟨by assumption, rfl⟩
  rw [alook_cons] at h
  split at h
  · cases h; exact .inr (.inl ⟨by assumption, rfl⟩)
  rw [alook_cons] at h
  split at h
  · cases h; exact .inr (.inr ⟨by assumption, rfl⟩)
  · cases h
def nestK (S : It P enc xs) (Z : Nat → Prop) (B : Nat) (bu : Loop) (ty : TypeId) (k id0 : Nat) (w0 : World) : KK := fun e _ L _ F _ => match e with
  | .normal => S.jFZ Z (k + 1) ∈ F ∧ S.keF w0 ∈ F ∧ alook L 0 = some (.ob (B + 1) (.loop bu)) ∧ alook L 1 = some (.ob B (.deferred (some []))) ∧ alook L 2 = some (.c [.v (.func (.yield S.l) #[] #[])] ty)
  | .exit id => id = id0 ∧ S.jxFZ Z (k + 1) ∈ F ∧ alook L 0 = some (.ob (B + 1) (.loop bu)) ∧ alook L 1 = some (.ob B (.deferred (some []))) ∧ alook L 2 = some (.c [.v (.func (.yield S.l) #[] #[])] ty)
  | _ => False
open Classical in
set_option maxHeartbeats 4000000 in
theorem cjs_nest {S : It P enc xs} {tab : Tab} {ok : tab.Ok P} {kk : Nat} {T : TE} {L : LE} {n : Nat} {F fs : List Fact} {D : DF} {K : KK} {enc' : α → List Value} {gf : Nat} {g : Operand} {ps : Array Tmp} {assign body : Code} {cj : List Value} {tj ty : TypeId} (j y ys id0 : Nat)
    (hseq : ∀ b, SeqC P gf [.pointer (some ⟨b, 0, none⟩)] (blkF b cj tj :: fs) enc' xs) (hfs : ∀ f ∈ fs, S.inF f ∈ F) {f0 : Fact} (hf0 : S.inF f0 ∈ F) (hj : S.jF 0 ∈ F) (hg : evS T g = some (.o (.f (.func gf) [] [.p j 0]))) (hLj : alook L j = some (.c (cj.map SV.v) tj)) (hLy : alook L y = some (.c [.v (.func (.yield S.l) #[] #[])] ty)) (hjy : j ≠ y)
    (hT : alook T ys = some (.o (.p y 0))) (hfn : alook tab.fn gf = some ()) (hps : ∀ x, (enc' x).length = ps.size) (hpk : (ps.toList.all fun p => Nat.blt p kk) = true) (hD : D = fun _ => [])
    (hround : ∀ k x, xs[k]? = some x → ∀ (Z : Nat → Prop) (B : Nat) (w0 : World) (A0 : Nat → Prop) (M N : List Nat) (ro bu : Loop), N.length = 3 → (∀ b, b < w0.heap.size → b ∉ M → Z b) →
      sx (S.Xr tab ok kk (B + 1) w0 A0 M N) assign (parT ps.toList (enc' x) [(ys, .o (.p 2 0))]) (nestL S B ro ty) 3 [S.jFZ Z k, S.keF w0] (fun _ => []) (fun e T' L' n' F' D' => match e with
        | .normal => alook L' 0 = some (.ob (B + 1) (.loop ro)) ∧ sx (S.Xr tab ok kk (B + 1) w0 A0 M N) body T' ((0, .ob (B + 1) (.loop bu)) :: L') n' F' D' (nestK S Z B bu ty k id0 w0)
        | _ => False))
    (hdone : K .normal [] [(n, markL)] (n + 1) [S.jF xs.length] (fun ρ => [markD (ρ n)]))
    (hstop : ∀ k, 0 < k → k ≤ xs.length → sx (S.X tab ok kk) (.exit id0) [] [(n, markL)] (n + 1) [S.jxF k] (fun ρ => [markD (ρ n)]) K) : CJs (S.X tab ok kk) (.rangeFunc g ps assign body) T L n F D K := by
  intro Q hQ a w hr0
  have eg' : ∀ args w, (callFunc gf args).run P w = .ok (.enter gf args) w := tyB_spec (ok.fn _ _ hfn)
  obtain ⟨A, ρ, h0⟩ := hr0.one
  obtain ⟨hm0, O0, hJ0, hO0, hcov0⟩ := h0.a3 _ hj
  have hdf : a.defers = [] := by rw [h0.df, hD]
  have hgv : a.eval g = .func (.func gf) #[] #[.pointer (some ⟨ρ j, 0, none⟩)] := h0.ev hg
  have hjb : w.heap[ρ j]? = some (.cells cj.toArray tj (0, 0)) := by have := h0.lo j _ hLj; simpa [LC.holds, map_v_denL] using this
  have hyb : w.heap[ρ y]? = some (.cells #[.func (.yield S.l) #[] #[]] ty (0, 0)) := by have := h0.lo y _ hLy; simpa [LC.holds, denL, SV.den] using this
  have hjl := lt_of_block hjb
  have hyl := lt_of_block hyb
  have hjO : O0 (ρ j) := (hcov0 _ hjl).resolve_right fun h => (h0.a2 _ h).2 j _ hLj rfl
  have hyO : O0 (ρ y) := (hcov0 _ hyl).resolve_right fun h => (h0.a2 _ h).2 y _ hLy rfl
  have hne : ρ j ≠ ρ y := fun e => hjy (h0.ds j y _ _ (ρ y) hLj hLy (by simp [LC.blk, e]) rfl)
  have hys : a.tmps.getD ys undef = .pointer (some ⟨ρ y, 0, none⟩) := h0.tm ys _ hT
  have hsz := h0.sz
  obtain ⟨B2, hB2⟩ : ∃ b, b = ρ j := ⟨_, rfl⟩
  obtain ⟨Y, hY⟩ : ∃ b, b = ρ y := ⟨_, rfl⟩
  rw [← hB2] at hgv hjb hjl hjO hne
  rw [← hY] at hyb hyl hyO hne hys
  refine wpIn_rangeFunc fun fn hfn' => ?_
  obtain ⟨rc, hrc⟩ : ∃ rc : LoopState → Option Code → Loop, rc = fun st pe => { state := st, pending := pe, fn, tmps := a.tmps, params := ps, assign, body, defers := w.heap.size } := ⟨_, rfl⟩
  obtain ⟨V, hV⟩ : ∃ V, V = (w.alloc (.deferred (some []))).alloc (.loop (rc .ready none)) := ⟨_, rfl⟩
  have hs : V.heap.size = w.heap.size + 1 + 1 := by rw [hV]; simp
  have hL : V.heap[w.heap.size + 1]? = some (.loop (rc .ready none)) := by
    rw [hV]; have := World.alloc_heap_new (w.alloc (.deferred (some []))) (.loop (rc .ready none)); rwa [World.size_alloc] at this
  have hDf : V.heap[w.heap.size]? = some (.deferred (some [])) := by
    rw [hV]; exact (Below.heap_alloc _ _ _ (by simp)).trans (World.alloc_heap_new w _)
  have hwV : Below w.heap.size w V := by rw [hV]; exact ((Below.refl _ w).alloc (Nat.le_refl _) _).alloc (by simp) _
  obtain ⟨B, hB⟩ : ∃ B, B = w.heap.size := ⟨_, rfl⟩
  rw [← hB] at hL hDf hs hjl hyl
  have hmB : S.W.heap.size ≤ B := by rw [hB]; exact hm0
  have hlpn : ∀ st pe, (rc st pe).params = ps := fun st pe => by rw [hrc]
  -- what stands between rounds
  let Jc : ((Nat → Prop) → World → Prop) → Loop → (Nat → Prop) → World → Prop := fun J lp Oi U => U.heap[B + 1]? = some (.loop lp) ∧ U.heap[B]? = some (.deferred (some [])) ∧ (∀ b, Oi b → B + 2 ≤ b) ∧ Grow S.W U ∧
    ∃ O, J O U ∧ (∀ b, O b → S.W.heap.size ≤ b ∧ b < U.heap.size) ∧ (∀ b, Oi b → O b) ∧ O B ∧ O (B + 1) ∧ O B2 ∧ O Y ∧ U.heap[Y]? = some (.cells #[.func (.yield S.l) #[] #[]] ty (0, 0))
  have stab : ∀ (J : (Nat → Prop) → World → Prop) (hJ : ∀ O V V', J O V → Chg O V V' → J (Grown O V V') V') lp Oi U U', Jc J lp Oi U → Chg Oi U U' → Jc J lp (Grown Oi U U') U' := by
    rintro J hJ lp Oi U U' ⟨h1, h2, h3, h4, O, h5, h6, h7, h8, h9, h10, h11, h12⟩ hch
    refine ⟨(hch.keep _ (lt_of_block h1) fun h => by have := h3 _ h; omega).trans h1, (hch.keep _ (lt_of_block h2) fun h => by have := h3 _ h; omega).trans h2, ?_, h4.trans hch.toGrow, Grown O U U', hJ O U U' h5 ⟨hch.toGrow, fun b hb hO => hch.keep b hb fun h => hO (h7 b h)⟩, ?_, ?_, .inl h8, .inl h9, .inl h10, .inl h11, (hch.keep _ (lt_of_block h12) fun h => by have := h3 _ h; omega).trans h12⟩
    · rintro b (hb | hb)
      · exact h3 b hb
      · have := lt_of_block h1; omega
    · rintro b (hb | hb)
      · exact ⟨(h6 b hb).1, Nat.lt_of_lt_of_le (h6 b hb).2 hch.size⟩
      · have := h4.size; omega
    · rintro b (hb | hb)
      · exact .inl (h7 b hb)
      · exact .inr hb
  have putB : ∀ (U : World) (lp lp' : Loop), U.heap[B + 1]? = some (.loop lp) → Grow U (U.putObj (B + 1) (.loop lp')) ∧ (∀ b, b ≠ B + 1 → (U.putObj (B + 1) (.loop lp')).heap[b]? = U.heap[b]?) ∧ (U.putObj (B + 1) (.loop lp')).heap[B + 1]? = some (.loop lp') := fun U lp lp' h =>
    ⟨⟨rfl, rfl, rfl, by simp⟩, fun b hb => World.putObj_heap_other hb, World.putObj_heap_same (lt_of_block h)⟩
  have Alt : ∀ b, S.A b → b < B ∧ b ≠ Y := by
    intro b hb
    have hAb := (h0.a3 _ hf0).1 b hb
    obtain ⟨g1, g2⟩ := h0.a2 b hAb
    exact ⟨by rw [hB]; exact g1, fun e => g2 y _ hLy (by rw [e, hY]; rfl)⟩
  have round : ∀ (k : Nat) (x : α) (Oi : Nat → Prop) (W1 : World), xs[k]? = some x → Jc (S.J k) (rc .ready none) Oi W1 → V.heap.size ≤ W1.heap.size → (∀ b, Oi b → V.heap.size ≤ b ∧ b < W1.heap.size) → YieldAt Fence.wide (S.n - 1 - 1) P (B + 1) (enc' x).toArray W1 fun e V' =>
      (e = .returned (.bool true) ∧ Jc (S.J (k + 1)) (rc .ready none) Oi V' ∧ Keep (fun b => (S.A b ∨ b = B2) ∨ Oi b) W1 V') ∨ (e = .returned (.bool false) ∧ Jc (S.Jx (k + 1)) (rc .done (some (.exit id0))) Oi V' ∧ Keep Oi W1 V') := by
    rintro k x Oi W1 hx ⟨h1, h2, h3, h4, O, h5, h6, h7, h8, h9, h10, h11, h12⟩ hVs hOb
    have hy := run_yield (P := P) (args := (enc' x).toArray) h1 (by rw [hlpn]; simp [hps x])
    refine ⟨fn, _, assign, body, by rw [hrc] at hy; exact hy, roundIn_of_wpIn hfn' ?_⟩
    let Z : Nat → Prop := fun b => Oi b ∨ b = B2
    let A0 : Nat → Prop := fun b => b < W1.heap.size ∧ b ≠ B ∧ b ≠ B + 1 ∧ b ≠ Y
    let M : List Nat := (List.range W1.heap.size).filter fun b => decide (¬ Z b)
    have hMm : ∀ b, b ∈ M ↔ b < W1.heap.size ∧ ¬ Z b := by intro b; simp only [M, List.mem_filter, List.mem_range, decide_eq_true_eq]
    have hM : ∀ b, b < W1.heap.size → b ∉ M → Z b := fun b hb h => Classical.byContradiction fun hz => h ((hMm b).2 ⟨hb, hz⟩)
    have nz1 : ¬ Z (B + 1) := by rintro (h | h); exact absurd (h3 _ h) (by omega); omega
    have nz2 : ¬ Z B := by rintro (h | h); exact absurd (h3 _ h) (by omega); omega
    have nz3 : ¬ Z Y := by rintro (h | h); exact absurd (h3 _ h) (by omega); exact hne h.symm
    have l1 := lt_of_block h1
    have l2 := lt_of_block h2
    have l3 := lt_of_block h12
    obtain ⟨bu, hbu⟩ : ∃ bu : Loop, bu = { rc .ready none with state := .busy } := ⟨_, rfl⟩
    have hrel : Rel (S.Xr tab ok kk (B + 1) W1 A0 M [B + 1, B, Y]) [(ys, .o (.p 2 0))] (nestL S B (rc .ready none) ty) 3 [S.jFZ Z k, S.keF W1] (fun _ => []) { tmps := a.tmps, defers := [] } W1 := by
      refine ⟨fun k e hk => ?_, fun i => if i = 0 then B + 1 else if i = 1 then B else Y, A0, fun ρ' hρ => ?_⟩
      · rcases nestL_look hk with ⟨rfl, _⟩ | ⟨rfl, _⟩ | ⟨rfl, _⟩ <;> omega
      have r2 : ρ' 2 = Y := hρ 2 (by omega)
      have bl : ∀ k e b, alook (nestL S B (rc .ready none) ty) k = some e → e.blk ρ' k = some b → (k = 0 ∧ b = B + 1) ∨ (k = 1 ∧ b = B) ∨ (k = 2 ∧ b = Y) := by
        intro k e b hk hb
        rcases nestL_look hk with ⟨rfl, rfl⟩ | ⟨rfl, rfl⟩ | ⟨rfl, rfl⟩
        · simp [LC.blk] at hb; exact .inl ⟨rfl, hb.symm⟩
        · simp [LC.blk] at hb; exact .inr (.inl ⟨rfl, hb.symm⟩)
        · simp [LC.blk, r2] at hb; exact .inr (.inr ⟨rfl, hb.symm⟩)
      refine ⟨⟨fun t u ht => ?_, fun k e hk => ?_, fun f hf => ?_⟩, hsz, rfl, Kp.refl _ _, fun k e b hk hb => .inl ((hMm b).2 ?_), fun k k' e e' b hk hk' hb hb' => ?_, fun b hb => .inl hb, fun b hb => ⟨hb.1, fun k e hk hbk => ?_⟩, fun i b hi => ?_⟩
      · rw [alook_cons] at ht
        split at ht
        · rename_i e1; cases ht; subst e1
          show a.tmps.getD t undef = _
          rw [hys]; simp [TV.den, SV.den, r2]
        · cases ht
      · rcases nestL_look hk with ⟨rfl, rfl⟩ | ⟨rfl, rfl⟩ | ⟨rfl, rfl⟩
        · exact h1
        · exact h2
        · show W1.heap[ρ' 2]? = _
          rw [r2, h12]; simp [denL, SV.den]
      · simp only [List.mem_cons, List.not_mem_nil, or_false] at hf
        rcases hf with rfl | rfl
        · refine ⟨h4.size, O, h5, h6, ?_, fun b hb => ?_⟩
          · rintro b (hb | rfl)
            · exact h7 b hb
            · exact h10
          · by_cases e1 : b = B
            · subst e1; exact .inl h8
            by_cases e2 : b = B + 1
            · subst e2; exact .inl h9
            by_cases e3 : b = Y
            · subst e3; exact .inl h11
            exact .inr ⟨hb, e1, e2, e3⟩
        · intro b hb
          obtain ⟨a1, a2⟩ := Alt b hb
          exact ⟨⟨by omega, by omega, by omega, a2⟩, rfl⟩
      · rcases bl k e b hk hb with ⟨_, rfl⟩ | ⟨_, rfl⟩ | ⟨_, rfl⟩
        · exact ⟨l1, nz1⟩
        · exact ⟨l2, nz2⟩
        · exact ⟨l3, nz3⟩
      · rcases bl k e b hk hb with ⟨rfl, e1⟩ | ⟨rfl, e1⟩ | ⟨rfl, e1⟩ <;> rcases bl k' e' b hk' hb' with ⟨rfl, e2⟩ | ⟨rfl, e2⟩ | ⟨rfl, e2⟩ <;> first | rfl | (exfalso; omega)
      · rcases bl k e b hk hbk with ⟨_, rfl⟩ | ⟨_, rfl⟩ | ⟨_, rfl⟩
        · exact hb.2.2.1 rfl
        · exact hb.2.1 rfl
        · exact hb.2.2.2 rfl
      · match i, hi with
        | 0, hi => cases hi; exact hρ 0 (by omega)
        | 1, hi => cases hi; exact hρ 1 (by omega)
        | 2, hi => cases hi; exact r2
    refine sx_sound (hround k x hx Z B W1 A0 M [B + 1, B, Y] (rc .ready none) bu rfl hM) _ ?_ _ _ (rel_params (X := S.Xr tab ok kk (B + 1) W1 A0 M [B + 1, B, Y]) (a := { tmps := a.tmps, defers := [] }) hpk hrel)
    intro e Ta La na Fa Da hK aa Wa hra
    cases e with
    | normal =>
      obtain ⟨hK0, hK1⟩ := hK
      obtain ⟨A1, ρ1, g1⟩ := hra.one
      have l2a : Wa.heap[B + 1]? = some (.loop (rc .ready none)) := g1.lo 0 _ hK0
      refine ⟨_, run_beginRound l2a (by rw [hrc]), ?_⟩
      obtain ⟨q1, q2, q3⟩ := putB Wa _ { rc .ready none with state := .busy } l2a
      have hrb := hra.ob hK0 (w' := Wa.putObj (B + 1) (.loop { rc .ready none with state := .busy })) (o' := .loop bu) (by rw [hbu]; exact q3) ⟨q1.os, q1.tape, q1.output, q1.size, fun b _ hb => q2 b fun e => hb (by rw [e])⟩
      refine sx_sound hK1 _ ?_ _ _ hrb
      intro e Tc Lc nc Fc Dc hK2 ac Wc hrc2
      obtain ⟨A2, ρ2, g2⟩ := hrc2.one
      have kp := g2.kp
      have fin : ∀ (jump : Option Code) (J : (Nat → Prop) → World → Prop) (hJ : ∀ O V V', J O V → Chg O V V' → J (Grown O V V') V'), alook Lc 0 = some (.ob (B + 1) (.loop bu)) → alook Lc 1 = some (.ob B (.deferred (some []))) → alook Lc 2 = some (.c [.v (.func (.yield S.l) #[] #[])] ty) → (jFactZ S.W.heap.size J hJ Z).h A2 Wc →
          ∃ Wd, (Instr.endRound (B + 1) jump).run P Wc = .ok (.bool jump.isNone) Wd ∧ Jc J (rc (if jump.isNone then .ready else .done) jump) Oi Wd ∧ Keep Z W1 Wd ∧ ∀ b, b ≠ B + 1 → Wd.heap[b]? = Wc.heap[b]? := by
        intro jump J hJ hl0 hl1 hl2 hfz
        have c0 : Wc.heap[B + 1]? = some (.loop bu) := g2.lo 0 _ hl0
        have c1 : Wc.heap[B]? = some (.deferred (some [])) := g2.lo 1 _ hl1
        have r2 : ρ2 2 = Y := g2.mb 2 Y rfl
        have c2 : Wc.heap[Y]? = some (.cells #[.func (.yield S.l) #[] #[]] ty (0, 0)) := by have := g2.lo 2 _ hl2; simpa [LC.holds, denL, SV.den, r2] using this
        have e1 := run_endRound (P := P) jump c0
        rw [hbu, hrc] at e1
        obtain ⟨p1, p2, p3⟩ := putB Wc _ (rc (if jump.isNone then .ready else .done) jump) c0
        obtain ⟨f1, O2, f2, f3, f4, f5⟩ := hfz
        have ow : ∀ i e b, alook Lc i = some e → e.blk ρ2 i = some b → O2 b := fun i e b hi hb => (f5 b (LC.lt (g2.lo i e hi) hb)).resolve_right fun h => (g2.a2 b h).2 i e hi hb
        have oB1 := ow 0 _ (B + 1) hl0 rfl
        refine ⟨_, by rw [hrc]; exact e1, ⟨p3, (p2 _ (by omega)).trans c1, h3, h4.trans (kp.grow.trans p1), Grown O2 Wc _, hJ _ _ _ f2 ⟨p1, fun b _ hb => p2 b fun e => hb (by rw [e]; exact oB1)⟩, ?_, fun b hb => .inl (f4 b (.inl hb)), .inl (ow 1 _ B hl1 rfl), .inl oB1, .inl (f4 B2 (.inr rfl)), .inl (ow 2 _ Y hl2 (by simp [LC.blk, r2])), (p2 _ (by rintro rfl; rw [c0] at c2; cases c2)).trans c2⟩, ⟨⟨?_, ?_, ?_, ?_⟩, fun b hb hz => ?_⟩, p2⟩
        · rintro b (hb | hb)
          · exact ⟨(f3 b hb).1, Nat.lt_of_lt_of_le (f3 b hb).2 p1.size⟩
          · omega
        · exact p1.os.trans kp.os
        · exact p1.tape.trans kp.tape
        · exact p1.output.trans kp.output
        · exact Nat.le_trans kp.size p1.size
        · have hbm : b ∉ M := fun h => ((hMm b).1 h).2 hz
          rw [p2 b (fun e => nz1 (e ▸ hz))]
          exact kp.keep b hb hbm
      cases e with
      | normal =>
        obtain ⟨k1, k2, k3, k4, k5⟩ := hK2
        obtain ⟨Wd, d1, d2, d3, d4⟩ := fin none (S.J (k + 1)) (S.hJ (k + 1)) k3 k4 k5 (g2.a3 _ k1)
        refine ⟨_, _, d1, .inl ⟨rfl, d2, d3.toGrow, fun b hb h => ?_⟩⟩
        rcases h with (h | h) | h
        · rw [d4 b (by have := (Alt b h).1; omega)]
          exact (g2.a3 _ k2 b h).2
        · exact d3.keep b hb (.inr h)
        · exact d3.keep b hb (.inl h)
      | exit id =>
        obtain ⟨rfl, k1, k3, k4, k5⟩ := hK2
        obtain ⟨Wd, d1, d2, d3, d4⟩ := fin (some (.exit id)) (S.Jx (k + 1)) (S.hJx (k + 1)) k3 k4 k5 (g2.a3 _ k1)
        exact ⟨_, _, d1, .inr ⟨rfl, d2, d3.toGrow, fun b hb h => d3.keep b hb (.inl h)⟩⟩
      | goto l => exact hK2.elim
      | ret => exact hK2.elim
      | panic ch => exact hK2.elim
      | outgrown => exact hK2.elim
    | exit id => exact hK.elim
    | goto l => exact hK.elim
    | ret => exact hK.elim
    | panic ch => exact hK.elim
    | outgrown => exact hK.elim
  have key := hseq B2 { n := S.n - 1, l := B + 1, A := fun b => S.A b ∨ b = B2, J := fun k => Jc (S.J k) (rc .ready none), Jx := fun k => Jc (S.Jx k) (rc .done (some (.exit id0))), W := V, hJ := fun k O V V' h hc => stab _ (S.hJ k) _ O V V' h hc, hJx := fun k O V V' h hc => stab _ (S.hJx k) _ O V V' h hc, hY := round }
    (fun b hb => by
      show b < V.heap.size
      rcases hb with hb | hb
      · have := (Alt b hb).1; omega
      · omega) (fun f hf => ?_) ?_
  -- the ends
  have out : ∀ (W' : World) (lp lp2 : Loop) (J : (Nat → Prop) → World → Prop) (hJ : ∀ O V V', J O V → Chg O V V' → J (Grown O V V') V') (Oi : Nat → Prop), Jc J lp Oi W' →
      Rel (S.X tab ok kk) [] [(n, markL)] (n + 1) [jFact S.W.heap.size J hJ] (fun ρ => [markD (ρ n)]) { a with defers := [markD B] ++ a.defers } (W'.putObj (B + 1) (.loop lp2)) := by
    rintro W' lp lp2 J hJ Oi ⟨h1, h2, h3, h4, O, h5, h6, h7, h8, h9, h10, h11, h12⟩
    obtain ⟨p1, p2, p3⟩ := putB W' lp lp2 h1
    have c1 := (p2 B (by omega)).trans h2
    have lB := lt_of_block c1
    refine ⟨fun k e hk => ?_, fun _ => B, fun b => b < (W'.putObj (B + 1) (.loop lp2)).heap.size ∧ b ≠ B, fun ρ' hρ => ?_⟩
    · rw [alook_cons] at hk
      split at hk
      · omega
      · cases hk
    have rn : ρ' n = B := hρ n (by omega)
    refine ⟨⟨fun t u ht => (by cases ht), fun k e hk => ?_, fun f hf => ?_⟩, hsz, by show [markD B] ++ a.defers = _; rw [hdf, rn]; rfl, ⟨?_, ?_, ?_, ?_, fun b hb hm => absurd (List.mem_range.2 hb) hm⟩, fun k e b hk hb => ?_, fun k k' e e' b hk hk' hb hb' => ?_, fun b hb => ?_, fun b hb => ⟨hb.1, fun k e hk hbk => ?_⟩, fun i b hi => (by cases hi)⟩
    · rw [alook_cons] at hk
      split at hk
      · rename_i e1; cases hk; subst e1
        show (W'.putObj (B + 1) (.loop lp2)).heap[ρ' k]? = _
        rw [rn]; exact c1
      · cases hk
    · cases List.mem_singleton.1 hf
      refine ⟨(h4.trans p1).size, Grown O W' _, hJ _ _ _ h5 ⟨p1, fun b _ hb => p2 b fun e => hb (by rw [e]; exact h9)⟩, ?_, fun b hb => ?_⟩
      · rintro b (hb | hb)
        · exact ⟨(h6 b hb).1, Nat.lt_of_lt_of_le (h6 b hb).2 p1.size⟩
        · have := h4.size; omega
      · by_cases e1 : b = B
        · subst e1; exact .inl (.inl h8)
        · exact .inr ⟨hb, e1⟩
    · exact (h4.trans p1).os
    · exact (h4.trans p1).tape
    · exact (h4.trans p1).output
    · exact (h4.trans p1).size
    · rw [alook_cons] at hk
      split at hk
      · rename_i e1; cases hk; subst e1
        simp only [markL, LC.blk, Option.some.injEq, rn] at hb
        subst hb
        exact .inr hmB
      · cases hk
    · rw [alook_cons] at hk hk'
      split at hk
      · split at hk'
        · omega
        · cases hk'
      · cases hk
    · by_cases hlt : b < S.W.heap.size
      · exact .inl hlt
      · exact .inr (Nat.le_of_not_lt hlt)
    · rw [alook_cons] at hk
      split at hk
      · rename_i e1; cases hk; subst e1
        simp only [markL, LC.blk, Option.some.injEq, rn] at hbk
        exact hb.2 hbk.symm
      · cases hk
  · refine ⟨B + 1, [markD B], V, { target := .fn (.func gf) #[.pointer (some ⟨B2, 0, none⟩)], args := #[.func (.yield (B + 1)) #[] #[]] }, V, gf, #[.func (.yield (B + 1)) #[] #[]] ++ #[.pointer (some ⟨B2, 0, none⟩)], V, ?_, ?_, fun _ _ => trivial, ?_, fun h => by simp [Fx.fe, Fence.wide] at h, ?_⟩
    · rw [hV, hrc, hB]; exact run_enterLoop_outer _ _ _ _ _
    · simp only [resolve, hgv]
      simp [go_sem]
    · simp [invoke, go_sem]
      exact eg' _ _
    · refine key.mono ?_
      rintro e W' ⟨⟨v, rfl⟩, ⟨O, hJc⟩ | ⟨k, O, hJc, hk0, hk1⟩⟩
      · refine ⟨none, _, by have := run_endLoop (P := P) hJc.1 (by rw [hrc]; simp); rw [hrc] at this; exact this, ?_⟩
        exact hQ _ _ _ _ _ _ hdone _ _ (out W' _ _ (S.J xs.length) (S.hJ xs.length) O hJc)
      · refine ⟨some (.exit id0), _, by have := run_endLoop (P := P) hJc.1 (by rw [hrc]; simp); rw [hrc] at this; exact this, ?_⟩
        exact sx_sound (hstop k hk0 hk1) Q hQ _ _ (out W' _ _ (S.Jx k) (S.hJx k) O hJc)
  · rcases List.mem_cons.1 hf with rfl | hf
    · exact ⟨.inr rfl, (hwV.block B2 (by rw [← hB]; exact hjl)).trans hjb⟩
    · obtain ⟨g1, g2⟩ := h0.a3 _ (hfs f hf)
      exact f.ok (w := w) (fun b hb => .inl hb) (fun b hb => hwV.block b (by rw [← hB]; exact (Alt b hb).1)) ⟨hwV.os, hwV.tape, hwV.output, hwV.size⟩ g2
  · have gw : Grow w V := ⟨hwV.os, hwV.tape, hwV.output, hwV.size⟩
    refine ⟨hL, hDf, fun b h => h.elim, h0.kp.grow.trans gw, Grown O0 w V, S.hJ 0 _ _ _ hJ0 ⟨gw, fun b hb _ => hwV.block b hb⟩, ?_, fun b h => h.elim, .inr ⟨by omega, by omega⟩, .inr ⟨by omega, by omega⟩, .inl hjO, .inl hyO, (hwV.block Y (by rw [← hB]; exact hyl)).trans hyb⟩
    rintro b (hb | hb)
    · exact ⟨(hO0 b hb).1, Nat.lt_of_lt_of_le (hO0 b hb).2 hwV.size⟩
    · have := h0.kp.size; exact ⟨Nat.le_trans hm0 hb.1, hb.2⟩
end
end Go.Proofs.YtmhnlkakbadkgaaGreat
namespace Go.Proofs.YtmhnlkakbadkgaaGreat
open Go.RowKit Go.Shelf
set_option maxRecDepth 100000
end Go.Proofs.YtmhnlkakbadkgaaGreat
namespace Go.Proofs.YtmhnlkakbadkgaaGreat
open Go.RowKit Go.Shelf
set_option maxRecDepth 100000
theorem holdB_parts {xs : List Hd} (h : holdB xs = true) : xs.all hdB = true ∧ (xs.Pairwise fun a b => a.site < b.site) ∧ togB (modesH xs) = true := by
  simp only [holdB, Bool.and_eq_true] at h
  exact ⟨h.1.1, by simpa [riseB] using h.1.2, h.2⟩
end Go.Proofs.YtmhnlkakbadkgaaGreat
namespace Go.Proofs.YtmhnlkakbadkgaaGreat
open Go.RowKit Go.Shelf
set_option maxRecDepth 100000
end Go.Proofs.YtmhnlkakbadkgaaGreat
namespace Go.Proofs.YtmhnlkakbadkgaaGreat
open Go.RowKit Go.Shelf
set_option maxRecDepth 100000
def hdE (x : Hd) : List Value := [.int .i64 x.site, .agg (hdL x).toArray]
theorem each1H_seq (a : Option Addr) (cap : Nat) (xs : List Hd) (b : Nat) (hl : xs.length ≤ 1000000) : SeqC Tryz.prog 297 [.pointer (some ⟨b, 0, none⟩)] [blkF b [.slice a xs.length cap] 28, slF hdL 3 (.slice a xs.length cap) xs] hdE xs := by
  refine seq_of (tab := tb) (ok := tbOk) [.o (.v (.pointer (some ⟨b, 0, none⟩)))] Tryz.func297 Tryz.ntmps297 rfl rfl (fun _ => rfl) ?_
  intro S
  refine cjs_scope rfl ?_
  refine ojs_load1 (S.inF (blkF b [.slice a xs.length cap] 28)) (by simp) (fun A w h => blk_cell (o := 0) rfl _ w h.2) rfl rfl rfl ?_
  refine ojs_inl Tryz.func298 Tryz.ntmps298 rfl rfl rfl rfl rfl rfl rfl ?_
  intro w1 A1 M1 N1 hN1
  refine ⟨rfl, ?_⟩
  refine cjs_nest (enc' := hdA) (fs := [slF hdL 3 (.slice a xs.length cap) xs]) (cj := [.slice a xs.length cap]) (tj := 28) 1 0 2 0 (fun b => valH_seq a cap xs b hl) (by simp) (f0 := slF hdL 3 (.slice a xs.length cap) xs) (by simp) (by simp) rfl rfl rfl (by decide) rfl rfl (fun _ => rfl) rfl rfl ?_ ?_ ?_
  · intro k x hx Z B w0 A0 M N ro bu hN hM
    refine ⟨rfl, ?_⟩
    refine ojs_yieldZ (Z := Z) k hM rfl rfl rfl rfl hx (fun _ => rfl) (by simp) (by simp) ?_ ?_
    · exact ⟨by simp, by simp, rfl, rfl, rfl⟩
    · exact ⟨rfl, by simp, rfl, rfl, rfl⟩
  · exact lv_mark (D := fun _ => []) ret_ne rfl (endS_done (by simp) rfl rfl)
  · intro k hk1 hk2
    exact lv_mark (D := fun _ => []) ret_ne rfl (endS_stop k (by simp) hk1 hk2 rfl rfl)
theorem holdEach_c (a : Option Addr) (cap : Nat) (xs : List Hd) (hl : xs.length ≤ 1000000) : Cm Tryz.prog 271 [.slice a xs.length cap] [] [slF hdL 3 (.slice a xs.length cap) xs] (fun e _ F1 => ∃ b a' c', e = .returned (.func (.func 297) #[] #[.pointer (some ⟨b, 0, none⟩)]) ∧ F1 = [blkF b [.slice a' (okH xs).length c'] 28, slF hdL 3 (.slice a' (okH xs).length c') (okH xs)]) := by
  refine cm_of (tab := tb) (ok := tbOk) [.o (.v (.slice a xs.length cap))] Tryz.func271 Tryz.ntmps271 rfl rfl (fun _ _ => rfl) ?_
  intro w0 A0
  refine ojs_call [] [] rfl rfl rfl rfl rfl rfl rfl (by simp) (fun _ => holdOf_c a cap xs hl) (by simp) (.inl rfl) ?_
  rintro e cs F1 _ ⟨rfl, rfl⟩
  unfold okH
  cases hB : holdB xs
  · refine ojs_callOwn (F0 := []) rfl rfl rfl rfl rfl (fun _ => rfl) rfl rfl (show Co _ _ _ [] id _ _ _ _ from fun A w hA _ => cloneHd_co none 0 [] (by simp) A w hA (fun f hf => by rw [List.mem_singleton] at hf; subst hf; exact slF_nilH A w)) (by simp) ?_
    intro a1 c1
    refine endR_weak (wk_seal (j := 0) (v := .slice a1 0 c1) (m := 0) (enc := hdL) (xs := []) (.inl rfl) hdL_len rfl rfl) ?_
    exact endR_seal [1] [slF hdL 3 (.slice a1 0 c1) []] rfl rfl rfl rfl ⟨rfl, rfl⟩ rfl (fun ρ => ⟨ρ 1, a1, c1, rfl, rfl⟩) (by simp)
  · refine ojs_callOwn rfl rfl rfl rfl rfl (fun _ => rfl) rfl rfl (cloneHd_co a cap xs (by omega)) (by simp) ?_
    intro a1 c1
    refine endR_weak (wk_seal (j := 0) (v := .slice a1 xs.length c1) (m := xs.length) (enc := hdL) (xs := xs) (.inl rfl) hdL_len rfl rfl) ?_
    exact endR_seal [1] [slF hdL 3 (.slice a1 xs.length c1) xs] rfl rfl rfl rfl ⟨rfl, rfl⟩ rfl (fun ρ => ⟨ρ 1, a1, c1, rfl, rfl⟩) (by simp)
end Go.Proofs.YtmhnlkakbadkgaaGreat
