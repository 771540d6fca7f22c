/- Part 18 of the proof of LockBacks: contracts of functions that the law reaches, or the rules by which they are walked. No condition. -/
import Derived.Test.YtmhnlkakbadkgaaGreatPkaq
namespace Go.Proofs.YtmhnlkakbadkgaaGreat.Ck
open Go Go.RowKit Go.Shelf
set_option maxRecDepth 100000
section
variable {P : Program} {β : Type} {z : β} {ih : Ev β}
theorem HS.setLp {al : Nat → Prop} {G0 : Gh} {H : CH} {w : World} {b m : Nat} {st st' : LoopState} {T : Tr Value} {ps : List Tmp} {pre body : Code} {fn : FuncId} {df : Nat} {j j' : Option Code} {h' : Tr Bk} (hs : HS al G0 H w) (hb : H.h.get b = some (.lp st T m ps pre body fn df j))
    (hh : ∀ k, h'.get k = if k = b then some (.lp st' T m ps pre body fn df j') else H.h.get k) :
    ∃ (tm : Array Value) (f0 : FuncId), w.heap[(G0 b).b]? = some (.loop { state := st, pending := j, fn := f0, tmps := tm, params := ps.toArray, assign := pre, body := body, defers := (G0 df).b }) ∧ (∀ G, Ag al G0 G → TR G T m tm) ∧
      HS al G0 ⟨h', H.n⟩ { w with heap := w.heap.setIfInBounds (G0 b).b (.loop { state := st', pending := j', fn := f0, tmps := tm, params := ps.toArray, assign := pre, body := body, defers := (G0 df).b }) } ∧
      To al G0 H w al G0 ⟨h', H.n⟩ { w with heap := w.heap.setIfInBounds (G0 b).b (.loop { state := st', pending := j', fn := f0, tmps := tm, params := ps.toArray, assign := pre, body := body, defers := (G0 df).b }) } := by
  have key : ∀ G, Ag al G0 G → BR G b w (.lp st T m ps pre body fn df j) := fun G hG => (hs.hr G hG).bk b _ hb rfl
  obtain ⟨tm, f0, h1, h2⟩ := key G0 .rfl
  have h3 : ∀ G, Ag al G0 G → TR G T m tm ∧ (G df).b = (G0 df).b := fun G hG => by
    obtain ⟨tm', f0', h1', h2'⟩ := key G hG
    rw [hG b (hs.pr b _ hb), h1] at h1'
    injection h1' with h4
    injection h4 with h4
    injection h4 with _ _ _ e1 _ _ _ e2
    rw [e1]
    exact ⟨h2', e2.symm⟩
  have hlt : (G0 b).b < w.heap.size := (Array.getElem?_eq_some_iff.1 h1).1
  refine ⟨tm, f0, h1, fun G hG => (h3 G hG).1, HS.write (w' := { w with heap := w.heap.setIfInBounds (G0 b).b _ }) hs hb rfl hh (fun G hG _ => ⟨tm, f0, ?_, (h3 G hG).1⟩) (fun k hk => ?_) (by simp) rfl rfl rfl⟩
  · rw [hG b (hs.pr b _ hb), (h3 G hG).2]
    simp [hlt]
  · show (w.heap.setIfInBounds _ _)[k]? = _
    rw [Array.getElem?_setIfInBounds_ne (Ne.symm hk)]
theorem fillP_spec : ∀ (ps : List Tmp) (args : List Value) (F : Fr) (K : Fr → β), fillP z ps args F K = z ∨ ∃ F', fillP z ps args F K = K F' ∧ F'.m = F.m ∧ F'.D = F.D ∧ F'.q = F.q ∧ ps.length = args.length ∧
    ∀ (G : Gh) (tm : Array Value), TR G F.T F.m tm → TR G F'.T F'.m ((ps.zip (args.map (den G))).foldl (fun t x => t.setIfInBounds x.1 x.2) tm)
  | [], [], F, K => .inr ⟨F, rfl, rfl, rfl, rfl, rfl, fun _ _ h => h⟩
  | [], _ :: _, _, _ => .inl rfl
  | _ :: _, [], _, _ => .inl rfl
  | p :: ps, v :: vs, F, K => by
    have e : fillP z (p :: ps) (v :: vs) F K = putF z (some p) v F fun F => fillP z ps vs F K := rfl
    rw [e]
    rcases putF_spec (z := z) (d := some p) (v := v) (F := F) (K := fun F => fillP z ps vs F K) with h | ⟨F1, h, hm, hD, hq, hT⟩
    · exact .inl h
    · rcases fillP_spec ps vs F1 K with h2 | ⟨F2, h2, hm2, hD2, hq2, hl, hT2⟩
      · exact .inl (h.trans h2)
      · refine .inr ⟨F2, h.trans h2, hm2.trans hm, hD2.trans hD, hq2.trans hq, by simp [hl], fun G tm ht => ?_⟩
        have := hT G { tmps := tm, defers := [] } ht
        exact hT2 G _ this
theorem run_endRound {w : World} {l : Nat} {r : Loop} (h : w.heap[l]? = some (.loop r)) (j : Option Code) : (Instr.endRound l j).run P w = .ok (.bool j.isNone) { w with heap := w.heap.setIfInBounds l (.loop { r with state := if j.isNone then .ready else .done, pending := j }) } := by
  simp [Instr.endRound, run_getLoop h, Go.setObj, Sem.run, h]
theorem run_beginRound' {w : World} {l : Nat} {r : Loop} (h : w.heap[l]? = some (.loop r)) (hr : r.state = .ready) : (Instr.beginRound l).run P w = .ok () { w with heap := w.heap.setIfInBounds l (.loop { r with state := .busy }) } := by
  simp [Instr.beginRound, run_getLoop h, Go.setObj, Sem.run, h, hr]
theorem roundFin_sound (b : Nat) (j : Option Code) (d : Option Nat) (all : Array Oper) (l : List Oper) (F : Fr) (H : CH) (K : Kont β) {nx : Fr → CH → β} (hnx : NxS P z all l nx K) : roundFin z b j d nx F H = z ∨ ∃ e F' H', roundFin z b j d nx F H = K e F' H' ∧ F'.q = F.q ∧
    ∀ (r : Option Nat) (nn : Nat) al G0 a w Q, QR al G0 F.q r → FS al G0 F a → HS al G0 H w → Thence al G0 H w e F' H' Q → ∃ w', (Instr.endRound (G0 b).b j).run P w = .ok (.bool j.isNone) w' ∧ wpListIn (feR r) nn P all Q l (a.put d (.bool j.isNone)) w' := by
  unfold roundFin
  split
  · rename_i T m ps pre body fn df hb
    rcases Tr.put_spec z (.lp (jSt j) T m ps pre body fn df j) H.h b (fun h => putF z d (.bool j.isNone) F fun F => nx F ⟨h, H.n⟩) with h | ⟨h1, h, hh⟩
    · exact .inl h
    rw [h]
    rcases putF_spec (z := z) (d := d) (v := .bool j.isNone) (F := F) (K := fun F => nx F ⟨h1, H.n⟩) with h2 | ⟨F1, h2, hm, hD, hq1, hT1⟩
    · exact .inl h2
    · rcases hnx F1 ⟨h1, H.n⟩ with h3 | ⟨e, F2, H2, h3, hq2, h4⟩
      · exact .inl (h2.trans h3)
      · refine .inr ⟨e, F2, H2, h2.trans h3, hq2.trans hq1, fun r nn al G0 a w Q hq hf hS hT => ?_⟩
        obtain ⟨tm, f0, g1, g2, g3, g4⟩ := hS.setLp hb hh
        refine ⟨_, run_endRound g1 j, ?_⟩
        have hst : (if j.isNone then LoopState.ready else LoopState.done) = jSt j := by cases j <;> rfl
        dsimp only
        rw [hst]
        exact h4 r nn al G0 _ _ Q (by rw [hq1]; exact hq) (hf.put (v := .bool j.isNone) (fun G _ => rfl) hD hT1) g3 (hT.to g4)
  · exact .inl rfl
theorem round_sound {F : Fr} (hs : Sound P z ih) {o : Oper} {c : Call} {f : Operand} {b : Nat} {cap : Array Value} (hok : ∀ x ∈ o.op.operands.toList, opdOk x = true) (ho : o.op = .call c) (hc : c.callee = .value f) (hv : evT F.T f = .func (.yield b) #[] cap) (all : Array Oper) (l : List Oper) (H : CH) (K : Kont β) {nx : Fr → CH → β} (hnx : NxS P z all l nx K) :
    roundK z ih b (arrL (c.args.map (evT F.T))) o.dst nx F H = z ∨ ∃ e F' H', roundK z ih b (arrL (c.args.map (evT F.T))) o.dst nx F H = K e F' H' ∧ RunS P o all l F H e F' H' := by
  have hof : opdOk f = true := hok f (by simp [ho, Op.operands, Call.operands, hc])
  have hoa : ∀ x ∈ c.args.toList, opdOk x = true := fun x hx => hok x (by simp [ho, Op.operands, Call.operands, hc, Array.mem_toList_iff.1 hx])
  have hd : ∀ c, o.op ≠ .defer c := fun c' => by rw [ho]; simp
  unfold roundK
  split
  · rename_i st T m ps pre body fn df jj hb
    rcases fillP_spec (z := z) ps (arrL (c.args.map (evT F.T))) ⟨T, m, [], some b⟩ (fun F1 => ih (.code pre) F1 H (roundBody z ih b body o.dst nx F)) with h | ⟨F1, h, hm, hD1, hq1, hpl, hT1⟩
    · exact .inl h
    · rcases hs (.code pre) F1 H (roundBody z ih b body o.dst nx F) with h2 | ⟨e, F2, H2, h2, hq2, hpre⟩
      · exact .inl (h.trans h2)
      · by_cases he : e = .normal
        · subst he
          cases hb2 : H2.h.get b with
          | none => exact .inl ((h.trans h2).trans (by simp [roundBody, hb2]))
          | some bk =>
            cases bk with
            | lp st2 T2 m2 ps2 pre2 body2 fn2 df2 jj2 =>
              by_cases hx : st2 = .ready ∧ jj2 = none
              · obtain ⟨rfl, rfl⟩ := hx
                have h3 : roundBody z ih b body o.dst nx F .normal F2 H2 = Tr.put z (.lp .busy T2 m2 ps2 pre2 body2 fn2 df2 none) H2.h b fun h => ih (.code body) F2 ⟨h, H2.n⟩ (roundEnd z b o.dst nx F) := by simp [roundBody, hb2]
                rcases Tr.put_spec z (.lp .busy T2 m2 ps2 pre2 body2 fn2 df2 none) H2.h b (fun h => ih (.code body) F2 ⟨h, H2.n⟩ (roundEnd z b o.dst nx F)) with h4 | ⟨h1', h4, hh⟩
                · exact .inl (((h.trans h2).trans h3).trans h4)
                · rcases hs (.code body) F2 ⟨h1', H2.n⟩ (roundEnd z b o.dst nx F) with h5 | ⟨e3, F3, H3, h5, hq3, hbody⟩
                  · exact .inl ((((h.trans h2).trans h3).trans h4).trans h5)
                  · have H0 := (((h.trans h2).trans h3).trans h4).trans h5
                    have fin : ∀ (j : Option Code), roundEnd z b o.dst nx F e3 F3 H3 = roundFin z b j o.dst nx F H3 → (∀ (G : Gh) (R : Ending → World → Prop) (a : Act) (w : World) (lb : Nat), (∃ w', (Instr.endRound lb j).run P w = .ok (.bool j.isNone) w' ∧ R (.returned (.bool j.isNone)) w') → roundPost P lb R (exD G e3) a w) →
                        (fillP z ps (arrL (c.args.map (evT F.T))) ⟨T, m, [], some b⟩ fun F1 => ih (.code pre) F1 H (roundBody z ih b body o.dst nx F)) = z ∨ ∃ e F' H', (fillP z ps (arrL (c.args.map (evT F.T))) ⟨T, m, [], some b⟩ fun F1 => ih (.code pre) F1 H (roundBody z ih b body o.dst nx F)) = K e F' H' ∧ RunS P o all l F H e F' H' := fun j hj hpost => by
                      rcases roundFin_sound b j o.dst all l F H3 K hnx with h6 | ⟨e4, F4, H4, h6, hq4, hend⟩
                      · exact .inl ((H0.trans hj).trans h6)
                      · refine .inr ⟨e4, F4, H4, (H0.trans hj).trans h6, hq4, fun r nn al G0 a w Q K' hq hf hS hT hK => wpIn_noDef hd ?_⟩
                        have hab := hS.pr b _ hb
                        obtain ⟨tm, f0, g1, g2⟩ := (hS.hr G0 .rfl).bk b _ hb rfl
                        have g3 : ∀ G, Ag al G0 G → TR G T m tm := fun G hG => by
                          obtain ⟨tm', f0', k1, k2⟩ := (hS.hr G hG).bk b _ hb rfl
                          rw [hG b hab, g1] at k1
                          injection k1 with k3
                          injection k3 with k3
                          injection k3 with _ _ _ e1
                          rw [e1]
                          exact k2
                        have ea : ∀ G, Ag al G0 G → a.eval f = .func (.yield (G b).b) #[] ⟨(arrL cap).map (den G)⟩ := fun G hG => by
                          rw [ev_den (hf G hG).1 hof, hv]
                          exact den_func G _ [] _
                        have hargs := args_den hf hoa
                        have hsz : (c.args.map a.eval).size = ps.toArray.size := by
                          rw [← Array.length_toList, hargs G0 .rfl, List.length_map, ← hpl]
                          simp
                        have hrun : (execOp a.eval o).run P w = .ok (.round (G0 b).b f0 ((ps.toArray.zip (c.args.map a.eval)).foldl (fun t x => t.setIfInBounds x.1 x.2) tm) pre body) w := by
                          simp only [execOp, ho, resolve, hc, ea G0 .rfl, Deferred.ofValue, invoke, Sem.run_bind, Sem.run_pure, Result.andThen_ok, Array.empty_append]
                          simp [Instr.yield, run_getLoop g1, hsz]
                        rw [hrun]
                        refine ⟨fun h => (nomatch h), ?_⟩
                        have hfr : FS al G0 F1 { tmps := (ps.toArray.zip (c.args.map a.eval)).foldl (fun t x => t.setIfInBounds x.1 x.2) tm, defers := [] } := fun G hG => by
                          refine ⟨?_, by rw [hD1]; rfl⟩
                          have := hT1 G tm (g3 G hG)
                          rw [← hargs G hG] at this
                          rw [← Array.foldl_toList, Array.toList_zip]
                          exact this
                        refine roundIn_of_wpIn trivial ?_
                        refine hpre (some (G0 b).b) (nn - 1) al G0 _ w _ (by rw [hq1]; exact ⟨hab, rfl⟩) hfr hS fun al1 G1 a1 w1 t1 hS1 hf1 => ?_
                        obtain ⟨tm2, f2, p1, p2, p3, p4⟩ := hS1.setLp hb2 hh
                        have eb : (G1 b).b = (G0 b).b := by rw [(t1.up b hab).2]
                        rw [eb] at p1
                        refine ⟨_, run_beginRound' p1 rfl, ?_⟩
                        rw [eb] at p3 p4
                        have t2 := t1.trans p4
                        refine hbody (some (G0 b).b) (nn - 1) al1 G1 a1 _ _ (by rw [hq2, hq1]; exact ⟨(t1.up b hab).1, by rw [eb]⟩) hf1 p3 fun al3 G3 a3 w3 t3 hS3 hf3 => ?_
                        have t4 := t2.trans t3
                        obtain ⟨w4, q1, q2⟩ := hend r nn al3 G3 a w3 Q (hq.to t4) (hf.to t4) hS3 (hT.to t4)
                        rw [(t4.up b hab).2] at q1
                        exact hpost _ _ _ _ _ ⟨w4, q1, hK _ _ q2⟩
                    cases e3 with
                    | normal => exact fin none rfl fun G R a w lb h => let ⟨w', h1, h2⟩ := h; ⟨_, w', h1, h2⟩
                    | exit id => exact fin (some (.exit id)) rfl fun G R a w lb h => let ⟨w', h1, h2⟩ := h; ⟨_, w', h1, h2⟩
                    | goto t => exact fin (some (.goto t)) rfl fun G R a w lb h => let ⟨w', h1, h2⟩ := h; ⟨_, w', h1, h2⟩
                    | ret => exact fin (some .ret) rfl fun G R a w lb h => let ⟨w', h1, h2⟩ := h; ⟨_, w', h1, h2⟩
                    | panic v => exact .inl H0
                    | val v => exact .inl H0
              · refine .inl ((h.trans h2).trans ?_)
                cases st2 <;> cases jj2 <;> first | exact absurd ⟨rfl, rfl⟩ hx | simp [roundBody, hb2]
            | c cs t op => exact .inl ((h.trans h2).trans (by simp [roundBody, hb2]))
            | o x => exact .inl ((h.trans h2).trans (by simp [roundBody, hb2]))
            | d => exact .inl ((h.trans h2).trans (by simp [roundBody, hb2]))
        · refine .inl ((h.trans h2).trans ?_)
          cases e <;> first | exact absurd rfl he | simp [roundBody]
  · exact .inl rfl
theorem run_endLoop' {w : World} {l : Nat} {r : Loop} (h : w.heap[l]? = some (.loop r)) (hr : r.state ≠ .busy) : (Instr.endLoop l).run P w = .ok r.pending { w with heap := w.heap.setIfInBounds l (.loop { r with state := .exhausted }) } := by
  simp [Instr.endLoop, run_getLoop h, Go.setObj, Sem.run, h]
  exact fun hb => absurd hb hr
theorem rangeGo_sound (hs : Sound P z ih) (g : FuncId) (args : List Value) (l : Nat) (F1 : Fr) (H : CH) (K : Kont β) : rangeGo z ih g args l F1 H K = z ∨ ∃ e F' H', rangeGo z ih g args l F1 H K = K e F' H' ∧ F'.q = F1.q ∧
    ∀ (r : Option Nat) (nn : Nat) al G0 a w (vs : Array Value) Q, al l → QR al G0 F1.q r → FS al G0 F1 a → HS al G0 H w → (∀ G, Ag al G0 G → vs = ⟨args.map (den G)⟩) → Thence al G0 H w e F' H' Q → CallsIn (feR r) (nn - 1) P g vs w (rangePost (feR r) nn P (G0 l).b Q a) := by
  rcases hs (.fn g args) noF H (rangeC z ih l F1 K) with h | ⟨e, Fx, H1, h, hfn⟩
  · exact .inl h
  · cases e with
    | val v =>
      cases hb : H1.h.get l with
      | none => exact .inl (h.trans (by simp [rangeC, hb]))
      | some bk =>
        cases bk with
        | lp st T m ps pre body fn df j =>
          by_cases hst : st = .busy
          · subst hst
            exact .inl (h.trans (by simp [rangeC, hb]))
          · have h2 : rangeC z ih l F1 K (.val v) Fx H1 = Tr.put z .d H1.h l fun h1 => rangeJ ih j F1 ⟨h1, H1.n⟩ K := by
              cases st <;> first | exact absurd rfl hst | simp [rangeC, hb]
            rcases Tr.put_spec z .d H1.h l (fun h1 => rangeJ ih j F1 ⟨h1, H1.n⟩ K) with h3 | ⟨h1', h3, hh⟩
            · exact .inl ((h.trans h2).trans h3)
            · -- the loop's end at the machine
              have after : ∀ al G0 w al1 G1 w1, al l → To al G0 H w al1 G1 H1 w1 → HS al1 G1 H1 w1 → ∃ w2, (Instr.endLoop (G0 l).b).run P w1 = .ok j w2 ∧ HS al1 G1 ⟨h1', H1.n⟩ w2 ∧ To al G0 H w al1 G1 ⟨h1', H1.n⟩ w2 := fun al G0 w al1 G1 w1 hl t1 hS1 => by
                obtain ⟨tm, f0, g1, g2⟩ := (hS1.hr G1 .rfl).bk l _ hb rfl
                have el : (G1 l).b = (G0 l).b := by rw [(t1.up l hl).2]
                rw [← el]
                refine ⟨_, run_endLoop' g1 hst, ?_⟩
                · obtain ⟨k1, k2⟩ := HS.write (w' := { w1 with heap := w1.heap.setIfInBounds (G1 l).b (.loop { state := .exhausted, pending := j, fn := f0, tmps := tm, params := ps.toArray, assign := pre, body := body, defers := (G1 df).b }) }) hS1 hb rfl hh (fun _ _ h => nomatch h) (fun k hk => by
                    show (w1.heap.setIfInBounds _ _)[k]? = _
                    rw [Array.getElem?_setIfInBounds_ne (Ne.symm hk)]) (by simp) rfl rfl rfl
                  exact ⟨k1, t1.trans k2⟩
              cases j with
              | none =>
                refine .inr ⟨.normal, F1, ⟨h1', H1.n⟩, (h.trans h2).trans h3, rfl, fun r nn al G0 a w vs Q hl hq hf hS hvs hT => ?_⟩
                refine hfn r (nn - 1) al G0 vs w _ hvs hS (fun al1 G1 w1 t1 hS1 u hu => ?_) (.inl ⟨v, rfl⟩)
                obtain ⟨w2, q1, q2, q3⟩ := after al G0 w al1 G1 w1 hl t1 hS1
                exact ⟨none, w2, q1, hT al1 G1 a w2 q3 q2 (hf.to q3)⟩
              | some c =>
                rcases hs (.code c) F1 ⟨h1', H1.n⟩ K with h5 | ⟨e2, F2, H2, h5, hq2, hc⟩
                · exact .inl (((h.trans h2).trans h3).trans h5)
                · refine .inr ⟨e2, F2, H2, ((h.trans h2).trans h3).trans h5, hq2, fun r nn al G0 a w vs Q hl hq hf hS hvs hT => ?_⟩
                  refine hfn r (nn - 1) al G0 vs w _ hvs hS (fun al1 G1 w1 t1 hS1 u hu => ?_) (.inl ⟨v, rfl⟩)
                  obtain ⟨w2, q1, q2, q3⟩ := after al G0 w al1 G1 w1 hl t1 hS1
                  exact ⟨some c, w2, q1, hc r nn al1 G1 a w2 Q (hq.to q3) (hf.to q3) q2 (hT.to q3)⟩
        | c cs t op => exact .inl (h.trans (by simp [rangeC, hb]))
        | o x => exact .inl (h.trans (by simp [rangeC, hb]))
        | d => exact .inl (h.trans (by simp [rangeC, hb]))
    | _ => exact .inl (h.trans (by simp [rangeC]))
end
end Go.Proofs.YtmhnlkakbadkgaaGreat.Ck
namespace Go.Proofs.YtmhnlkakbadkgaaGreat.Ck
open Go Go.RowKit Go.Shelf
set_option maxRecDepth 100000
section
variable {P : Program} {β : Type} {z : β} {ih : Ev β}
theorem run_enterLoop_outer {w : World} (fn : FuncId) (tmps : Array Value) (ps : Array Tmp) (pre body : Code) :
    (Instr.enterLoop fn tmps ps pre body none).run P w = .ok (w.heap.size + 1, [{ target := .collected w.heap.size, args := #[] }])
      ((w.alloc (.deferred (some []))).alloc (.loop { state := .ready, pending := none, fn := fn, tmps := tmps, params := ps, assign := pre, body := body, defers := w.heap.size })) := by
  unfold Instr.enterLoop
  simp only [Sem.run_bind, run_newObj_alloc, Result.andThen, Sem.run_pure, World.size_alloc]
theorem rangeCall_run {a : Act} {f : Operand} {g : FuncId} {first cap : List Value} (hB : tyB P g = true) (he : a.eval f = .func (.func g) ⟨first⟩ ⟨cap⟩) (l : Nat) (w : World) :
    ∃ d, (resolve a.eval (rangeCall f l) 0).run P w = .ok d w ∧ (invoke d.target d.args).run P w = .ok (.enter g ⟨first ++ (.func (.yield l) #[] #[] :: cap)⟩) w := by
  have hE : ∀ args w, (callFunc g args).run P w = .ok (.enter g args) w := tyB_spec hB
  refine ⟨{ target := .fn (.func g) ⟨cap⟩, args := (⟨first⟩ : Array Value) ++ #[.func (.yield l) #[] #[]] }, ?_, ?_⟩
  · have hm : (#[.const (.func (.yield l) #[] #[])] : Array Operand).map a.eval = #[.func (.yield l) #[] #[]] := by
      apply Array.ext'
      simp [Act.eval]
    simp only [resolve, he, Deferred.ofValue, Sem.run_pure, hm]
  · simp only [invoke, hE]
    congr 2
    apply Array.ext'
    simp
theorem range_sound (hs : Sound P z ih) (f : Operand) (ps : Array Tmp) (pre body : Code) (F : Fr) (H : CH) (K : Kont β) : rangeK P z ih f ps.toList pre body F H K = z ∨ ∃ e F' H', rangeK P z ih f ps.toList pre body F H K = K e F' H' ∧ CodeS P (.rangeFunc f ps pre body) F H e F' H' := by
  unfold rangeK
  split
  · rename_i g first cap hof hv
    have ea : ∀ al G0 a, FS al G0 F a → ∀ G, Ag al G0 G → a.eval f = .func (.func g) ⟨(arrL first).map (den G)⟩ ⟨(arrL cap).map (den G)⟩ := fun al G0 a hf G hG => by
      rw [ev_den (hf G hG).1 hof, hv]
      exact den_func G _ _ _
    split
    · rename_i hB hq0
      rcases Tr.put_spec z (.o (.deferred (some []))) H.h H.n (fun h => Tr.put z (.lp .ready F.T F.m ps.toList pre body g H.n none) h (Nat.succ H.n) fun h =>
        rangeGo z ih g (arrL first ++ (.func (.yield (Nat.succ H.n)) #[] #[] :: arrL cap)) (Nat.succ H.n) ⟨F.T, F.m, { target := .collected H.n, args := #[] } :: F.D, none⟩ ⟨h, Nat.succ (Nat.succ H.n)⟩ K) with h | ⟨h1, h, hh1⟩
      · exact .inl h
      rw [h]
      rcases Tr.put_spec z (.lp .ready F.T F.m ps.toList pre body g H.n none) h1 (Nat.succ H.n) (fun h =>
        rangeGo z ih g (arrL first ++ (.func (.yield (Nat.succ H.n)) #[] #[] :: arrL cap)) (Nat.succ H.n) ⟨F.T, F.m, { target := .collected H.n, args := #[] } :: F.D, none⟩ ⟨h, Nat.succ (Nat.succ H.n)⟩ K) with h' | ⟨h2, h', hh2⟩
      · exact .inl h'
      rw [h']
      rcases rangeGo_sound (P := P) hs g (arrL first ++ (.func (.yield (Nat.succ H.n)) #[] #[] :: arrL cap)) (Nat.succ H.n) ⟨F.T, F.m, { target := .collected H.n, args := #[] } :: F.D, none⟩ ⟨h2, Nat.succ (Nat.succ H.n)⟩ K with h3 | ⟨e, F', H', h3, hq3, hgo⟩
      · exact .inl h3
      · refine .inr ⟨e, F', H', h3, hq3.trans hq0.symm, fun r nn al G0 a w Q hq hf hS hT => ?_⟩
        have hr : r = none := by rw [hq0] at hq; exact hq
        subst hr
        -- the block of the rounds' deferred calls
        have A1 := HS.alloc (w' := w.alloc (.deferred (some []))) ⟨w.heap.size, 0, 0, 0, 0⟩ hS hh1 (fun G hG hn _ => by
          show (w.alloc (.deferred (some []))).heap[(G H.n).b]? = _
          rw [hn]
          exact World.alloc_heap_new w _) (fun j hj => Below.heap_alloc w _ j hj) (fun _ => Nat.le_refl _) (by simp) rfl rfl rfl
        generalize hal1 : (fun k => al k ∨ k = H.n) = al1 at A1
        generalize hG1 : (fun k => if k = H.n then (⟨w.heap.size, 0, 0, 0, 0⟩ : GI) else G0 k) = G1 at A1
        obtain ⟨hS1, t1⟩ := A1
        have hn1 : G1 H.n = ⟨w.heap.size, 0, 0, 0, 0⟩ := by rw [← hG1]; simp
        have hal : al1 H.n := by rw [← hal1]; exact .inr rfl
        have hf1 := hf.to t1
        refine wpIn_rangeFunc fun fn _ => ?_
        -- the record
        have A2 := HS.alloc (H := ⟨h1, H.n + 1⟩) (w := w.alloc (.deferred (some []))) (w' := (w.alloc (.deferred (some []))).alloc (.loop { state := .ready, pending := none, fn := fn, tmps := a.tmps, params := ps, assign := pre, body := body, defers := w.heap.size }))
          (h' := h2) ⟨w.heap.size + 1, 0, 0, 0, 0⟩ hS1 hh2 (fun G hG hn _ => by
          refine ⟨a.tmps, fn, ?_, (hf1 G hG).1⟩
          rw [hG H.n hal, hn1, hn]
          have := World.alloc_heap_new (w.alloc (.deferred (some []))) (.loop { state := .ready, pending := none, fn := fn, tmps := a.tmps, params := ps, assign := pre, body := body, defers := w.heap.size })
          rw [World.size_alloc] at this
          simpa using this) (fun j hj => Below.heap_alloc _ _ j hj) (fun _ => by simp) (by simp) rfl rfl rfl
        generalize hal2 : (fun k => al1 k ∨ k = H.n + 1) = al2 at A2
        generalize hG2 : (fun k => if k = H.n + 1 then (⟨w.heap.size + 1, 0, 0, 0, 0⟩ : GI) else G1 k) = G2 at A2
        obtain ⟨hS2, t2⟩ := A2
        have hn2 : G2 (H.n + 1) = ⟨w.heap.size + 1, 0, 0, 0, 0⟩ := by rw [← hG2]; simp
        have hall : al2 (H.n + 1) := by rw [← hal2]; exact .inr rfl
        have t3 := t1.trans t2
        obtain ⟨d, r1, r2⟩ := rangeCall_run hB (ea al G0 a hf G0 .rfl) (w.heap.size + 1) ((w.alloc (.deferred (some []))).alloc (.loop { state := .ready, pending := none, fn := fn, tmps := a.tmps, params := ps, assign := pre, body := body, defers := w.heap.size }))
        refine ⟨w.heap.size + 1, [{ target := .collected w.heap.size, args := #[] }], _, d, _, g, _, _, run_enterLoop_outer fn a.tmps ps pre body, r1, fun _ _ => trivial, r2, fun h => (nomatch h), ?_⟩
        have hgo := hgo none nn al2 G2 { a with defers := [{ target := .collected w.heap.size, args := #[] }] ++ a.defers } _ ⟨(arrL first).map (den G0) ++ (.func (.yield (w.heap.size + 1)) #[] #[] :: (arrL cap).map (den G0))⟩ Q hall rfl (fun G hG => ?_) hS2 (fun G hG => ?_) (hT.to t3)
        · rw [hn2] at hgo
          exact hgo
        · obtain ⟨q1, q2⟩ := hf.to t3 G hG
          refine ⟨q1, ?_⟩
          have hGn : (G H.n).b = w.heap.size := by
            rw [hG H.n (t2.up H.n hal).1, (t2.up H.n hal).2, hn1]
          simp only [List.map_cons, List.singleton_append, List.cons.injEq]
          refine ⟨?_, q2⟩
          simp [denD, denT, hGn]
        · have e1 := ea al G0 a hf G (hG.mono t3.up)
          rw [ea al G0 a hf G0 .rfl] at e1
          injection e1 with _ e2 e3
          injection e2 with e2
          injection e3 with e3
          have hGn : (G (Nat.succ H.n)).b = w.heap.size + 1 := by
            rw [hG (H.n + 1) hall, hn2]
          have hy : den G (.func (.yield (Nat.succ H.n)) #[] #[]) = .func (.yield (w.heap.size + 1)) #[] #[] := by
            rw [show (.func (.yield (Nat.succ H.n)) #[] #[] : Value) = .func (.yield (Nat.succ H.n)) ⟨[]⟩ ⟨[]⟩ from rfl, den_func]
            simp [dF, hGn]
          rw [e2, e3, List.map_append, List.map_cons, hy]
    · rename_i b hB hq0
      split
      · rename_i st T0 m0 ps0 pre0 body0 fn0 df j0 hb
        rcases Tr.put_spec z (.lp .ready F.T F.m ps.toList pre body g df none) H.h H.n (fun h =>
          rangeGo z ih g (arrL first ++ (.func (.yield H.n) #[] #[] :: arrL cap)) H.n F ⟨h, Nat.succ H.n⟩ K) with h' | ⟨h2, h', hh2⟩
        · exact .inl h'
        rw [h']
        rcases rangeGo_sound (P := P) hs g (arrL first ++ (.func (.yield H.n) #[] #[] :: arrL cap)) H.n F ⟨h2, Nat.succ H.n⟩ K with h3 | ⟨e, F', H', h3, hq3, hgo⟩
        · exact .inl h3
        · refine .inr ⟨e, F', H', h3, hq3, fun r nn al G0 a w Q hq hf hS hT => ?_⟩
          have hr : r = some (G0 b).b := by rw [hq0] at hq; exact hq.2
          have hab := hS.pr b _ hb
          obtain ⟨tm0, f0, g1, _⟩ := (hS.hr G0 .rfl).bk b _ hb rfl
          have hdf : ∀ G, Ag al G0 G → (G df).b = (G0 df).b := fun G hG => by
            obtain ⟨tm', f', k1, _⟩ := (hS.hr G hG).bk b _ hb rfl
            rw [hG b hab, g1] at k1
            injection k1 with k2
            injection k2 with k2
            injection k2 with _ _ _ _ _ _ _ e2
            exact e2.symm
          refine wpIn_rangeFunc fun fn _ => ?_
          have A2 := HS.alloc (w' := w.alloc (.loop { state := .ready, pending := none, fn := fn, tmps := a.tmps, params := ps, assign := pre, body := body, defers := (G0 df).b }))
            (h' := h2) ⟨w.heap.size, 0, 0, 0, 0⟩ hS hh2 (fun G hG hn _ => by
            refine ⟨a.tmps, fn, ?_, (hf G hG).1⟩
            rw [hdf G hG, hn]
            have := World.alloc_heap_new w (.loop { state := .ready, pending := none, fn := fn, tmps := a.tmps, params := ps, assign := pre, body := body, defers := (G0 df).b })
            simpa using this) (fun j hj => Below.heap_alloc _ _ j hj) (fun _ => Nat.le_refl _) (by simp) rfl rfl rfl
          generalize hal2 : (fun k => al k ∨ k = H.n) = al2 at A2
          generalize hG2 : (fun k => if k = H.n then (⟨w.heap.size, 0, 0, 0, 0⟩ : GI) else G0 k) = G2 at A2
          obtain ⟨hS2, t3⟩ := A2
          have hn2 : G2 H.n = ⟨w.heap.size, 0, 0, 0, 0⟩ := by rw [← hG2]; simp
          have hall : al2 H.n := by rw [← hal2]; exact .inr rfl
          obtain ⟨d, r1, r2⟩ := rangeCall_run hB (ea al G0 a hf G0 .rfl) w.heap.size (w.alloc (.loop { state := .ready, pending := none, fn := fn, tmps := a.tmps, params := ps, assign := pre, body := body, defers := (G0 df).b }))
          have henter : (Instr.enterLoop fn a.tmps ps pre body (feR r).round).run P w = .ok (w.heap.size, []) (w.alloc (.loop { state := .ready, pending := none, fn := fn, tmps := a.tmps, params := ps, assign := pre, body := body, defers := (G0 df).b })) := by
            show (Instr.enterLoop fn a.tmps ps pre body r).run P w = _
            rw [hr]
            exact run_enterLoop_inner g1 fn a.tmps ps pre body
          refine ⟨w.heap.size, [], _, d, _, g, _, _, henter, r1, fun _ _ => trivial, r2, fun h => (nomatch h), ?_⟩
          have hgo := hgo r nn al2 G2 a _ ⟨(arrL first).map (den G0) ++ (.func (.yield w.heap.size) #[] #[] :: (arrL cap).map (den G0))⟩ Q hall (hq.to t3) (hf.to t3) hS2 (fun G hG => ?_) (hT.to t3)
          · rw [hn2] at hgo
            exact hgo
          · have e1 := ea al G0 a hf G (hG.mono t3.up)
            rw [ea al G0 a hf G0 .rfl] at e1
            injection e1 with _ e2 e3
            injection e2 with e2
            injection e3 with e3
            have hGn : (G H.n).b = w.heap.size := by rw [hG H.n hall, hn2]
            have hy : den G (.func (.yield H.n) #[] #[]) = .func (.yield w.heap.size) #[] #[] := by
              rw [show (.func (.yield H.n) #[] #[] : Value) = .func (.yield H.n) ⟨[]⟩ ⟨[]⟩ from rfl, den_func]
              simp [dF, hGn]
            rw [e2, e3, List.map_append, List.map_cons, hy]
      · exact .inl rfl
    · exact .inl rfl
  · exact .inl rfl
end
end Go.Proofs.YtmhnlkakbadkgaaGreat.Ck
