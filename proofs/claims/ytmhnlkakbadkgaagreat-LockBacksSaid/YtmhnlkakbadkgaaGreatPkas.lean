/- Part 19 of the proof of LockBacks: contracts of functions that the law reaches, or the rules by which they are walked. No condition. -/
import Derived.Test.YtmhnlkakbadkgaaGreatPkar
namespace Go.Proofs.YtmhnlkakbadkgaaGreat.Ck
open Go Go.RowKit Go.Shelf
set_option maxRecDepth 100000
mutual
theorem eqVal_eq : ∀ a b : Value, eqVal a b = true → a = b
  | .bool a, .bool b, h => by simp only [eqVal, beq_iff_eq] at h; rw [h]
  | .int j a, .int k b, h => by simp only [eqVal, Bool.and_eq_true, decide_eq_true_eq, beq_iff_eq] at h; rw [h.1, h.2]
  | .string a, .string b, h => by
    simp only [eqVal, beq_iff_eq] at h
    obtain ⟨⟨a⟩⟩ := a
    obtain ⟨⟨b⟩⟩ := b
    have h : a = b := h
    rw [h]
  | .pointer none, .pointer none, _ => rfl
  | .pointer (some a), .pointer (some b), h => by simp only [eqVal, decide_eq_true_eq] at h; rw [h]
  | .slice none l c, .slice none l' c', h => by simp only [eqVal, Bool.and_eq_true, Nat.beq_eq] at h; rw [h.1, h.2]
  | .slice (some a) l c, .slice (some b) l' c', h => by simp only [eqVal, Bool.and_eq_true, decide_eq_true_eq, Nat.beq_eq] at h; rw [h.1, h.2.1, h.2.2]
  | .map none, .map none, _ => rfl
  | .map (some a), .map (some b), h => by simp only [eqVal, Nat.beq_eq] at h; rw [h]
  | .func (.func f) ⟨a⟩ ⟨b⟩, .func (.func g) ⟨c⟩ ⟨d⟩, h => by
    simp only [eqVal, Bool.and_eq_true, Nat.beq_eq] at h
    rw [h.1, eqVals_eq a c h.2.1, eqVals_eq b d h.2.2]
  | .nilFunc, .nilFunc, _ => rfl
  | .nilIface, .nilIface, _ => rfl
  | .agg ⟨a⟩, .agg ⟨b⟩, h => by simp only [eqVal] at h; rw [eqVals_eq a b h]
  | .tuple ⟨a⟩, .tuple ⟨b⟩, h => by simp only [eqVal] at h; rw [eqVals_eq a b h]
theorem eqVals_eq : ∀ a b : List Value, eqVals a b = true → a = b
  | [], [], _ => rfl
  | a :: xs, b :: ys, h => by
    simp only [eqVals, Bool.and_eq_true] at h
    rw [eqVal_eq a b h.1, eqVals_eq xs ys h.2]
end
section
variable {P : Program} {β : Type} {z : β} {ih : Ev β} {cau : FuncId → Bool} {te : TypeId} {kn : Kn}
theorem defers_sound (hs : Sound P z ih) (hcau : ∀ g, cau g = true → CaughtIdle P g ∧ CaughtUp P g te te) (l : List Deferred) (F : Fr) (H : CH) (K : Kont β) : defersK P z cau ih l F H K = z ∨ ∃ e F' H', defersK P z cau ih l F H K = K e F' H' ∧ DefS P l H e H' := by
  cases l with
  | nil => exact .inr ⟨.normal, F, H, rfl, rfl, fun nn fn tm al G0 w R ds hds hS hR => by
      rw [hds G0 .rfl]
      exact hR al G0 w .rfl hS⟩
  | cons d l =>
    obtain ⟨tg, ar⟩ := d
    dsimp only [defersK]
    split
    · rename_i g
      split
      · rename_i pa K0 lb hg
        simp only [Bool.and_eq_true] at hg
        have hE : ∀ args w, (callFunc g args).run P w = .ok (.enter g args) w := tyB_spec hg.2
        rcases hs (.defers l) F H K with h | ⟨e, F', H', h, he, hd⟩
        · exact .inl h
        · refine .inr ⟨e, F', H', h, he, fun nn fn tm al G0 w R ds hds hS hR => ?_⟩
          have h0 := hds G0 .rfl
          obtain ⟨lb⟩ := lb
          have hx : denD G0 { target := .fn (.func g) ⟨[]⟩, args := ⟨[.pointer (some pa), .func (.func K0) ⟨[]⟩ ⟨lb⟩]⟩ } = { target := .fn (.func g) #[], args := #[.pointer (some (dA G0 pa)), .func (.func K0) #[] ⟨lb.map (den G0)⟩] } := by
            simp [denD, denT, dF, den, denL_map]
          rw [List.map_cons, hx] at h0
          rw [h0]
          refine ⟨by simp, .inr ⟨fun hd => by simp [Fence.wide] at hd, _, _, g, #[.pointer (some (dA G0 pa)), .func (.func K0) #[] ⟨lb.map (den G0)⟩], rfl, by simp [invoke, hE], fun _ _ => trivial, ?_⟩⟩
          refine CallsDIn.mono ((hcau g hg.1).1 (nn - 1) _ K0 _ w) ?_
          rintro e u' w' ⟨rfl, rfl, hw'⟩
          rw [hw']
          refine hd nn fn tm al G0 w R _ (fun G hG => ?_) hS hR
          have h1 := hds G hG
          rw [hds G0 .rfl, List.map_cons, List.map_cons] at h1
          exact (List.cons.inj h1).2
      · exact .inl rfl
    · rename_i b
      split
      · rename_i hb
        rcases Tr.put_spec z .d H.h b (fun h => ih (.defers l) F ⟨h, H.n⟩ K) with h | ⟨h1, h, hh⟩
        · exact .inl h
        rw [h]
        rcases hs (.defers l) F ⟨h1, H.n⟩ K with h | ⟨e, F', H', h, he, hd⟩
        · exact .inl h
        · refine .inr ⟨e, F', H', h, he, fun nn fn tm al G0 w R ds hds hS hR => ?_⟩
          have h0 := hds G0 .rfl
          rw [h0]
          have hbw : w.heap[(G0 b).b]? = some (.deferred (some [])) := (hS.hr G0 .rfl).bk b _ hb rfl
          have hlt : (G0 b).b < w.heap.size := (Array.getElem?_eq_some_iff.1 hbw).1
          obtain ⟨k1, k2⟩ := HS.write (w' := w.putObj (G0 b).b (.deferred none)) hS hb rfl hh (fun _ _ h => nomatch h) (fun j hj => World.putObj_heap_other hj) (by simp) rfl rfl rfl
          refine ⟨by simp, .inl ⟨(G0 b).b, _, rfl, run_takeDeferred hbw, ?_⟩⟩
          refine hd nn fn tm al G0 _ R _ (fun G hG => ?_) k1 (fun al' G' w' t1 t2 => hR al' G' w' (k2.trans t1) t2)
          have h1 := hds G hG
          rw [h0, List.map_cons] at h1
          exact (List.cons.inj h1).2
      · exact .inl rfl
    · exact .inl rfl
theorem resK_spec : ∀ (rs : List ResultVar) (F : Fr) (H : CH) (K : List Value → β), resK P z F H rs K = z ∨ ∃ vs, resK P z F H rs K = K vs ∧ vs.length = rs.length ∧
    ∀ (G : Gh) (tm : Array Value) (w : World), TR G F.T F.m tm → HR G H.h w → (rs.mapM (resOne tm)).run P w = .ok (vs.map (den G)) w
  | [], F, H, K => .inr ⟨[], rfl, rfl, fun _ _ _ _ _ => rfl⟩
  | .tmp t :: rs, F, H, K => by
    have e : resK P z F H (.tmp t :: rs) K = resK P z F H rs fun vs => K (evT F.T (.tmp t) :: vs) := rfl
    rw [e]
    rcases resK_spec rs F H (fun vs => K (evT F.T (.tmp t) :: vs)) with h | ⟨vs, h, hl, h2⟩
    · exact .inl h
    · refine .inr ⟨_, h, by simp [hl], fun G tm w ht hr => ?_⟩
      have h3 := h2 G tm w ht hr
      simp only [List.mapM_cons, resOne, Sem.run_bind, Sem.run_pure, Result.andThen_ok, h3, List.map_cons]
      rw [ht.2 t, ← evT_tmp]
  | .cell a t :: rs, F, H, K => by
    have e : resK P z F H (.cell a t :: rs) K = loadK P z t (evT F.T (.tmp a)) H fun v => resK P z F H rs fun vs => K (v :: vs) := rfl
    rw [e]
    unfold loadK
    split
    · rename_i b off hu
      split
      · rename_i cs ty op hb
        split
        · rename_i kd hk
          rcases partK_spec (z := z) kd cs off (fun v => resK P z F H rs fun vs => K (v :: vs)) with h | ⟨v, h, hv⟩
          · exact .inl h
          · rcases resK_spec rs F H (fun vs => K (v :: vs)) with h1 | ⟨vs, h1, hl, h2⟩
            · exact .inl (h.trans h1)
            · refine .inr ⟨_, h.trans h1, by simp [hl], fun G tm w ht hr => ?_⟩
              have h3 := h2 G tm w ht hr
              have e1 := ht.2 a
              rw [← evT_tmp, hu] at e1
              simp only [den] at e1
              have h4 := hr.load hb hk hv
              simp only [List.mapM_cons, resOne, e1, asAddr, Sem.run_bind, Sem.run_pure, Result.andThen_ok, h3, h4, List.map_cons]
        · exact .inl rfl
      · exact .inl rfl
    · exact .inl rfl
theorem fillT_spec : ∀ (vs : List Value) (i : Nat) (T : Tr Value) (K : Tr Value → β), fillT z vs i T K = z ∨ ∃ T', fillT z vs i T K = K T' ∧ ∀ j, T'.get j = if i ≤ j ∧ j < i + vs.length then vs[j - i]? else T.get j
  | [], i, T, K => .inr ⟨T, rfl, fun j => by
    rw [if_neg]
    simp only [List.length_nil]
    omega⟩
  | v :: vs, i, T, K => by
    have e : fillT z (v :: vs) i T K = Tr.put z v T i fun T => fillT z vs (i + 1) T K := rfl
    rw [e]
    rcases Tr.put_spec z v T i (fun T => fillT z vs (i + 1) T K) with h | ⟨T1, h, h1⟩
    · exact .inl h
    · rcases fillT_spec vs (i + 1) T1 K with h2 | ⟨T2, h2, h3⟩
      · exact .inl (h.trans h2)
      · refine .inr ⟨T2, h.trans h2, fun j => ?_⟩
        rw [h3, h1]
        simp only [List.length_cons]
        by_cases hj : j = i
        · subst hj
          rw [if_neg (by omega), if_pos rfl, if_pos (by omega)]
          simp
        · by_cases hr : i + 1 ≤ j ∧ j < i + 1 + vs.length
          · rw [if_pos hr, if_pos (by omega), show j - i = (j - (i + 1)) + 1 by omega]
            simp
          · rw [if_neg hr, if_neg hj, if_neg (by omega)]
theorem results_of {fn : Func} {tm : Array Value} {w : World} {xs : List Value} (h : (fn.results.toList.mapM (resOne tm)).run P w = .ok xs w) : (results fn tm).run P w = .ok (retOf xs) w := by
  have h2 : (fn.results.mapM (resOne tm)).run P w = .ok xs.toArray w := by
    rw [Array.mapM_eq_mapM_toList, Sem.run_map]
    rw [h]
    rfl
  rw [results_eq]
  simp only [Sem.run_bind, h2, Result.andThen_ok, Sem.run_pure]
  congr 1
  match xs with
  | [] => rfl
  | [u] => rfl
  | u :: u' :: us => simp [retOf]
theorem den_retOf (G : Gh) (vs : List Value) : den G (retOf vs) = retOf (vs.map (den G)) := by
  match vs with
  | [] => exact den_tuple G []
  | [u] => rfl
  | u :: u' :: us => exact den_tuple G (u :: u' :: us)
theorem leave_sound (hs : Sound P z ih) (fn : Func) (F1 : Fr) (l : List Deferred) (H1 : CH) (K : Kont β) : ih (.defers l) F1 H1 (fnRet P z fn F1 K) = z ∨ ∃ v H', ih (.defers l) F1 H1 (fnRet P z fn F1 K) = K (.val v) noF H' ∧
    ∀ (nn : Nat) al1 G1 (tm : Array Value) (ds : List Deferred) w1 (R : Ending → World → Prop), (∀ G, Ag al1 G1 G → TR G F1.T F1.m tm) → (∀ G, Ag al1 G1 G → ds = l.map (denD G)) → HS al1 G1 H1 w1 →
      (∀ al' G' w', To al1 G1 H1 w1 al' G' H' w' → HS al' G' H' w' → ∀ u, (∀ G, Ag al' G' G → u = den G v) → R (.returned u) w') → LeavesInM Fence.wide nn P fn tm R ds .returning w1 := by
  rcases hs (.defers l) F1 H1 (fnRet P z fn F1 K) with h3 | ⟨e2, F2, H2, h3, _, hdef⟩
  · exact .inl h3
  · rcases resK_spec (P := P) (z := z) fn.results.toList F1 H2 (fun vs => K (.val (retOf vs)) noF H2) with h4 | ⟨vs, h4, _, hres⟩
    · exact .inl (h3.trans h4)
    · refine .inr ⟨_, _, h3.trans h4, fun nn al1 G1 tm ds w1 R ht hds hS1 hR => ?_⟩
      refine hdef nn fn tm al1 G1 w1 R ds hds hS1 fun al2 G2 w2 t2 hS2 => ?_
      have run : ∀ G, Ag al2 G2 G → (results fn tm).run P w2 = .ok (den G (retOf vs)) w2 := fun G hG => by
        rw [den_retOf]
        exact results_of (hres G tm w2 (ht G (hG.mono t2.up)) (hS2.hr G hG))
      refine ⟨den G2 (retOf vs), run G2 .rfl, hR al2 G2 w2 t2 hS2 _ fun G hG => ?_⟩
      have e1 := run G hG
      rw [run G2 .rfl] at e1
      injection e1
def EndS (e : Ex) (al' : Nat → Prop) (G' : Gh) (w' : World) (R : Ending → World → Prop) : Prop := match e with
  | .val v => ∀ u, (∀ G, Ag al' G' G → u = den G v) → R (.returned u) w'
  | .panic v => R (.panicked [{ v := den G' v, recovered := false }]) w'
  | _ => True
theorem up_sound (hs : Sound P z ih) (hcau : ∀ g, cau g = true → CaughtIdle P g ∧ CaughtUp P g te te) (fn : Func) (F : Fr) (v : Value) (K : Kont β) : ∀ (l : List Deferred) (H : CH), upK P z cau te ih fn F v K l H = z ∨ ∃ e H', upK P z cau te ih fn F v K l H = K e noF H' ∧
    ((∃ v, e = .val v) ∨ ∃ v, e = .panic v) ∧ ∀ al G0 (tm : Array Value) (ds : List Deferred) w (R : Ending → World → Prop), (∀ G, Ag al G0 G → TR G F.T F.m tm) → (∀ G, Ag al G0 G → ds = l.map (denD G)) → HS al G0 H w →
      (∀ al' G' w', To al G0 H w al' G' H' w' → HS al' G' H' w' → EndS e al' G' w' R) → LeavesInM Fence.wide 8 P fn tm R ds (.panicking [{ v := den G0 v, recovered := false }]) w
  | [], H => .inr ⟨.panic v, H, rfl, .inr ⟨v, rfl⟩, fun al G0 tm ds w R ht hds hS hR => by
    rw [hds G0 .rfl]
    exact hR al G0 w .rfl hS⟩
  | d :: l, H => by
    obtain ⟨tg, ar⟩ := d
    have e : upK P z cau te ih fn F v K (⟨tg, ar⟩ :: l) H = match tg with
      | .fn (.func g) ⟨[]⟩ => match cau g && tyB P g, ar, v with
        | true, ⟨[.pointer (some ⟨pe, 0, none⟩), .func (.func k) ⟨[]⟩ ⟨lb⟩]⟩, .iface t (.int .i64 n) => match Nat.beq t te && tyB P k, H.h.get pe with
          | true, some (.c _ _ 0) => ih (.fn k lb) noF H (upC P z te ih pe n l fn F K)
          | _, _ => z
        | _, _, _ => z
      | .collected b => match H.h.get b with
        | some (.o (.deferred (some []))) => Tr.put z .d H.h b fun h => upK P z cau te ih fn F v K l ⟨h, H.n⟩
        | _ => z
      | _ => z := rfl
    rw [e]
    split
    · rename_i g
      split
      · rename_i pe k lb t n hg
        simp only [Bool.and_eq_true] at hg
        have hE : ∀ args w, (callFunc g args).run P w = .ok (.enter g args) w := tyB_spec hg.2
        split
        · rename_i cs0 t0 hk hb0
          simp only [Bool.and_eq_true] at hk
          have hEk : Enters P k := tyB_spec hk.2
          have hte := Nat.eq_of_beq_eq_true hk.1
          subst hte
          rcases hs (.fn k lb) noF H (upC P z t ih pe n l fn F K) with h | ⟨e1, Fx, H2, h, hfn⟩
          · exact .inl h
          · rw [h]
            unfold upC
            split
            · split
              · rename_i x t2 hb
                split
                · rename_i ht2
                  have := Nat.eq_of_beq_eq_true ht2
                  subst this
                  rcases Tr.put_spec z (.c [.int .i64 n] t2 0) H2.h pe (fun h => ih (.defers l) F ⟨h, H2.n⟩ (fnRet P z fn F K)) with h3 | ⟨h', h3, hh⟩
                  · exact .inl h3
                  · rw [h3]
                    rcases leave_sound hs fn F l ⟨h', H2.n⟩ K with h4 | ⟨rv, H', h4, hl⟩
                    · exact .inl h4
                    · refine .inr ⟨.val rv, H', h4, .inl ⟨rv, rfl⟩, fun al G0 tm ds w R ht hds hS hR => ?_⟩
                      have cell : ∀ {al1 G1 H1 w1 cs}, HS al1 G1 H1 w1 → H1.h.get pe = some (.c cs t2 0) → w1.heap[(G1 pe).b]? = some (.cells ⟨cs.map (den G1)⟩ t2 (0, 0)) ∧ (G1 pe).d = 0 := fun hS1 hb1 => by
                        obtain ⟨pr, jk, f1, f2, f3, f4⟩ := (hS1.hr _ .rfl).row hb1
                        obtain ⟨f5, f6, _⟩ := f2 rfl
                        have f5 := List.eq_nil_of_length_eq_zero f5
                        have f6 := List.eq_nil_of_length_eq_zero f6
                        subst f5 f6
                        exact ⟨by simpa using f1, f4⟩
                      have hd0 : (G0 pe).d = 0 := by
                        obtain ⟨pr, jk, f1, f2, f3, f4⟩ := (hS.hr _ .rfl).row hb0
                        rw [f4]; exact (f2 rfl).1
                      have h0 := hds G0 .rfl
                      have hx : denD G0 { target := .fn (.func g) ⟨[]⟩, args := ⟨[.pointer (some ⟨pe, 0, none⟩), .func (.func k) ⟨[]⟩ ⟨lb⟩]⟩ } = { target := .fn (.func g) #[], args := #[.pointer (some ⟨(G0 pe).b, 0, none⟩), .func (.func k) #[] ⟨lb.map (den G0)⟩] } := by
                        simp [denD, denT, dF, den, denL_map, dA, hd0]
                      rw [List.map_cons, hx] at h0
                      rw [h0]
                      refine ⟨by simp, .inr ⟨fun hd => by simp [Fence.wide] at hd, _, _, g, #[.pointer (some ⟨(G0 pe).b, 0, none⟩), .func (.func k) #[] ⟨lb.map (den G0)⟩], rfl, by simp [invoke, hE], fun _ _ => trivial, ?_⟩⟩
                      have hcalls : Calls P k ⟨lb.map (den G0)⟩ w fun e w' => e = .returned (.tuple #[]) ∧ ∃ al' G', To al G0 H w al' G' H2 w' ∧ HS al' G' H2 w' := by
                        refine (callsIn_wide (n := 8)).1 ?_
                        refine hfn none 8 al G0 _ w _ (fun G hG => ?_) hS (fun al' G' w' t1 hS1 u hu => ⟨?_, al', G', t1, hS1⟩) (.inl ⟨_, rfl⟩)
                        · have h1 := hds G hG
                          rw [hds G0 .rfl, List.map_cons, List.map_cons] at h1
                          have h1 := (List.cons.inj h1).1
                          simp only [denD, Deferred.mk.injEq] at h1
                          have h1 := h1.2
                          simp only [den, denL_map, List.map_cons, List.map_nil, Array.mk.injEq, List.cons.injEq, Value.func.injEq] at h1
                          simp_all
                        · rw [hu G' .rfl]; exact congrArg Ending.returned (den_tuple G' [])
                      have hpe : al pe := hS.pr pe _ hb0
                      refine CallsDIn.mono ((hcau g hg.1).2 7 (G0 pe).b k _ n [] w _ (by omega) hEk hcalls ?_) ?_
                      · rintro w' ⟨al', G', t1, hS1⟩
                        obtain ⟨f1, _⟩ := cell hS1 hb
                        rw [(t1.up pe hpe).2] at f1
                        exact ⟨_, f1⟩
                      · rintro e u' w' ⟨rfl, rfl, w1, ⟨al', G', t1, hS1⟩, rfl⟩
                        obtain ⟨f1, f2⟩ := cell hS1 hb
                        have f3 := (t1.up pe hpe).2
                        have f4 : w1.setCell ⟨(G0 pe).b, 0, none⟩ (.int .i64 n) = w1.setRow (G' pe).b #[.int .i64 n] := by
                          rw [← f3]
                          exact setCell_row f1
                        rw [f4]
                        have hlt : (G' pe).b < w1.heap.size := (Array.getElem?_eq_some_iff.1 f1).1
                        obtain ⟨k1, k2⟩ := HS.write (w' := w1.setRow (G' pe).b #[.int .i64 n]) hS1 hb rfl hh (fun G hG _ => by
                          have g1 : G pe = G' pe := hG pe (t1.up pe hpe).1
                          refine ⟨[], [], ?_, ⟨fun _ => ⟨rfl, rfl, ?_⟩, fun h => absurd rfl h, ?_⟩⟩
                          · rw [g1]
                            have := setRow_heap w1 _ _ #[.int .i64 n] _ _ f1
                            simpa using this
                          · have := (hS1.hr G hG).row hb
                            obtain ⟨pr, jk, q1, q2, q3, q4⟩ := this
                            exact (q2 rfl).2.2
                          · rw [g1]; exact f2) (fun j hj => setRow_other w1 _ _ _ hj) (size_setRow _ _ _) rfl rfl rfl
                        have t3 := t1.trans k2
                        show LeavesInM Fence.wide 8 P fn tm R (l.map (denD G0)) .returning _
                        refine hl 8 al' G' tm _ _ R (fun G hG => ht G (hG.mono t3.up)) (fun G hG => ?_) k1 fun al2 G2 w2 t2 hS2 => hR al2 G2 w2 (t3.trans t2) hS2
                        have h1 := hds G (hG.mono t3.up)
                        rw [hds G0 .rfl, List.map_cons, List.map_cons] at h1
                        exact (List.cons.inj h1).2
                · exact .inl rfl
              · exact .inl rfl
            · exact .inl rfl
        · exact .inl rfl
      · exact .inl rfl
    · rename_i b
      split
      · rename_i hb
        rcases Tr.put_spec z .d H.h b (fun h => upK P z cau te ih fn F v K l ⟨h, H.n⟩) with h | ⟨h1, h, hh⟩
        · exact .inl h
        rw [h]
        rcases up_sound hs hcau fn F v K l ⟨h1, H.n⟩ with h | ⟨e, H', h, he, hd⟩
        · exact .inl h
        · refine .inr ⟨e, H', h, he, fun al G0 tm ds w R ht hds hS hR => ?_⟩
          have h0 := hds G0 .rfl
          rw [h0]
          have hbw : w.heap[(G0 b).b]? = some (.deferred (some [])) := (hS.hr G0 .rfl).bk b _ hb rfl
          obtain ⟨k1, k2⟩ := HS.write (w' := w.putObj (G0 b).b (.deferred none)) hS hb rfl hh (fun _ _ h => nomatch h) (fun j hj => World.putObj_heap_other hj) (by simp) rfl rfl rfl
          refine ⟨by simp, .inl ⟨(G0 b).b, _, rfl, run_takeDeferred hbw, ?_⟩⟩
          refine hd al G0 tm _ _ R ht (fun G hG => ?_) k1 (fun al' G' w' t1 t2 => hR al' G' w' (k2.trans t1) t2)
          have h1 := hds G hG
          rw [h0, List.map_cons] at h1
          exact (List.cons.inj h1).2
      · exact .inl rfl
    · exact .inl rfl
def FillS (P : Program) (f : FuncId) (c0 : List Value) (t : TypeId) (c1 : List Value) : Prop := plainL c0 = true ∧ plainL c1 = true ∧ ∀ (b : Nat) (w : World), w.heap[b]? = some (.cells c0.toArray t (0, 0)) → Calls P f #[.pointer (some ⟨b, 0, none⟩)] w fun e w' =>
  e = .returned (.tuple #[]) ∧ w'.os = w.os ∧ w'.tape = w.tape ∧ w'.output = w.output ∧ w.heap.size ≤ w'.heap.size ∧ w'.heap[b]? = some (.cells c1.toArray t (0, 0)) ∧ ∀ j, j < w.heap.size → j ≠ b → w'.heap[j]? = w.heap[j]?
theorem fill_sound {f : FuncId} {c0 c1 : List Value} {t : TypeId} (hf : FillS P f c0 t c1) (args : List Value) (H : CH) (K : Kont β) : fillFn z c0 t c1 args H K = z ∨ ∃ e F' H', fillFn z c0 t c1 args H K = K e F' H' ∧ FnS P f args H e H' := by
  unfold fillFn
  split
  · rename_i k
    split
    · rename_i cs t' hb
      split
      · rename_i hc
        simp only [Bool.and_eq_true, Nat.beq_eq] at hc
        obtain ⟨h1, rfl⟩ := hc
        have := eqVals_eq _ _ h1
        subst this
        rcases Tr.put_spec z (.c c1 t' 0) H.h k (fun h => K (.val (.tuple ⟨[]⟩)) noF ⟨h, H.n⟩) with h | ⟨h', h, hh⟩
        · exact .inl h
        · refine .inr ⟨_, _, _, h, fun r nn al G0 vs w R hvs hS hR _ => ?_⟩
          obtain ⟨p0, p1, hcall⟩ := hf
          have d0 : ∀ G, cs.map (den G) = cs := fun G => by rw [← denL_map]; exact denL_plain G cs p0
          have d1 : ∀ G, c1.map (den G) = c1 := fun G => by rw [← denL_map]; exact denL_plain G c1 p1
          obtain ⟨pr, jk, f1, f2, _, f4⟩ := (hS.hr _ .rfl).row hb
          obtain ⟨f5, f6, f7⟩ := f2 rfl
          have f5 := List.eq_nil_of_length_eq_zero f5
          have f6 := List.eq_nil_of_length_eq_zero f6
          subst f5 f6
          rw [d0] at f1
          have hk := hS.pr k _ hb
          have e0 : vs = #[.pointer (some ⟨(G0 k).b, 0, none⟩)] := by
            rw [hvs G0 .rfl]
            simp only [List.map_cons, List.map_nil, den, dA, f4]
            rfl
          rw [e0]
          show CallsIn Fence.wide nn P f _ w R
          refine callsIn_wide.2 ((hcall (G0 k).b w (by simpa using f1)).mono ?_)
          rintro e w' ⟨rfl, g1, g2, g3, g4, g5, g6⟩
          obtain ⟨k1, k2⟩ := HS.write2 (w' := w') hS hb rfl hh (fun G hG _ => by
            have e1 : G k = G0 k := hG k hk
            refine ⟨[], [], by rw [e1, d1]; simpa using g5, ⟨fun _ => ⟨rfl, rfl, ?_⟩, fun h => absurd rfl h, by rw [e1]; exact f4⟩⟩
            rw [e1]; exact f7) g6 g4 g1 g2 g3
          exact hR al G0 w' k2 k1 _ fun G _ => (den_tuple G []).symm
      · exact .inl rfl
    · exact .inl rfl
  · exact .inl rfl
theorem eqEs_eq : ∀ a b : List MapEntry, eqEs a b = true → a = b
  | [], [], _ => rfl
  | a :: xs, b :: ys, h => by
    simp only [eqEs, Bool.and_eq_true, Nat.beq_eq] at h
    obtain ⟨⟨h1, h2⟩, h3, h4⟩ := h
    rw [eqEs_eq xs ys h4]
    obtain ⟨k, v, n⟩ := a
    obtain ⟨k', v', n'⟩ := b
    have e1 := eqVal_eq _ _ h1
    have e2 := eqVal_eq _ _ h2
    dsimp only at e1 e2 h3
    rw [e1, e2, h3]
theorem eqBk_eq (a b : Bk) (h : eqBk a b = true) : a = b := by
  unfold eqBk at h
  split at h
  · simp only [Bool.and_eq_true, Nat.beq_eq] at h
    rw [eqVals_eq _ _ h.1, h.2.1, h.2.2]
  · simp only [Bool.and_eq_true, Nat.beq_eq] at h
    rw [eqEs_eq _ _ h.1, h.2]
  · rfl
  · cases h
theorem mem_mkT : ∀ (l : List (Nat × Bk)) (k : Nat) (b : Bk), (mkT l).get k = some b → (k, b) ∈ l
  | [], k, b, h => by
    have h : (Tr.lf : Tr Bk).get k = some b := h
    simp at h
  | p :: l, k, b, h => by
    have e : mkT (p :: l) = insT p.1 p.2 (mkT l) := rfl
    rw [e] at h
    unfold insT at h
    rcases Tr.put_spec (.lf : Tr Bk) p.2 (mkT l) p.1 (fun t => t) with h1 | ⟨t', h1, h2⟩
    · rw [h1] at h; simp at h
    · rw [h1, h2] at h
      split at h
      · rename_i e1
        cases h
        rw [e1]
        exact List.mem_cons_self
      · exact List.mem_cons_of_mem _ (mem_mkT l k b h)
theorem hasAll_spec {h : Tr Bk} : ∀ (l : List (Nat × Bk)), hasAll h l = true → ∀ k b, (k, b) ∈ l → h.get k = some b
  | [], _, k, b, hm => nomatch hm
  | p :: l, hh, k, b, hm => by
    have e : hasAll h (p :: l) = match h.get p.1 with
      | some b => match eqBk b p.2 with
        | true => hasAll h l
        | false => false
      | none => false := rfl
    rw [e] at hh
    split at hh
    · rename_i b' hb
      split at hh
      · rename_i he
        rcases List.mem_cons.1 hm with hm | hm
        · subst hm
          rw [hb, eqBk_eq _ _ he]
        · exact hasAll_spec l hh k b hm
      · cases hh
    · cases hh
theorem sub_mkT {h : Tr Bk} {l : List (Nat × Bk)} (hh : hasAll h l = true) : ∀ k b, (mkT l).get k = some b → h.get k = some b := fun k b hk => hasAll_spec l hh k b (mem_mkT l k b hk)
theorem HS.less {al : Nat → Prop} {G0 : Gh} {H H' : CH} {w : World} (h : HS al G0 H w) (hg : ∀ k b, H'.h.get k = some b → H.h.get k = some b) (hn : H'.n = H.n) : HS al G0 H' w :=
  ⟨fun k hk => by rw [hn]; exact h.lt k hk, fun k b hb => h.pr k b (hg k b hb), fun G hG => ⟨fun k b hb => (h.hr G hG).bk k b (hg k b hb), fun k k' b b' h1 h2 => (h.hr G hG).inj k k' b b' (hg k b h1) (hg k' b' h2)⟩⟩
theorem To.more {al al' : Nat → Prop} {G0 G' : Gh} {H H1 H' H2 : CH} {w w' : World} (h : To al G0 H1 w al' G' H' w') (hg : ∀ k b, H1.h.get k = some b → H.h.get k = some b) (hn : H1.n = H.n) (hg' : ∀ k b, H2.h.get k = some b → H'.h.get k = some b) (hn' : H2.n = H'.n) : To al G0 H w al' G' H2 w' :=
  ⟨by rw [← hn, hn']; exact h.n, h.up, fun k hk => h.back k (by rw [hn]; exact hk), h.os, h.tape, h.output, h.size, fun b hb hi => h.keep b hb fun ⟨k, x, hk, r⟩ => hi ⟨k, x, hg k x hk, r⟩, fun b hb ⟨k, x, hk, r⟩ => by
    obtain ⟨k', x', hk', r'⟩ := h.own b hb ⟨k, x, hg' k x hk, r⟩
    exact ⟨k', x', hg k' x' hk', r'⟩⟩
def PcS (P : Program) (f : FuncId) (p : Pc) : Prop := FnS P f p.a ⟨mkT p.l, p.n⟩ (.val p.v) ⟨mkT p.l', p.n'⟩
structure KnS (P : Program) (kn : Kn) : Prop where
  fl : ∀ f p, kn.fl f = some p → FillS P f p.1 p.2.1 p.2.2
  oc : ∀ f p, p ∈ kn.oc f → PcS P f p
theorem kn0S : KnS P kn0 := ⟨fun _ _ h => (nomatch h), fun _ _ h => (nomatch h)⟩
theorem FnS.less {f : FuncId} {args : List Value} {H H1 H' H2 : CH} {e : Ex} (h : FnS P f args H1 e H') (hg : ∀ k b, H1.h.get k = some b → H.h.get k = some b) (hn : H1.n = H.n) (hg' : ∀ k b, H2.h.get k = some b → H'.h.get k = some b) (hn' : H2.n = H'.n) : FnS P f args H e H2 :=
  fun r nn al G0 vs w R hvs hS hR he => h r nn al G0 vs w R hvs (hS.less hg hn) (fun al' G' w' t1 hS1 => hR al' G' w' (t1.more hg hn hg' hn') (hS1.less hg' hn')) he
theorem piece_sound (f : FuncId) (args : List Value) (H : CH) (K : Kont β) : ∀ ps : List Pc, (∀ p ∈ ps, PcS P f p) → pieceK z args H K ps = z ∨ ∃ e F' H', pieceK z args H K ps = K e F' H' ∧ FnS P f args H e H'
  | [], _ => .inl rfl
  | p :: ps, hps => by
    have e : pieceK z args H K (p :: ps) = match eqVals args p.a && (Nat.beq H.n p.n && hasAll H.h p.l) with
      | true => K (.val p.v) noF ⟨mkT p.l', p.n'⟩
      | false => pieceK z args H K ps := rfl
    rw [e]
    split
    · rename_i hc
      simp only [Bool.and_eq_true, Nat.beq_eq] at hc
      obtain ⟨h1, h2, h3⟩ := hc
      have := eqVals_eq _ _ h1
      subst this
      have hp : FnS P f p.a ⟨mkT p.l, p.n⟩ (.val p.v) ⟨mkT p.l', p.n'⟩ := hps p List.mem_cons_self
      exact .inr ⟨_, _, _, rfl, hp.less (sub_mkT h3) h2.symm (fun _ _ h => h) rfl⟩
    · exact piece_sound f args H K ps fun q hq => hps q (List.mem_cons_of_mem _ hq)
theorem fnB_sound (hs : Sound P z ih) (hcau : ∀ g, cau g = true → CaughtIdle P g ∧ CaughtUp P g te te) (f : FuncId) (args : List Value) (H : CH) (K : Kont β) : fnB P z cau te ih f args H K = z ∨ ∃ e F' H', fnB P z cau te ih f args H K = K e F' H' ∧ FnS P f args H e H' := by
  unfold fnB
  split
  · rename_i fn hf
    split
    · rename_i c hb
      split
      · exact .inl rfl
      · rename_i hle
        have hle := Nat.le_of_ble_eq_true hle
        rcases fillT_spec (z := z) args 0 .lf (fun T => ih (.code c) ⟨T, fn.ntmps, [], none⟩ H (fnEnd P z cau te ih fn K)) with h | ⟨T, h, hT⟩
        · exact .inl h
        · rcases hs (.code c) ⟨T, fn.ntmps, [], none⟩ H (fnEnd P z cau te ih fn K) with h2 | ⟨e, F1, H1, h2, hq, hcode⟩
          · exact .inl (h.trans h2)
          · have hfr : ∀ (al : Nat → Prop) (G0 : Gh) (vs : Array Value), (∀ G, Ag al G0 G → vs = ⟨args.map (den G)⟩) → FS al G0 ⟨T, fn.ntmps, [], none⟩ { tmps := vs ++ Array.replicate (fn.ntmps - vs.size) undef, defers := [] } := fun al G0 vs hvs G hG => by
              have hv := hvs G hG
              have hsz : vs.size = args.length := by rw [hv]; simp
              refine ⟨⟨by simp [hsz]; omega, fun t => ?_⟩, rfl⟩
              have hTt := hT t
              simp only [Nat.zero_le, true_and, Nat.zero_add, Nat.sub_zero, Tr.get_lf] at hTt
              rw [hTt]
              rw [Array.getD_eq_getD_getElem?, Array.getElem?_append]
              by_cases ht : t < args.length
              · rw [if_pos (by rw [hsz]; exact ht), if_pos ht, hv]
                simp [ht]
              · rw [if_neg (by rw [hsz]; exact ht), if_neg ht]
                simp only [Option.getD_none, den_undef]
                rw [Array.getElem?_replicate]
                split <;> rfl
            have fin : fnEnd P z cau te ih fn K e F1 H1 = ih (.defers F1.D) F1 H1 (fnRet P z fn F1 K) → (∀ G, exD G e = .normal ∨ exD G e = .ret) → (fillT z args 0 .lf fun T => ih (.code c) ⟨T, fn.ntmps, [], none⟩ H (fnEnd P z cau te ih fn K)) = z ∨
                ∃ e F' H', (fillT z args 0 .lf fun T => ih (.code c) ⟨T, fn.ntmps, [], none⟩ H (fnEnd P z cau te ih fn K)) = K e F' H' ∧ FnS P f args H e H' := fun he hex => by
              rcases leave_sound hs fn F1 F1.D H1 K with h3 | ⟨rv, H2, h3, hl⟩
              · exact .inl (((h.trans h2).trans he).trans h3)
              · refine .inr ⟨_, _, _, ((h.trans h2).trans he).trans h3, fun r nn al G0 as' w R hvs hS hR _ => ?_⟩
                show CallsIn Fence.wide nn P f as' w R
                refine callsIn_of_wp_marks hf hb trivial ?_ rfl
                show c.wpIn (feR none) nn P _ _ w
                refine hcode none nn al G0 _ w _ rfl (hfr al G0 as' hvs) hS fun al1 G1 a1 w1 t1 hS1 hf1 => ?_
                have leave : LeavesInM Fence.wide nn P fn a1.tmps R a1.defers .returning w1 := hl nn al1 G1 a1.tmps a1.defers w1 R (fun G hG => (hf1 G hG).1) (fun G hG => (hf1 G hG).2) hS1 fun al2 G2 w2 t2 hS2 => hR al2 G2 w2 (t1.trans t2) hS2
                rcases hex G1 with hx | hx
                · rw [hx]; exact leave
                · rw [hx]; exact leave
            cases e with
            | normal => exact fin rfl fun _ => .inl rfl
            | ret => exact fin rfl fun _ => .inr rfl
            | panic v =>
              rcases up_sound hs hcau fn F1 v K F1.D H1 with h3 | ⟨e, H2, h3, he, hu⟩
              · exact .inl ((h.trans h2).trans h3)
              · refine .inr ⟨e, noF, H2, (h.trans h2).trans h3, fun r nn al G0 as' w R hvs hS hR _ => ?_⟩
                show CallsIn Fence.wide nn P f as' w R
                refine callsIn_wide.2 ((callsIn_wide (n := 8)).1 ?_)
                refine callsIn_of_wp_marks hf hb trivial ?_ rfl
                show c.wpIn (feR none) 8 P _ _ w
                refine hcode none 8 al G0 _ w _ rfl (hfr al G0 as' hvs) hS fun al1 G1 a1 w1 t1 hS1 hf1 => ?_
                show LeavesInM Fence.wide 8 P fn a1.tmps R a1.defers (.panicking [{ v := den G1 v, recovered := false }]) w1
                refine hu al1 G1 a1.tmps a1.defers w1 R (fun G hG => (hf1 G hG).1) (fun G hG => (hf1 G hG).2) hS1 fun al2 G2 w2 t2 hS2 => ?_
                have hR2 := hR al2 G2 w2 (t1.trans t2) hS2
                rcases he with ⟨rv, rfl⟩ | ⟨pv, rfl⟩
                · exact hR2
                · exact hR2
            | _ => exact .inl (h.trans h2)
    · exact .inl rfl
  · exact .inl rfl
theorem fn_sound (hs : Sound P z ih) (hkn : KnS P kn) (hcau : ∀ g, cau g = true → CaughtIdle P g ∧ CaughtUp P g te te) (f : FuncId) (args : List Value) (H : CH) (K : Kont β) : fnK P z cau te kn ih f args H K = z ∨ ∃ e F' H', fnK P z cau te kn ih f args H K = K e F' H' ∧ FnS P f args H e H' := by
  unfold fnK
  split
  · rename_i p hp
    exact fill_sound (hkn.fl f p hp) args H K
  · split
    · exact fnB_sound hs hcau f args H K
    · rename_i p ps hp
      exact piece_sound f args H K _ fun q hq => hkn.oc f q (by rw [hp]; exact hq)
theorem step_sound (hs : Sound P z ih) (hkn : KnS P kn) (hcau : ∀ g, cau g = true → CaughtIdle P g ∧ CaughtUp P g te te)
    (hdraw : ∀ (ops : Array Oper) (F : Fr) (H : CH) (K : Kont β), drawK P z ih ops F H K = z ∨ ∃ e F' H', drawK P z ih ops F H K = K e F' H' ∧ DrawS P ops F H e F' H') : Sound P z (step P z cau te kn ih) := by
  have hround : RoundS P z ih := fun o all l c f b cap F H K nx hnx h1 h2 h3 h4 => round_sound hs h1 h2 h3 h4 all l H K hnx
  intro t F H K
  cases t with
  | fn f args =>
    rcases fn_sound hs hkn hcau f args H K with h | ⟨e, F', H', h, h2⟩
    · exact .inl h
    · exact .inr ⟨e, F', H', h, h2⟩
  | code c => exact code_sound hs (fun ops => ops_sound hs hround ops ops.toList) hdraw (fun f ps x y F H K => range_sound hs f ps x y F H K) c F H K
  | lp b => exact loop_sound hs b F H K
  | sc b c => exact sc_sound hs b c F H K
  | defers l =>
    rcases defers_sound hs hcau l F H K with h | ⟨e, F', H', h, h2⟩
    · exact .inl h
    · exact .inr ⟨e, F', H', h, h2⟩
end
end Go.Proofs.YtmhnlkakbadkgaaGreat.Ck
