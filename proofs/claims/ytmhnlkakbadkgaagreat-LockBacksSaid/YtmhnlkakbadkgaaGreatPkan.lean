/- Part 14 of the proof of LockBacks: contracts of functions that the law reaches, or the rules by which they are walked. No condition. -/
import Derived.Test.YtmhnlkakbadkgaaGreatPkam
namespace Go.Proofs.YtmhnlkakbadkgaaGreat.Ck
open Go Go.RowKit Go.Shelf
set_option maxRecDepth 100000
section
variable {P : Program} {T : Tr Value} {m : Nat} {o : Oper} {H : CH} {β : Type} {z : β}
theorem OpS.setRow {k : Nat} {cs cs' : List Value} {t : TypeId} {op : Nat} {h' : Tr Bk} {v : Value} (hk : H.h.get k = some (.c cs t op)) (hh : ∀ j, h'.get j = if j = k then some (.c cs' t op) else H.h.get j) (hl : cs'.length = cs.length)
    (hrun : ∀ (G : Gh) (a : Act) (w : World) (pr jk : List Value), TR G T m a.tmps → HR G H.h w → w.heap[(G k).b]? = some (.cells (pr ++ cs.map (den G) ++ jk).toArray t (0, 0)) → (G k).d = pr.length → Room (G k) cs.length pr.length jk.length op →
      Runs P o a w (den G v) (w.setRow (G k).b (pr ++ cs'.map (den G) ++ jk).toArray)) : OpS P T m o H v ⟨h', H.n⟩ := by
  intro al G0 a w ht hs
  have hak := hs.pr k _ hk
  obtain ⟨pr, jk, h1, hR⟩ := (hs.hr G0 .rfl).row hk
  have r0 := hrun G0 a w pr jk (ht G0 .rfl) (hs.hr G0 .rfl) h1 hR.2.2 hR
  have key : ∀ G, Ag al G0 G → den G0 v = den G v ∧ BR G k (w.setRow (G0 k).b (pr ++ cs'.map (den G0) ++ jk).toArray) (.c cs' t op) := fun G hG => by
    obtain ⟨pr', jk', h1', hR'⟩ := (hs.hr G hG).row hk
    have r1 := hrun G a w pr' jk' (ht G hG) (hs.hr G hG) h1' hR'.2.2 hR'
    obtain ⟨e1, e2⟩ := r0.det r1
    refine ⟨e1, pr', jk', ?_, by rw [hl]; exact hR'⟩
    rw [e2]
    exact setRow_heap w _ _ _ _ _ h1'
  obtain ⟨h3, h4⟩ := HS.write (w' := w.setRow (G0 k).b (pr ++ cs'.map (den G0) ++ jk).toArray) hs hk rfl hh (fun G hG _ => (key G hG).2) (fun j hj => setRow_other w _ _ _ hj) (size_setRow w _ _) rfl rfl rfl
  exact ⟨al, G0, _, h4, h3, den G0 v, r0, fun G hG => (key G hG).1⟩
theorem ops_store {t : TypeId} {x y : Operand} (ho : o.op = .store t x y) (hx : opdOk x = true) (hy : opdOk y = true) {K : CH → β} : storeK P z t (evT T x) (evT T y) H K = z ∨ ∃ H', storeK P z t (evT T x) (evT T y) H K = K H' ∧ OpS P T m o H undef H' := by
  unfold storeK
  split
  · rename_i b off hu
    split
    · rename_i cs ty op hb
      split
      · rename_i kd hk
        split
        · rename_i hc
          simp only [Bool.and_eq_true, Nat.beq_eq, Nat.blt_eq] at hc
          rcases setsK_spec (z := z) (arrL (evT T y).cells) cs off (fun cs => Tr.put z (.c cs ty op) H.h b fun h => K ⟨h, H.n⟩) with h | ⟨h, h2, h3⟩
          · exact .inl h
          · rw [h]
            have h2 : off + (arrL (evT T y).cells).length ≤ cs.length := by
              rcases h2 with h2 | h2
              · have := hc.2
                rw [← Array.length_toList, ← arrL_toList, h2] at this
                simp at this
              · exact h2
            rcases Tr.put_spec z (.c (splV cs off (arrL (evT T y).cells)) ty op) H.h b (fun h => K ⟨h, H.n⟩) with h4 | ⟨h', h4, hh⟩
            · exact .inl h4
            · refine .inr ⟨_, h4, OpS.setRow hb hh (splV_len h2) fun G a w pr jk ht hr hw hd _ => .inr ⟨?_, by simp⟩⟩
              have e1 := ev_den ht hx
              have e2 := ev_den ht hy
              rw [hu] at e1
              have e3 : (a.eval y).cells = ((arrL (evT T y).cells).map (den G)).toArray := by
                apply Array.ext'
                rw [e2, den_cells, arrL_toList]
              have := run_storeVar_spl hk (o := off + pr.length) hw e3 (by rw [List.length_map, arrL_toList, Array.length_toList]; exact hc.1) (by simp only [List.length_append, List.length_map]; omega) (fun x hx => by
                obtain ⟨x', hx', rfl⟩ := List.mem_map.1 hx
                rw [oneCell_den]
                exact h3 x' hx')
              have sp := splV_mid pr (cs.map (den G)) jk ((arrL (evT T y).cells).map (den G)) off (by simpa using h2)
              unfold splV at sp
              rw [sp] at this
              simp only [den] at e1
              simp only [execOp, ho, e1, dA, Instr.storeAt, Instr.sureAddr, Sem.run_bind, Sem.run_pure, Result.andThen_ok, hd, this]
              rw [splV_map]
              rfl
        · exact .inl rfl
      · exact .inl rfl
    · exact .inl rfl
  · exact .inl rfl
theorem OpS.setObj {k : Nat} {es es' : List MapEntry} {n n' : Nat} {h' : Tr Bk} (hk : H.h.get k = some (.o (.map ⟨es⟩ n))) (hh : ∀ j, h'.get j = if j = k then some (.o (.map ⟨es'⟩ n')) else H.h.get j)
    (hrun : ∀ (G : Gh) (a : Act) (w : World), TR G T m a.tmps → HR G H.h w → w.heap[(G k).b]? = some (.map ⟨es.map (denE G)⟩ n) → (execOp a.eval o).run P w = .ok .skip { w with heap := w.heap.setIfInBounds (G k).b (.map ⟨es'.map (denE G)⟩ n') }) : OpS P T m o H undef ⟨h', H.n⟩ := by
  intro al G0 a w ht hs
  have hb : ∀ G, Ag al G0 G → w.heap[(G k).b]? = some (.map ⟨es.map (denE G)⟩ n) := fun G hG => (hs.hr G hG).bk k _ hk rfl
  have r0 := hrun G0 a w (ht G0 .rfl) (hs.hr G0 .rfl) (hb G0 .rfl)
  obtain ⟨h3, h4⟩ := HS.write (w' := { w with heap := w.heap.setIfInBounds (G0 k).b (.map ⟨es'.map (denE G0)⟩ n') }) hs hk rfl hh (fun G hG _ => by
    have r1 := hrun G a w (ht G hG) (hs.hr G hG) (hb G hG)
    rw [r0] at r1
    injection r1 with _ e
    have hlt : (G k).b < w.heap.size := (Array.getElem?_eq_some_iff.1 (hb G hG)).1
    show ({ w with heap := w.heap.setIfInBounds (G0 k).b (.map ⟨es'.map (denE G0)⟩ n') } : World).heap[(G k).b]? = _
    rw [e]
    simp [hlt]) (fun j hj => by
      show (w.heap.setIfInBounds _ _)[j]? = _
      rw [Array.getElem?_setIfInBounds_ne (Ne.symm hj)]) (by simp) rfl rfl rfl
  exact ⟨al, G0, _, h4, h3, undef, .inr ⟨r0, rfl⟩, fun G hG => by simp⟩
theorem run_setMap {w : World} {r : Nat} {es es' : Array MapEntry} {n n' : Nat} (h : w.heap[r]? = some (.map es n)) : (setObj r (.map es' n')).run P w = .ok () { w with heap := w.heap.setIfInBounds r (.map es' n') } := by
  simp [Go.setObj, Sem.run, h]
theorem modify_map {α : Type} (g : α → α) (f f' : α → α) (h : ∀ e, g (f e) = f' (g e)) : ∀ (l : List α) (i : Nat), (l.map g).modify i f' = (l.modify i f).map g
  | [], i => by simp
  | e :: l, 0 => by simp [h]
  | e :: l, i + 1 => by simp [modify_map g f f' h l i]
theorem findM_key {k : IntKind} {a : Int} : ∀ {es : List MapEntry} {i : Nat} {p : Nat × Value}, findM k a es i = some (some p) → ∃ j e, p.1 = i + j ∧ es[j]? = some e ∧ e.key = .int k a
  | [], i, p, h => by simp [findM] at h
  | e :: es, i, p, h => by
    simp only [findM] at h
    split at h
    · rename_i k' b hk
      split at h
      · rename_i hkk
        have hkk : k = k' := by simpa using hkk
        subst hkk
        split at h
        · rename_i hab
          have hab : a = b := by simpa using hab
          subst hab
          cases h
          exact ⟨0, e, rfl, rfl, hk⟩
        · obtain ⟨j, e', h1, h2, h3⟩ := findM_key h
          exact ⟨j + 1, e', by omega, by simpa using h2, h3⟩
      · cases h
    · cases h
theorem ops_mapSet {t : TypeId} {x i v : Operand} (ho : o.op = .insert t x i v ∨ o.op = .mapUpdate t x i v) (hx : opdOk x = true) (hi : opdOk i = true) (hv : opdOk v = true) {K : CH → β} : mapSetK P z t (evT T x) (evT T i) (evT T v) H K = z ∨
    ∃ H', mapSetK P z t (evT T x) (evT T i) (evT T v) H K = K H' ∧ OpS P T m o H undef H' := by
  have hex : ∀ a : Act, execOp a.eval o = (do Instr.mapUpdate t (a.eval x) (a.eval i) (a.eval v); pure .skip) := fun a => by
    rcases ho with ho | ho <;> simp only [execOp, ho]
  unfold mapSetK
  split
  · rename_i e k a r he hui hux
    obtain ⟨kt, ik, h1, h2⟩ := tyM_is he
    split
    · rename_i es n hb
      split
      · rename_i p hf
        obtain ⟨j, e', hj1, hj2, hj3⟩ := findM_key hf
        simp only [Nat.zero_add] at hj1
        have hmod : (⟨es⟩ : Array MapEntry).modify p.1 (fun e => { e with key := evT T i, val := evT T v }) = ⟨es.modify p.1 fun e => { e with key := evT T i, val := evT T v }⟩ := by
          apply Array.ext'
          simp
        rcases Tr.put_spec z (.o (.map ((⟨es⟩ : Array MapEntry).modify p.1 fun e => { e with key := evT T i, val := evT T v }) n)) H.h r (fun h => K ⟨h, H.n⟩) with h | ⟨h', h, hh⟩
        · exact .inl h
        · rw [hmod] at hh
          refine .inr ⟨_, h, OpS.setObj hb hh fun G a' w ht hr hw => ?_⟩
          have e1 := ev_den ht hx
          have e2 := ev_den ht hi
          have e3 := ev_den ht hv
          rw [hux] at e1
          have e2' := e2
          rw [hui] at e2
          simp only [den_int] at e2
          simp only [den] at e1
          have hff := findM_spec (ik := ik) hf G
          simp only [Option.map_some] at hff
          have hck := fun b => run_checkKey (P := P) (a := a) (k' := k) h2 b 9999 w
          have hkey : ((es.map (denE G))[p.1]?.map (·.key)).getD (.int k a) = .int k a := by
            rw [hj1, List.getElem?_map, hj2]
            simp [denE, hj3]
          have hfin : (⟨es.map (denE G)⟩ : Array MapEntry).modify p.1 (fun e => { e with key := .int k a, val := a'.eval v }) = ⟨(es.modify p.1 fun e => { e with key := evT T i, val := evT T v }).map (denE G)⟩ := by
            apply Array.ext'
            rw [Array.toList_modify]
            rw [modify_map (denE G) (fun e => { e with key := evT T i, val := evT T v }) (fun e => { e with key := .int k a, val := a'.eval v }) (fun e => by simp [denE, e3, hui])]
          have hsm : Instr.sameBits 10000 (.int k a) (.int k a) = true := by simp [Instr.sameBits]
          rw [hex a', e1, e2]
          simp only [Instr.mapUpdate, run_underlying h1, Sem.run_bind, Result.andThen_ok, run_getMap hw, hck, Instr.findKey, run_underlying h2, hff, Sem.run_pure, List.getElem?_toArray, hkey, Instr.keyThatStays, hsm, if_true, run_setMap hw, hfin]
      · rename_i hf
        rcases Tr.put_spec z (.o (.map ⟨es ++ [{ key := evT T i, val := evT T v, born := n }]⟩ (n + 1))) H.h r (fun h => K ⟨h, H.n⟩) with h | ⟨h', h, hh⟩
        · exact .inl h
        · refine .inr ⟨_, h, OpS.setObj hb hh fun G a' w ht hr hw => ?_⟩
          have e1 := ev_den ht hx
          have e2 := ev_den ht hi
          have e3 := ev_den ht hv
          rw [hux] at e1
          rw [hui] at e2
          simp only [den_int] at e2
          simp only [den] at e1
          have hff := findM_spec (ik := ik) hf G
          simp only [Option.map_none] at hff
          have hck := fun b => run_checkKey (P := P) (a := a) (k' := k) h2 b 9999 w
          have hfin : (⟨es.map (denE G)⟩ : Array MapEntry).push ({ key := .int k a, val := a'.eval v, born := n } : MapEntry) = ⟨(es ++ [({ key := evT T i, val := evT T v, born := n } : MapEntry)]).map (denE G)⟩ := by
            apply Array.ext'
            simp [denE, e3, hui]
          rw [hex a', e1, e2]
          simp only [Instr.mapUpdate, run_underlying h1, Sem.run_bind, Result.andThen_ok, run_getMap hw, hck, Instr.findKey, run_underlying h2, hff, Sem.run_pure, run_setMap hw, hfin]
      · exact .inl rfl
    · exact .inl rfl
  · exact .inl rfl
end
end Go.Proofs.YtmhnlkakbadkgaaGreat.Ck
