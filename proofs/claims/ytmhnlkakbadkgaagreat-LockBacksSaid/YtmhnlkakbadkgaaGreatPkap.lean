/- Part 16 of the proof of LockBacks: contracts of functions that the law reaches, or the rules by which they are walked. No condition. -/
import Derived.Test.YtmhnlkakbadkgaaGreatPkao
import Derived.RangeFuncNested
namespace Go.Proofs.YtmhnlkakbadkgaaGreat.Ck
open Go Go.RowKit Go.Shelf
set_option maxRecDepth 100000
section
variable {P : Program} {T : Tr Value} {m : Nat} {o : Oper} {H : CH} {β : Type} {z : β}
theorem call_runs {cl : Call} {b : Builtin} {ts : List TypeId} {args : List Operand} {xs : List Value} (ho : o.op = .call cl) (hc : cl.callee = .builtin b) (hts : cl.argTypes.toList = ts) (hxs : cl.args.toList = args) (hok : ∀ x ∈ args, opdOk x = true) (hx : args.map (evT T) = xs)
    {G : Gh} {a : Act} (ht : TR G T m a.tmps) {w w' : World} {v : Value} (h : ∀ cs, (builtin b ⟨ts⟩ o.type cs ⟨xs.map (den G)⟩).run P w = .ok (.value v) w') : Runs P o a w v w' := by
  refine .inl ?_
  rw [callB ho hc hts hxs a, evs_den ht hok, hx]
  exact h _
theorem ops_copy {cl : Call} {ts : List TypeId} {args : List Operand} {d x : Value} (ho : o.op = .call cl) (hc : cl.callee = .builtin .copy) (hts : cl.argTypes.toList = ts) (hxs : cl.args.toList = args) (hok : ∀ x ∈ args, opdOk x = true) (hx : args.map (evT T) = [d, x])
    {K : Value → CH → β} : copyK P z ts d x H K = z ∨ ∃ v H', copyK P z ts d x H K = K v H' ∧ OpS P T m o H v H' := by
  have runs := fun {G : Gh} {a : Act} (ht : TR G T m a.tmps) {w w' v} h => call_runs (P := P) (m := m) ho hc hts hxs hok hx ht (w := w) (w' := w') (v := v) h
  unfold copyK
  split
  · rename_i t L a l c xb n xc
    split
    · rename_i p hp
      obtain ⟨he, inf, hinf, hsz⟩ := tyE_is hp
      dsimp only
      split
      · rename_i hn0
        refine .inr ⟨_, H, rfl, OpP.s fun G a' w ht hr => runs ht fun cs => ?_⟩
        have hn0 : Nat.min n l = 0 := hn0
        obtain ⟨c', h1⟩ := den_sl G a l c
        obtain ⟨c2, h2⟩ := den_sl G xb n xc
        simp only [builtin, List.map_cons, List.map_nil, h1, h2]
        cases a <;> cases xb <;> simp [Builtin.copy_, run_underlying he, Builtin.lenOf, hn0, sizeOf, typeInfo, hinf, Builtin.firstCells, loadCells, loadCellsFrom, storeCells, goInt]
      · rename_i n' hn0
        have hn1 : 0 < Nat.min n l := Nat.pos_of_ne_zero fun h => hn0 h
        generalize hK1 : (fun vs => _) = K1
        rcases firstK_spec (P := P) (z := z) (H := H) (x := .slice xb n xc) (n := Nat.min n l) (sz := p.2) (K := K1) with h | ⟨vs, h, hvl, _, hsrc⟩
        · exact .inl h
        rw [h, ← hK1]
        clear hK1 h
        dsimp only
        have hsrc := hsrc (.inr ⟨xb, n, xc, rfl⟩)
        split
        · rename_i b off sp
          split
          · rename_i cs ty op hb
            rcases setsK_spec (z := z) vs cs off (fun cs => Tr.put z (.c cs ty op) H.h b fun h => K (.int .i64 (.ofNat (Nat.min n l))) ⟨h, H.n⟩) with h | ⟨h, h2, h3⟩
            · exact .inl h
            · rw [h]
              rcases Tr.put_spec z (.c (splV cs off vs) ty op) H.h b (fun h => K (.int .i64 (.ofNat (Nat.min n l))) ⟨h, H.n⟩) with h4 | ⟨h', h4, hh⟩
              · exact .inl h4
              · have hlen : (splV cs off vs).length = cs.length := by
                  rcases h2 with h2 | h2
                  · subst h2
                    simp [splV]
                  · exact splV_len h2
                refine .inr ⟨_, _, h4, OpS.setRow hb hh hlen fun G a' w pr jk ht hr hw hd hRm => runs ht fun cs' => ?_⟩
                obtain ⟨c', h1⟩ := den_sl G (some ⟨b, off, sp⟩) l c
                have h0 := hsrc G w w hr rfl
                obtain ⟨c2, h2'⟩ := den_sl G xb n xc
                rw [h2'] at h0
                have hst : (storeCells (dA G ⟨b, off, sp⟩) (vs.map (den G))).run P w = .ok () (w.setRow (G b).b (pr ++ (splV cs off vs).map (den G) ++ jk).toArray) := by
                  rcases h2 with h2 | h2
                  · subst h2
                    have e0 : splV cs off [] = cs := by simp [splV]
                    rw [e0, setRow_self w _ _ _ _ hw]
                    simp [storeCells]
                  · have hst := run_storeCells_at P (G b).b (off + pr.length) ty (vs.map (den G)) 0 _ w hw (by simp; omega) (fun x hx => by
                      obtain ⟨x', hx', rfl⟩ := List.mem_map.1 hx
                      rw [oneCell_den]
                      exact h3 x' hx')
                    simp only [Nat.add_zero] at hst
                    have sp1 := splV_mid pr (cs.map (den G)) jk (vs.map (den G)) off (by simpa using h2)
                    unfold splV at sp1
                    show (storeCells ⟨(G b).b, off + (G b).d, none⟩ _ 0).run P w = _
                    rw [hd, hst, sp1, splV_map]
                    rfl
                simp only [builtin, List.map_cons, List.map_nil, h1, h2', Option.map_some]
                have hm : Nat.min n l = min n l := rfl
                simp [Builtin.copy_, run_underlying he, Builtin.lenOf, sizeOf, typeInfo, hinf, hsz, h0, hst, goInt]
          · exact .inl rfl
        · exact .inl rfl
    · exact .inl rfl
  · exact .inl rfl
theorem ops_clear {cl : Call} {ts : List TypeId} {args : List Operand} {x : Value} (ho : o.op = .call cl) (hc : cl.callee = .builtin .clear) (hts : cl.argTypes.toList = ts) (hxs : cl.args.toList = args) (hok : ∀ x ∈ args, opdOk x = true) (hx : args.map (evT T) = [x])
    {K : Value → CH → β} : clearK P z ts x H K = z ∨ ∃ v H', clearK P z ts x H K = K v H' ∧ OpS P T m o H v H' := by
  have runs := fun {G : Gh} {a : Act} (ht : TR G T m a.tmps) {w w' v} h => call_runs (P := P) (m := m) ho hc hts hxs hok hx ht (w := w) (w' := w') (v := v) h
  unfold clearK
  split
  · rename_i t L a n c
    split
    · rename_i p hp
      obtain ⟨he, inf, hinf, hsz⟩ := tyE_is hp
      split
      · refine .inr ⟨_, H, rfl, OpP.s fun G a' w ht hr => runs ht fun cs => ?_⟩
        obtain ⟨c', h1⟩ := den_sl G a 0 c
        simp only [builtin, List.map_cons, List.map_nil, h1]
        have hu : den G (Value.tuple #[]) = Value.tuple #[] := den_undef G
        cases a <;> simp [Builtin.clear_, run_underlying he, undef, hu]
      · rename_i hn0
        split
        · refine .inr ⟨_, H, rfl, OpP.s fun G a' w ht hr => runs ht fun cs => ?_⟩
          simp only [builtin, List.map_cons, List.map_nil, den]
          have hu : den G (Value.tuple #[]) = Value.tuple #[] := den_undef G
          simp [Builtin.clear_, run_underlying he, undef, hu]
        · rename_i b off sp
          split
          · rename_i zs cs ty op hz hb
            obtain ⟨i, v0, hi, hzv, hcs, hlen, _, hzd⟩ := tyZero_is hz
            rw [hinf] at hi
            cases hi
            rcases setsK_spec (z := z) (zerosL zs n) cs off (fun cs => Tr.put z (.c cs ty op) H.h b fun h => K undef ⟨h, H.n⟩) with h | ⟨h, h2, h3⟩
            · exact .inl h
            · rw [h]
              rcases Tr.put_spec z (.c (splV cs off (zerosL zs n)) ty op) H.h b (fun h => K undef ⟨h, H.n⟩) with h4 | ⟨h', h4, hh⟩
              · exact .inl h4
              · have hlen2 : (splV cs off (zerosL zs n)).length = cs.length := by
                  rcases h2 with h2 | h2
                  · rw [h2]; simp [splV]
                  · exact splV_len h2
                refine .inr ⟨_, _, h4, OpS.setRow hb hh hlen2 fun G a' w pr jk ht hr hw hd hRm => runs ht fun cs' => ?_⟩
                have hzz := zerosL_den (hzd G) n
                have hst : (storeCells (dA G ⟨b, off, sp⟩) (zerosL zs n)).run P w = .ok () (w.setRow (G b).b (pr ++ (splV cs off (zerosL zs n)).map (den G) ++ jk).toArray) := by
                  rcases h2 with h2 | h2
                  · have e0 : splV cs off [] = cs := by simp [splV]
                    rw [h2, e0, setRow_self w _ _ _ _ hw]
                    simp [storeCells]
                  · have hst := run_storeCells_at P (G b).b (off + pr.length) ty (zerosL zs n) 0 _ w hw (by simp; omega) (fun x hx => h3 x hx)
                    simp only [Nat.add_zero] at hst
                    have sp1 := splV_mid pr (cs.map (den G)) jk (zerosL zs n) off (by simpa using h2)
                    unfold splV at sp1
                    show (storeCells ⟨(G b).b, off + (G b).d, none⟩ _ 0).run P w = _
                    rw [hd, hst, sp1, splV_map, hzz]
                    rfl
                have hzc : (Builtin.zeroCells v0.cells n).toList = zerosL zs n := by rw [zeroCells_toList, hcs]
                simp only [builtin, List.map_cons, List.map_nil, den]
                have hu : denL G [] = [] := rfl
                simp [Builtin.clear_, run_underlying he, zeroValue, typeInfo, hinf, hzv, hzc, hst, undef, den, hu]
          · exact .inl rfl
    · exact .inl rfl
  · exact .inl rfl
theorem ops_builtin {cl : Call} {b : Builtin} (ho : o.op = .call cl) (hc : cl.callee = .builtin b) (hok : ∀ x ∈ cl.args.toList, opdOk x = true) {K : Value → CH → β} : builtinK P z b cl.argTypes.toList (arrL (cl.args.map (evT T))) H K = z ∨ ∃ v H', builtinK P z b cl.argTypes.toList (arrL (cl.args.map (evT T))) H K = K v H' ∧ OpW P T m o H v H' := by
  have hargs : arrL (cl.args.map (evT T)) = cl.args.toList.map (evT T) := by rw [arrL_toList, Array.toList_map]
  rw [hargs]
  have eff : ∀ {r : β}, (r = z ∨ ∃ v H', r = K v H' ∧ OpS P T m o H v H') → isQ o.op = false → r = z ∨ ∃ v H', r = K v H' ∧ OpW P T m o H v H' := fun h hq => h.imp id fun ⟨v, H', h1, h2⟩ => ⟨v, H', h1, h2.w hq⟩
  unfold builtinK
  split
  · rename_i x hx
    rcases ops_len (P := P) (m := m) (H := H) (z := z) (K := K) ho hc rfl rfl hok hx with h | ⟨v, h, h2⟩
    · exact .inl h
    · exact .inr ⟨v, H, h, h2.w⟩
  · rename_i x hx
    rcases ops_cap (P := P) (m := m) (H := H) (z := z) (K := K) ho hc rfl rfl hok hx with h | ⟨v, h, h2⟩
    · exact .inl h
    · exact .inr ⟨v, H, h, h2.w⟩
  · rename_i s x hx
    generalize hL : cl.args.toList = L at hx hok
    match L, hx with
    | [p, q], hx =>
      injection hx with h1 h2
      injection h2 with h2 _
      subst h1
      subst h2
      exact eff (ops_append ho hc rfl hL (hok p (by simp)) (hok q (by simp))) (by simp [isQ, ho, hc])
  · rename_i d x hx
    exact eff (ops_copy ho hc rfl rfl hok hx) (by simp [isQ, ho, hc])
  · rename_i x hx
    exact eff (ops_clear ho hc rfl rfl hok hx) (by simp [isQ, ho, hc])
  · rename_i k a k' b' hx
    split
    · refine .inr ⟨_, H, rfl, OpP.w fun G a' w ht hr => call_runs ho hc rfl rfl hok hx ht fun cs => ?_⟩
      simp [builtin, Builtin.max_, Builtin.max2]
    · exact .inl rfl
  · rename_i k a k' b' hx
    split
    · refine .inr ⟨_, H, rfl, OpP.w fun G a' w ht hr => call_runs ho hc rfl rfl hok hx ht fun cs => ?_⟩
      simp [builtin, Builtin.min_, Builtin.min2]
    · exact .inl rfl
  · exact .inl rfl
theorem opV_specW (hok : ∀ x ∈ o.op.operands.toList, opdOk x = true) {K : Value → CH → β} : opV P z T o H K = z ∨ ∃ v H', opV P z T o H K = K v H' ∧ OpW P T m o H v H' := by
  have pure1 : ∀ {r : β} {K' : Value → β}, (∀ v, K' v = K v H) → (r = z ∨ ∃ v, r = K' v ∧ OpP P T m o H v) → r = z ∨ ∃ v H', r = K v H' ∧ OpW P T m o H v H' := fun hK h => h.imp id fun ⟨v, h1, h2⟩ => ⟨v, H, h1.trans (hK v), h2.w⟩
  have und1 : ∀ {r : β}, isQ o.op = false → (r = z ∨ ∃ H', r = K undef H' ∧ OpS P T m o H undef H') → r = z ∨ ∃ v H', r = K v H' ∧ OpW P T m o H v H' := fun hq h => h.imp id fun ⟨H', h1, h2⟩ => ⟨undef, H', h1, h2.w hq⟩
  have eff : ∀ {r : β}, (r = z ∨ ∃ v H', r = K v H' ∧ OpS P T m o H v H') → isQ o.op = false → r = z ∨ ∃ v H', r = K v H' ∧ OpW P T m o H v H' := fun h hq => h.imp id fun ⟨v, H', h1, h2⟩ => ⟨v, H', h1, h2.w hq⟩
  unfold opV
  split
  · rename_i x ho
    have hx : opdOk x = true := hok x (by simp [ho, Op.operands])
    exact .inr ⟨_, H, rfl, OpP.w <| OpP.mk fun G a w ht hr => by simp [execOp, ho, ev_den ht hx]⟩
  · rename_i x ho
    have hx : opdOk x = true := hok x (by simp [ho, Op.operands])
    exact .inr ⟨_, H, rfl, OpP.w <| OpP.mk fun G a w ht hr => by simp [execOp, ho, ev_den ht hx]⟩
  · rename_i c x y ho
    have hc : opdOk c = true := hok c (by simp [ho, Op.operands])
    have hx : opdOk x = true := hok x (by simp [ho, Op.operands])
    have hy : opdOk y = true := hok y (by simp [ho, Op.operands])
    split
    · rename_i cv hcv
      split
      · exact .inr ⟨_, H, rfl, OpP.w <| OpP.mk fun G a w ht hr => by
          have e := ev_den ht hc
          rw [hcv] at e
          simp [execOp, ho, e, asBool, ev_den ht hx]⟩
      · exact .inr ⟨_, H, rfl, OpP.w <| OpP.mk fun G a w ht hr => by
          have e := ev_den ht hc
          rw [hcv] at e
          simp [execOp, ho, e, asBool, ev_den ht hy]⟩
    · exact .inl rfl
  · rename_i t ho
    split
    · rename_i cs hz
      exact eff (ops_alloc ho hz) (by simp [isQ, ho])
    · exact .inl rfl
  · rename_i t x ho
    exact eff (ops_box ho (hok x (by simp [ho, Op.operands]))) (by simp [isQ, ho])
  · rename_i t ps ho
    exact pure1 (fun _ => rfl) (ops_build ho fun p hp => hok p.2 (by simp only [ho, Op.operands]; exact List.mem_map_of_mem hp))
  · rename_i t l ps ho
    exact eff (ops_buildSlice ho fun p hp => hok p.2 (by simp only [ho, Op.operands]; exact List.mem_map_of_mem hp)) (by simp [isQ, ho])
  · rename_i t x k v ho
    exact und1 (by simp [isQ, ho]) (ops_mapSet (.inl ho) (hok x (by simp [ho, Op.operands])) (hok k (by simp [ho, Op.operands])) (hok v (by simp [ho, Op.operands])))
  · rename_i t x k v ho
    exact und1 (by simp [isQ, ho]) (ops_mapSet (.inr ho) (hok x (by simp [ho, Op.operands])) (hok k (by simp [ho, Op.operands])) (hok v (by simp [ho, Op.operands])))
  · rename_i t x ho
    exact pure1 (fun _ => rfl) (ops_load ho (hok x (by simp [ho, Op.operands])))
  · rename_i t x y ho
    exact und1 (by simp [isQ, ho]) (ops_store ho (hok x (by simp [ho, Op.operands])) (hok y (by simp [ho, Op.operands])))
  · rename_i x ho
    have hx : opdOk x = true := hok x (by simp [ho, Op.operands])
    split
    · rename_i a ha
      exact .inr ⟨_, H, rfl, (ops_nilCheck ho hx ha (.inl ⟨a, rfl⟩)).w⟩
    · rename_i f a b ha
      exact .inr ⟨_, H, rfl, (ops_nilCheck ho hx ha (.inr ⟨f, a, b, rfl⟩)).w⟩
    · exact .inl rfl
  · rename_i op t x y t2 ho
    exact pure1 (fun _ => rfl) (ops_binOp ho (hok x (by simp [ho, Op.operands])) (hok y (by simp [ho, Op.operands])))
  · rename_i op t x ho
    exact pure1 (fun _ => rfl) (ops_not ho (hok x (by simp [ho, Op.operands])))
  · rename_i t d x ho
    exact pure1 (fun _ => rfl) (ops_conv ho (hok x (by simp [ho, Op.operands])))
  · rename_i f a b ho
    split
    · rename_i g
      exact .inr ⟨_, H, rfl, (ops_makeFunc ho (fun x hx => hok x (by simp [ho, Op.operands, Array.mem_toList_iff.1 hx])) (fun x hx => hok x (by simp [ho, Op.operands, Array.mem_toList_iff.1 hx]))).w⟩
    · exact .inl rfl
  · rename_i t r ho
    split
    · exact eff (ops_makeMap ho) (by simp [isQ, ho])
    · exact .inl rfl
  · rename_i t l c ho
    exact eff (ops_makeSlice ho (hok l (by simp [ho, Op.operands])) (hok c (by simp [ho, Op.operands]))) (by simp [isQ, ho])
  · rename_i t x lo hi mx ho
    exact ops_slice ho (hok x (by simp [ho, Op.operands])) (fun y hy => hok y (by simp [ho, Op.operands, hy])) (fun y hy => hok y (by simp [ho, Op.operands, hy])) (fun y hy => hok y (by simp [ho, Op.operands, hy]))
  · rename_i s x f ho
    exact pure1 (fun _ => rfl) (ops_fieldAddr ho (hok x (by simp [ho, Op.operands])))
  · rename_i s x f ho
    exact pure1 (fun _ => rfl) (ops_field ho (hok x (by simp [ho, Op.operands])))
  · rename_i t x i ho
    exact pure1 (fun _ => rfl) (ops_idxAddr ho (hok x (by simp [ho, Op.operands])) (hok i (by simp [ho, Op.operands])))
  · rename_i t x i ho
    exact pure1 (fun _ => rfl) (ops_index ho (hok x (by simp [ho, Op.operands])) (hok i (by simp [ho, Op.operands])))
  · rename_i t x i c ho
    exact pure1 (fun _ => rfl) (ops_lookup ho (hok x (by simp [ho, Op.operands])) (hok i (by simp [ho, Op.operands])))
  · rename_i x i ho
    split
    · rename_i vs hu
      split
      · rename_i v hv
        exact .inr ⟨_, H, rfl, (ops_extract ho (hok x (by simp [ho, Op.operands])) hu hv).w⟩
      · exact .inl rfl
    · exact .inl rfl
  · rename_i t x ho
    have hx : opdOk x = true := hok x (by simp [ho, Op.operands])
    split
    · rename_i hc
      refine .inr ⟨_, H, rfl, OpP.w <| OpP.mk fun G a w ht hr => ?_⟩
      have e := ev_den ht hx
      unfold tyCon at hc
      split at hc
      · cases hc
      · rename_i y hni hy
        cases y <;> first | exact absurd rfl (hni _) | simp [execOp, ho, Instr.makeInterface, run_underlying hy, e, den]
      · cases hc
    · exact .inl rfl
  · rename_i c ho
    split
    · rename_i b hb
      exact ops_builtin ho hb fun x hx => hok x (by simp [ho, Op.operands, Call.operands, hb, Array.mem_toList_iff.1 hx])
    · exact .inl rfl
  · exact .inl rfl
theorem opV_spec (hok : ∀ x ∈ o.op.operands.toList, opdOk x = true) {K : Value → CH → β} : opV P z T o H K = z ∨ ∃ v H', opV P z T o H K = K v H' ∧ OpS P T m o H v H' := (opV_specW (m := m) hok (K := K)).imp id fun ⟨v, H', h1, h2⟩ => ⟨v, H', h1, h2.1⟩
end
end Go.Proofs.YtmhnlkakbadkgaaGreat.Ck
namespace Go.Proofs.YtmhnlkakbadkgaaGreat.Ck
open Go Go.RowKit Go.Shelf
set_option maxRecDepth 100000
section
variable {P : Program} {F : Fence} {n : Nat} {b : Frame} {a : Act} {k : List Item} {cs : List Frame} {w : World}
theorem stepR_scope {c : Code} : Go.step P (lone (b.atR a (.code (.scope c) :: k)) cs w) = .next (lone (b.atR a (.code c :: .inScope c :: k)) cs w) :=
  step_lone_go (by simp [stepG, stepG.exec, Frame.atR])
theorem stepR_inScope {c : Code} : Go.step P (lone (b.atR a (.inScope c :: k)) cs w) = .next (lone (b.atR a k) cs w) :=
  step_lone_go (by simp [stepG, stepG.exec, Frame.atR])
def LoopW (F : Fence) (n : Nat) (P : Program) (c : Code) (Q : Exit → Act → World → Prop) (a : Act) (w : World) : Prop :=
  ∀ (b : Frame) (k : List Item) (cs : List Frame), b.roundOf = F.round → F.fn b.fn → F.room (cs.length + 1 + n) →
    ∃ e a' w', Q e a' w' ∧ ArrivesIn (Machine.fenced P F) P (lone (b.atR a (.code c :: .inLoop c :: k)) cs w) b k cs e a' w'
theorem LoopW.loop {c : Code} {Q : Exit → Act → World → Prop} (h : LoopW F n P c Q a w) : (Code.loop c).wpIn F n P Q a w := by
  intro b k cs hro hb hr
  obtain ⟨e, a', w', hq, harr⟩ := h b k cs hro hb hr
  exact ⟨e, a', w', hq, .of_steps (.one (fenced_calm hb hr rfl) stepR_loop) harr⟩
theorem LoopW.turn {c : Code} {Q : Exit → Act → World → Prop} (h : c.wpIn F n P (Exit.then (LoopW F n P c Q) Q) a w) : LoopW F n P c Q a w := by
  intro b k cs hro hb hr
  obtain ⟨e, a₁, w₁, hq, harr⟩ := h b (.inLoop c :: k) cs hro hb hr
  cases e with
  | normal =>
    obtain ⟨e₂, a₂, w₂, hq₂, harr₂⟩ := hq b k cs hro hb hr
    exact ⟨e₂, a₂, w₂, hq₂, .of_steps (StepsIn.trans harr (.one (fenced_calm hb hr rfl) stepR_inLoop)) harr₂⟩
  | exit id => exact ⟨_, a₁, w₁, hq, .pass (x := .inLoop c) rfl (fun _ _ => .inl (by simp)) harr⟩
  | goto l => exact ⟨_, a₁, w₁, hq, .pass (x := .inLoop c) rfl (fun _ _ => .inl (by simp)) harr⟩
  | ret => exact ⟨_, a₁, w₁, hq, .pass (x := .inLoop c) rfl (fun _ _ => .inl (by simp)) harr⟩
  | panic ch => exact ⟨_, a₁, w₁, hq, .pass (x := .inLoop c) rfl (fun _ _ => .inl (by simp)) harr⟩
  | outgrown => exact ⟨_, a₁, w₁, hq, .pass (x := .inLoop c) rfl (fun _ _ => .inl (by simp)) harr⟩
def ScW (F : Fence) (n : Nat) (P : Program) (s c : Code) (Q : Exit → Act → World → Prop) (a : Act) (w : World) : Prop :=
  ∀ (b : Frame) (k : List Item) (cs : List Frame), b.roundOf = F.round → F.fn b.fn → F.room (cs.length + 1 + n) →
    ∃ e a' w', Q e a' w' ∧ ArrivesIn (Machine.fenced P F) P (lone (b.atR a (.code c :: .inScope s :: k)) cs w) b k cs e a' w'
theorem ScW.scope {c : Code} {Q : Exit → Act → World → Prop} (h : ScW F n P c c Q a w) : (Code.scope c).wpIn F n P Q a w := by
  intro b k cs hro hb hr
  obtain ⟨e, a', w', hq, harr⟩ := h b k cs hro hb hr
  exact ⟨e, a', w', hq, .of_steps (.one (fenced_calm hb hr rfl) stepR_scope) harr⟩
def scPost (F : Fence) (n : Nat) (P : Program) (s : Code) (Q : Exit → Act → World → Prop) : Exit → Act → World → Prop
  | .goto l, a, w => match findLabel s l with
    | some rest => ScW F n P s rest Q a w
    | none => Q (.goto l) a w
  | e, a, w => Q e a w
theorem ScW.turn {s c : Code} {Q : Exit → Act → World → Prop} (h : c.wpIn F n P (scPost F n P s Q) a w) : ScW F n P s c Q a w := by
  intro b k cs hro hb hr
  obtain ⟨e, a₁, w₁, hq, harr⟩ := h b (.inScope s :: k) cs hro hb hr
  cases e with
  | normal => exact ⟨.normal, a₁, w₁, hq, StepsIn.trans harr (.one (fenced_calm hb hr rfl) stepR_inScope)⟩
  | exit id =>
    have hx : exitTo id (.inScope s :: k) = exitTo id k := by simp [exitTo]
    exact ⟨.exit id, a₁, w₁, hq, fun k' hk => harr.1 k' (by rw [hx]; exact hk), fun hr' hk => harr.2 hr' (by rw [hx]; exact hk)⟩
  | goto l =>
    simp only [scPost] at hq
    split at hq
    · rename_i rest hf
      have hg : gotoIn l (.inScope s :: k) = some (.code rest :: .inScope s :: k) := by simp [gotoIn, hf]
      obtain ⟨e₂, a₂, w₂, hq₂, harr₂⟩ := hq b k cs hro hb hr
      exact ⟨e₂, a₂, w₂, hq₂, .of_steps (harr.1 _ hg) harr₂⟩
    · rename_i hf
      have hx : gotoIn l (.inScope s :: k) = gotoIn l k := by simp [gotoIn, hf]
      exact ⟨.goto l, a₁, w₁, hq, fun k' hk => harr.1 k' (by rw [hx]; exact hk), fun hr' hk => harr.2 hr' (by rw [hx]; exact hk)⟩
  | ret => exact ⟨_, a₁, w₁, hq, harr⟩
  | panic ch => exact ⟨_, a₁, w₁, hq, harr⟩
  | outgrown => exact ⟨_, a₁, w₁, hq, harr⟩
end
def feR (r : Option Nat) : Fence := { Fence.wide with round := r }
def exD (G : Gh) : Ex → Exit
  | .normal => .normal
  | .exit i => .exit i
  | .goto l => .goto l
  | .ret => .ret
  | .panic v => .panic [{ v := den G v, recovered := false }]
  | .val _ => .outgrown
def QR (al : Nat → Prop) (G0 : Gh) (q : Option Nat) (r : Option Nat) : Prop := match q with
  | none => r = none
  | some b => al b ∧ r = some (G0 b).b
theorem QR.to {al al' : Nat → Prop} {G G' : Gh} {H H' : CH} {w w' : World} {q r : Option Nat} (h : QR al G q r) (ht : To al G H w al' G' H' w') : QR al' G' q r := by
  cases q with
  | none => exact h
  | some b => exact ⟨(ht.up b h.1).1, by rw [(ht.up b h.1).2]; exact h.2⟩
def Thence (al : Nat → Prop) (G0 : Gh) (H : CH) (w : World) (e : Ex) (F' : Fr) (H' : CH) (Q : Exit → Act → World → Prop) : Prop :=
  ∀ al' G' a' w', To al G0 H w al' G' H' w' → HS al' G' H' w' → FS al' G' F' a' → Q (exD G' e) a' w'
theorem Thence.to {al al1 : Nat → Prop} {G0 G1 : Gh} {H H1 H' : CH} {w w1 : World} {e : Ex} {F' : Fr} {Q : Exit → Act → World → Prop} (h : Thence al G0 H w e F' H' Q) (ht : To al G0 H w al1 G1 H1 w1) : Thence al1 G1 H1 w1 e F' H' Q :=
  fun al' G' a' w' h1 h2 h3 => h al' G' a' w' (ht.trans h1) h2 h3
section
variable (P : Program)
def CodeS (c : Code) (F : Fr) (H : CH) (e : Ex) (F' : Fr) (H' : CH) : Prop := F'.q = F.q ∧
  ∀ (r : Option Nat) (nn : Nat) al G0 a w Q, QR al G0 F.q r → FS al G0 F a → HS al G0 H w → Thence al G0 H w e F' H' Q → c.wpIn (feR r) nn P Q a w
def LoopS (c : Code) (F : Fr) (H : CH) (e : Ex) (F' : Fr) (H' : CH) : Prop := F'.q = F.q ∧
  ∀ (r : Option Nat) (nn : Nat) al G0 a w Q, QR al G0 F.q r → FS al G0 F a → HS al G0 H w → Thence al G0 H w e F' H' Q → LoopW (feR r) nn P c Q a w
def ScS (s c : Code) (F : Fr) (H : CH) (e : Ex) (F' : Fr) (H' : CH) : Prop := F'.q = F.q ∧
  ∀ (r : Option Nat) (nn : Nat) al G0 a w Q, QR al G0 F.q r → FS al G0 F a → HS al G0 H w → Thence al G0 H w e F' H' Q → ScW (feR r) nn P s c Q a w
def OpsL (all : Array Oper) (l : List Oper) (F : Fr) (H : CH) (e : Ex) (F' : Fr) (H' : CH) : Prop := F'.q = F.q ∧
  ∀ (r : Option Nat) (nn : Nat) al G0 a w Q, QR al G0 F.q r → FS al G0 F a → HS al G0 H w → Thence al G0 H w e F' H' Q → wpListIn (feR r) nn P all Q l a w
def FnS (g : FuncId) (args : List Value) (H : CH) (e : Ex) (H' : CH) : Prop :=
  ∀ (r : Option Nat) (nn : Nat) al G0 (vs : Array Value) w (R : Ending → World → Prop), (∀ G, Ag al G0 G → vs = ⟨args.map (den G)⟩) → HS al G0 H w →
    (∀ al' G' w', To al G0 H w al' G' H' w' → HS al' G' H' w' → match e with
      | .val v => ∀ u, (∀ G, Ag al' G' G → u = den G v) → R (.returned u) w'
      | .panic v => R (.panicked [{ v := den G' v, recovered := false }]) w'
      | _ => True) → (∃ v, e = .val v) ∨ (∃ v, e = .panic v) → CallsIn (feR r) nn P g vs w R
end
end Go.Proofs.YtmhnlkakbadkgaaGreat.Ck
