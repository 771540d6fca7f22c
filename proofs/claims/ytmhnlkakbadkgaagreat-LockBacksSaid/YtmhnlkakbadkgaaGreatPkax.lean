/- Part 24 of the proof of LockBacks: contracts of functions that the law reaches, or the rules by which they are walked. No condition. -/
import Derived.Test.YtmhnlkakbadkgaaGreatPkaw
import Derived.Test.YtmhnlkakbadkgaaGreatPkaf
import Derived.Test.YtmhnlkakbadkgaaGreatPkag
namespace Go.Proofs.YtmhnlkakbadkgaaGreat.Ck
open Go Go.RowKit Go.Shelf
set_option maxRecDepth 100000
structure Agr (ops : Array Oper) (dn M : Nat) (val : Nat → Value) (blk : Nat → Option Bk) (rk : Nat → Nat) (hc : Nat → CH) (val' : Nat → Value) (blk' : Nat → Option Bk) (rk' : Nat → Nat) (hc' : Nat → CH) : Prop where
  v : ∀ k, dn.testBit k = true → val' k = val k
  b : ∀ k, dn.testBit k = true → blk' k = blk k
  r : ∀ k, dn.testBit k = true → rk' k = rk k
  h : ∀ m, m ≤ M → hc' m = hc m
  l : ∀ k, dn.testBit k = false → k < ops.size → M ≤ rk' k
section
variable {P : Program} {β : Type} {z : β} {ih : Ev β} {K : Kont β} {ops : Array Oper} {an n0 : Nat} {F0 : Fr}
def Res (P : Program) (z : β) (K : Kont β) (ops : Array Oper) (an n0 : Nat) (F0 : Fr) (r : β) (dn M : Nat) (val : Nat → Value) (blk : Nat → Option Bk) (rk : Nat → Nat) (hc : Nat → CH) : Prop :=
  r = z ∨ ∃ (F1 : Fr) (H1 : CH) (val' : Nat → Value) (blk' : Nat → Option Bk) (rk' : Nat → Nat) (hc' : Nat → CH) (M' : Nat), r = K .normal F1 H1 ∧ Agr ops dn M val blk rk hc val' blk' rk' hc' ∧
    (∀ (i : Nat) (o : Oper), ops[i]? = some o → dn.testBit i = false → One P ops an n0 F0.T F0.m val' blk' rk' hc' i o) ∧ ∃ pd' dn' B' es', dn' + 1 = 2 ^ ops.size ∧ Pre ops an n0 F0 val' blk' rk' hc' M' pd' dn' F1 H1 B' es'
variable {val : Nat → Value} {blk : Nat → Option Bk} {rk : Nat → Nat} {hc hc1 : Nat → CH} {M M1 pd dn : Nat} {F F1 : Fr} {H H1 B : CH} {es : List (Nat × CH)} {i : Nat} {o : Oper} {v : Value} {bo : Option Bk} {r : β}
theorem Res.step (h : Res P z K ops an n0 F0 r (setB dn i) M1 (up1 val i v) (up1 blk i bo) (up1 rk i M) hc1) (ho : ops[i]? = some o) (hnd : dn.testBit i = false) (hM : M ≤ M1) (hh : ∀ m, m ≤ M → hc1 m = hc m)
    (one : ∀ (val' : Nat → Value) (blk' : Nat → Option Bk) (rk' : Nat → Nat) (hc' : Nat → CH), Agr ops dn M val blk rk hc val' blk' rk' hc' → val' i = v → blk' i = bo → rk' i = M → (∀ m, m ≤ M1 → hc' m = hc1 m) → One P ops an n0 F0.T F0.m val' blk' rk' hc' i o) : Res P z K ops an n0 F0 r dn M val blk rk hc := by
  rcases h with h | ⟨F1, H1, val', blk', rk', hc', M', h, hA, hO, hP⟩
  · exact .inl h
  · have bit : ∀ {k}, dn.testBit k = true → (setB dn i).testBit k = true := fun hk => (setB_bit _ i _).2 (.inr hk)
    have self : (setB dn i).testBit i = true := (setB_bit dn i i).2 (.inl rfl)
    have nbit : ∀ {k}, dn.testBit k = false → k ≠ i → (setB dn i).testBit k = false := fun {k} hk hne => by
      cases hx : (setB dn i).testBit k with
      | false => rfl
      | true => rw [dn_cases hx hne] at hk; cases hk
    have hA' : Agr ops dn M val blk rk hc val' blk' rk' hc' := ⟨fun k hk => (hA.v k (bit hk)).trans (up1_ne (ne_of_dn hnd hk)), fun k hk => (hA.b k (bit hk)).trans (up1_ne (ne_of_dn hnd hk)), fun k hk => (hA.r k (bit hk)).trans (up1_ne (ne_of_dn hnd hk)), fun m hm => (hA.h m (Nat.le_trans hm hM)).trans (hh m hm), fun k hk hs => by
      by_cases e : k = i
      · rw [e, hA.r i self, up1_self]; exact Nat.le_refl _
      · exact Nat.le_trans hM (hA.l k (nbit hk e) hs)⟩
    refine .inr ⟨F1, H1, val', blk', rk', hc', M', h, hA', fun k ok hk hkd => ?_, hP⟩
    by_cases e : k = i
    · subst e
      rw [ho] at hk
      cases hk
      exact one val' blk' rk' hc' hA' ((hA.v k self).trans (up1_self _ _ _)) ((hA.b k self).trans (up1_self _ _ _)) ((hA.r k self).trans (up1_self _ _ _)) hA.h
    · exact hO k ok hk (nbit hkd e)
theorem drawL_spec (hs : Sound P z ih) (hcl : Cl ops an) (hopk : ∀ (i : Nat) (o : Oper), ops[i]? = some o → opOk o = true) : ∀ (l : List Nat) (pd dn : Nat) (F : Fr) (H B : CH) (es : List (Nat × CH)) (val : Nat → Value) (blk : Nat → Option Bk) (rk : Nat → Nat) (hc : Nat → CH) (M : Nat),
    Pre ops an n0 F0 val blk rk hc M pd dn F H B es → Res P z K ops an n0 F0 (drawL P z ih ops an n0 K l pd dn F H B es) dn M val blk rk hc
  | [], pd, dn, F, H, B, es, val, blk, rk, hc, M, hp => by
    have e : drawL P z ih ops an n0 K [] pd dn F H B es = match Nat.beq (Nat.add dn 1) (Nat.pow 2 ops.size) with
      | true => K .normal F H
      | false => z := rfl
    rw [e]
    split
    · rename_i hb
      have hb : dn + 1 = 2 ^ ops.size := Nat.eq_of_beq_eq_true hb
      refine .inr ⟨F, H, val, blk, rk, hc, M, rfl, ⟨fun _ _ => rfl, fun _ _ => rfl, fun _ _ => rfl, fun _ _ => rfl, fun k hk hs => ?_⟩, fun k o hk hkd => ?_, pd, dn, B, es, hb, hp⟩
      · have e1 : dn = 2 ^ ops.size - 1 := by omega
        rw [e1, Nat.testBit_two_pow_sub_one] at hk
        simp at hk
        omega
      · have := (Array.getElem?_eq_some_iff.1 hk).1
        have e1 : dn = 2 ^ ops.size - 1 := by omega
        rw [e1, Nat.testBit_two_pow_sub_one] at hkd
        simp at hkd
        omega
    · exact .inl rfl
  | i :: l, pd, dn, F, H, B, es, val, blk, rk, hc, M, hp => by
    have e : drawL P z ih ops an n0 K (i :: l) pd dn F H B es = match ops[i]? with
      | some o => match sub (ancM an i) dn && !(Nat.testBit dn i) with
        | true => wantK z ops o F.T fun w => drawW P z ih an n0 i o w (drawL P z ih ops an n0 K l) pd dn F H B es
        | false => z
      | none => z := rfl
    rw [e]
    cases ho : ops[i]? with
    | none => exact .inl rfl
    | some o =>
    dsimp only
    split
    rotate_left
    · exact .inl rfl
    rename_i hg
    simp only [Bool.and_eq_true, Bool.not_eq_true'] at hg
    obtain ⟨hg1, hnd⟩ := hg
    have hanc : ∀ k, isAnc an k i = true → dn.testBit k = true := fun k hk => sub_spec hg1 hk
    have hok : ∀ x ∈ o.op.operands.toList, opdOk x = true := fun x hx => List.all_eq_true.1 (hopk i o ho) x hx
    have hds := hcl.ds i o ho
    rcases wantK_spec (z := z) (ops := ops) (o := o) (F := F) (K := fun w => drawW P z ih an n0 i o w (drawL P z ih ops an n0 K l) pd dn F H B es) with h | ⟨b, h, hw⟩
    · exact .inl h
    rw [h]
    clear h e
    have wn : ∀ {val' : Nat → Value}, (∀ k, dn.testBit k = true → val' k = val k) → Wn ops val' o b := fun {val'} ha => by
      unfold Wn
      cases hgd : o.guard with
      | none => rw [hgd] at hw; exact hw
      | some p =>
        obtain ⟨j, c⟩ := p
        rw [hgd] at hw
        obtain ⟨oj, d, e1, e2, e3⟩ := hw
        have hj := hanc j (hcl.grd i o j c ho hgd)
        refine ⟨oj, d, e1, e2, ?_⟩
        rw [e3, hp.slot1 j oj d hj e1 e2, ha j hj]
    -- an operation that is no effect
    have quiet : ∀ {v : Value} {H1 : CH} {bo : Option Bk} , isEff o = false → H1.n = H.n → (∀ k, H1.h.get k = if bo.isSome = true ∧ k = n0 + i then bo else H.h.get k) →
        (∀ (val' : Nat → Value) (blk' : Nat → Option Bk) (rk' : Nat → Nat) (hc' : Nat → CH), Agr ops dn M val blk rk hc val' blk' rk' hc' → val' i = v → blk' i = bo → rk' i = M →
          (b = false → v = undef ∧ bo = none) ∧ (b = true → ∃ T, Rst ops an F0.T val' T i o ∧ KdS P ops an n0 F0.m val' blk' rk' hc' i o T)) →
        Res P z K ops an n0 F0 (putF z o.dst v F fun F => drawL P z ih ops an n0 K l (setB pd i) (setB dn i) F H1 B es) dn M val blk rk hc := fun {v H1 bo} hE hn hh hone => by
      rcases putF_get (z := z) (d := o.dst) (v := v) (F := F) (K := fun F => drawL P z ih ops an n0 K l (setB pd i) (setB dn i) F H1 B es) with h | ⟨F1, h, hm, hD, hq, hlt, hT⟩
      · exact .inl h
      rw [h]
      refine Res.step (drawL_spec hs hcl hopk l _ _ F1 H1 B es _ _ _ _ M (hp.quiet hcl ho hnd hanc hE ⟨hm, hD, hq⟩ hT hn hh)) ho hnd (Nat.le_refl _) (fun _ _ => rfl) fun val' blk' rk' hc' hA e1 e2 e3 _ => ?_
      obtain ⟨o1, o2⟩ := hone val' blk' rk' hc' hA e1 e2 e3
      refine ⟨fun d hd => by rw [← hp.fr.1]; exact hlt d hd, b, wn hA.v, fun hb => ?_, o2⟩
      obtain ⟨f1, f2⟩ := o1 hb
      exact ⟨e1.trans f1, e2.trans f2, fun h => by rw [hE] at h; cases h⟩
    unfold drawW
    cases hkd : kdOf o.op with
    | e =>
      have hE : isEff o = true := by unfold isEff; rw [hkd]
      dsimp only
      unfold drawE
      split
      rotate_left
      · exact .inl rfl
      rename_i hok2
      have eff : ∀ {v : Value} {H1 : CH}, (∀ (val' : Nat → Value) (blk' : Nat → Option Bk) (rk' : Nat → Nat) (hc' : Nat → CH), Agr ops dn M val blk rk hc val' blk' rk' hc' → val' i = v → blk' i = none → rk' i = M → hc' (M + 1) = H1 →
          (b = false → v = undef ∧ PreH ops an n0 blk' rk' hc' i H1) ∧ (b = true → ∃ T, Rst ops an F0.T val' T i o ∧ KdS P ops an n0 F0.m val' blk' rk' hc' i o T)) →
          Res P z K ops an n0 F0 (putF z o.dst v F fun F => drawL P z ih ops an n0 K l 0 (setB dn i) F H1 H1 ((i, B) :: es)) dn M val blk rk hc := fun {v H1} hone => by
        rcases putF_get (z := z) (d := o.dst) (v := v) (F := F) (K := fun F => drawL P z ih ops an n0 K l 0 (setB dn i) F H1 H1 ((i, B) :: es)) with h | ⟨F1, h, hm, hD, hq, hlt, hT⟩
        · exact .inl h
        rw [h]
        refine Res.step (drawL_spec hs hcl hopk l _ _ F1 H1 H1 _ _ _ _ _ (M + 1) (hp.eff hcl ho hnd hanc hE hok2 ⟨hm, hD, hq⟩ hT)) ho hnd (Nat.le_succ _) (fun m hm => up1_ne (by omega)) fun val' blk' rk' hc' hA e1 e2 e3 e4 => ?_
        have e5 : hc' (M + 1) = H1 := (e4 (M + 1) (Nat.le_refl _)).trans (up1_self _ _ _)
        obtain ⟨o1, o2⟩ := hone val' blk' rk' hc' hA e1 e2 e3 e5
        refine ⟨fun d hd => by rw [← hp.fr.1]; exact hlt d hd, b, wn hA.v, fun hb => ?_, o2⟩
        obtain ⟨f1, f2⟩ := o1 hb
        exact ⟨e1.trans f1, e2, fun _ => by rw [e3, e5]; exact f2⟩
      have preh : ∀ {val' : Nat → Value} {blk' : Nat → Option Bk} {rk' : Nat → Nat} {hc' : Nat → CH}, Agr ops dn M val blk rk hc val' blk' rk' hc' → rk' i = M → PreH ops an n0 blk' rk' hc' i H := fun hA e3 =>
        hp.preH hcl ho hanc hok2 (fun k hk => ⟨hA.b k hk, hA.r k hk⟩) e3 (hA.h M (Nat.le_refl _)) hA.l rfl fun _ => rfl
      cases b with
      | false => exact eff fun val' blk' rk' hc' hA e1 e2 e3 e4 => ⟨fun _ => ⟨rfl, preh hA e3⟩, fun h => nomatch h⟩
      | true =>
        dsimp only
        rcases restrK_spec (z := z) (T := F.T) o.op.operands.toList .lf (fun T => effK P z ih T o H fun v H' => putF z o.dst v F fun F => drawL P z ih ops an n0 K l 0 (setB dn i) F H' H' ((i, B) :: es)) with h | ⟨T, h, t1, t2⟩
        · exact .inl h
        rw [h]
        have hT := restr_get t1 t2
        rcases effK_spec (m := F0.m) (T := T) hs hds hok (H := H) (K := fun v H' => putF z o.dst v F fun F => drawL P z ih ops an n0 K l 0 (setB dn i) F H' H' ((i, B) :: es)) with h | ⟨v, H', h, he⟩
        · exact .inl h
        rw [h]
        refine eff fun val' blk' rk' hc' hA e1 e2 e3 e4 => ⟨fun h => (nomatch h), fun _ => ⟨T, hp.rst hcl ho hnd hanc hA.v hT, ?_⟩⟩
        unfold KdS
        simp only [hkd]
        refine ⟨e2, H, preh hA e3, ?_⟩
        rw [e1, e3, e4]
        exact he
    | q =>
      have hE : isEff o = false := by unfold isEff; rw [hkd]
      dsimp only
      cases b with
      | false => exact quiet (bo := none) hE rfl (fun k => by rw [if_neg (by simp)]) fun val' blk' rk' hc' hA e1 e2 e3 => ⟨fun _ => ⟨rfl, rfl⟩, fun h => nomatch h⟩
      | true =>
        dsimp only
        unfold drawN
        generalize hK1 : (fun T : Tr Value => _) = K1
        rcases restrK_spec (z := z) (T := F.T) o.op.operands.toList .lf K1 with h | ⟨T, h, t1, t2⟩
        · exact .inl h
        rw [h, ← hK1]
        clear hK1 h
        have hT := restr_get t1 t2
        dsimp only
        generalize hK1 : (fun (v : Value) (H' : CH) => _) = K1
        rcases opV_specW (P := P) (z := z) (T := T) (m := F0.m) (H := ⟨.lf, 0⟩) hok (K := K1) with h | ⟨v, H', h, he⟩
        · exact .inl h
        rw [h, ← hK1]
        clear hK1 h
        dsimp only
        split
        rotate_left
        · exact .inl rfl
        rename_i hn0
        refine quiet (bo := none) hE rfl (fun k => by rw [if_neg (by simp)]) fun val' blk' rk' hc' hA e1 e2 e3 => ⟨fun h => (nomatch h), fun _ => ⟨T, hp.rst hcl ho hnd hanc hA.v hT, ?_⟩⟩
        unfold KdS
        simp only [hkd]
        rw [e1]
        exact ⟨e2, he.2.1 (kd_isQ _ (.inl hkd)) (Nat.eq_of_beq_eq_true hn0)⟩
    | l =>
      have hE : isEff o = false := by unfold isEff; rw [hkd]
      dsimp only
      cases b with
      | false => exact quiet (bo := none) hE rfl (fun k => by rw [if_neg (by simp)]) fun val' blk' rk' hc' hA e1 e2 e3 => ⟨fun _ => ⟨rfl, rfl⟩, fun h => nomatch h⟩
      | true =>
        dsimp only
        unfold drawN
        generalize hK1 : (fun T : Tr Value => _) = K1
        rcases restrK_spec (z := z) (T := F.T) o.op.operands.toList .lf K1 with h | ⟨T, h, t1, t2⟩
        · exact .inl h
        rw [h, ← hK1]
        clear hK1 h
        have hT := restr_get t1 t2
        dsimp only
        generalize hK1 : (fun (v : Value) (H' : CH) => _) = K1
        rcases opV_specW (P := P) (z := z) (T := T) (m := F0.m) (H := ⟨B.h, Nat.add n0 i⟩) hok (K := K1) with h | ⟨v, H', h, he⟩
        · exact .inl h
        rw [h, ← hK1]
        clear hK1 h
        dsimp only
        split
        rotate_left
        · exact .inl rfl
        rename_i hbk
        have hq := kd_isQ _ (.inr hkd)
        have hB := hp.B
        -- at each heap that it may meet
        have back : ∀ {rk' : Nat → Nat} {hc' : Nat → CH}, (∀ k, dn.testBit k = true → rk' k = rk k) → (∀ m, m ≤ M → hc' m = hc m) → ∀ j, j ≤ M → (∀ e, isE ops e → isAnc an e i = true → rk' e < j) →
            (H'.n = Nat.add n0 i → OpP P T F0.m o ⟨(hc' j).h, Nat.add n0 i⟩ v) ∧ (H'.n ≠ Nat.add n0 i → OpD P T F0.m o ⟨(hc' j).h, Nat.add n0 i⟩ v) := fun {rk' hc'} hr hh j hj hje => by
          rw [hh j hj]
          rcases Nat.lt_or_ge j M with hlt | hge
          · obtain ⟨hl, hes⟩ := hp.esf
            obtain ⟨p, hq2⟩ : ∃ p, es[M - 1 - j]? = some p := ⟨_, List.getElem?_eq_getElem (by omega)⟩
            obtain ⟨f1, f2, f3, f4⟩ := hes _ p hq2
            have := backOk_spec (P := P) (T := T) (m := F0.m) hok hq es hbk (M - 1 - j) p hq2 fun q' p' hq' hp' => by
              obtain ⟨g1, g2, g3, _⟩ := hes q' p' hp'
              cases hx : isAnc an p'.1 i with
              | false => rfl
              | true =>
                have := hje p'.1 g2 hx
                rw [hr p'.1 g1] at this
                omega
            have e1 : p.2 = hc j := by rw [f4]; congr 1; omega
            rw [e1] at this
            exact this
          · have : j = M := Nat.le_antisymm hj hge
            subst this
            rw [← hB]
            exact ⟨fun hn => he.2.1 hq hn, fun hn => he.2.2 hq hn⟩
        split
        · rename_i hn
          have hn := Nat.eq_of_beq_eq_true hn
          refine quiet (bo := none) hE rfl (fun k => by rw [if_neg (by simp)]) fun val' blk' rk' hc' hA e1 e2 e3 => ⟨fun h => (nomatch h), fun _ => ⟨T, hp.rst hcl ho hnd hanc hA.v hT, ?_⟩⟩
          unfold KdS
          simp only [hkd]
          rw [e1, e3]
          exact .inl ⟨e2, fun j hj hje => (back hA.r hA.h j hj hje).1 hn⟩
        · rename_i hn
          have hn : H'.n ≠ Nat.add n0 i := Nat.ne_of_beq_eq_false hn
          rcases Tr.put_spec z Bk.d H.h (Nat.add n0 i) (fun h => putF z o.dst v F fun F => drawL P z ih ops an n0 K l (setB pd i) (setB dn i) F ⟨h, H.n⟩ B es) with h | ⟨h', h, hh⟩
          · exact .inl h
          rw [h]
          refine quiet (bo := some .d) (H1 := ⟨h', H.n⟩) hE rfl (fun k => by
            rw [hh]
            by_cases e : k = Nat.add n0 i
            · rw [if_pos e, if_pos ⟨rfl, e⟩]
            · rw [if_neg e, if_neg fun h => e h.2]) fun val' blk' rk' hc' hA e1 e2 e3 => ⟨fun h => (nomatch h), fun _ => ⟨T, hp.rst hcl ho hnd hanc hA.v hT, ?_⟩⟩
          unfold KdS
          simp only [hkd]
          rw [e1, e3]
          exact .inr ⟨e2, fun j hj hje => (back hA.r hA.h j hj hje).2 hn⟩
    | n =>
      have hE : isEff o = false := by unfold isEff; rw [hkd]
      dsimp only
      cases b with
      | false => exact quiet (bo := none) hE rfl (fun k => by rw [if_neg (by simp)]) fun val' blk' rk' hc' hA e1 e2 e3 => ⟨fun _ => ⟨rfl, rfl⟩, fun h => nomatch h⟩
      | true =>
        dsimp only
        unfold drawN
        generalize hK1 : (fun T : Tr Value => _) = K1
        rcases restrK_spec (z := z) (T := F.T) o.op.operands.toList .lf K1 with h | ⟨T, h, t1, t2⟩
        · exact .inl h
        rw [h, ← hK1]
        clear hK1 h
        have hT := restr_get t1 t2
        dsimp only
        generalize hK1 : (fun (v : Value) (b : Bk) => _) = K1
        rcases newV_spec (P := P) (z := z) (T := T) (m := F0.m) hok (k := Nat.add n0 i) (K := K1) with h | ⟨v, bk, h, he⟩
        · exact .inl h
        rw [h, ← hK1]
        clear hK1 h
        dsimp only
        rcases Tr.put_spec z bk H.h (Nat.add n0 i) (fun h => putF z o.dst v F fun F => drawL P z ih ops an n0 K l (setB pd i) (setB dn i) F ⟨h, H.n⟩ B es) with h | ⟨h', h, hh⟩
        · exact .inl h
        rw [h]
        refine quiet (bo := some bk) (H1 := ⟨h', H.n⟩) hE rfl (fun k => by
          rw [hh]
          by_cases e : k = Nat.add n0 i
          · rw [if_pos e, if_pos ⟨rfl, e⟩]
          · rw [if_neg e, if_neg fun h => e h.2]) fun val' blk' rk' hc' hA e1 e2 e3 => ⟨fun h => (nomatch h), fun _ => ⟨T, hp.rst hcl ho hnd hanc hA.v hT, ?_⟩⟩
        unfold KdS
        simp only [hkd]
        rw [e1]
        exact ⟨bk, e2, he⟩
theorem draw_sound (hm : P.follows .mixedOrders = true) (hs : Sound P z ih) (ops : Array Oper) (F : Fr) (H : CH) (K : Kont β) : drawK P z ih ops F H K = z ∨ ∃ e F' H', drawK P z ih ops F H K = K e F' H' ∧ DrawS P ops F H e F' H' := by
  unfold drawK
  split
  rotate_left
  · exact .inl rfl
  rename_i hd
  obtain ⟨hcl, hac, hopk⟩ := cl_of hd
  have pre : Pre ops (ancs ops.toList) H.n F (fun _ => undef) (fun _ => none) (fun _ => 0) (fun _ => ⟨H.h, Nat.add H.n ops.size⟩) 0 0 0 F ⟨H.h, Nat.add H.n ops.size⟩ ⟨H.h, Nat.add H.n ops.size⟩ [] :=
    ⟨fun i h => by simp at h, fun i o t h => by simp at h, fun _ _ => rfl, ⟨rfl, rfl, rfl⟩, rfl, rfl, fun i b h => by simp at h, fun _ _ => rfl, fun i k h => by simp at h, ⟨rfl, fun q p h => by simp at h⟩, fun e h => by simp at h, fun i h => by simp at h, fun i e h => by simp at h, fun i h => by simp at h, fun i h => by simp at h⟩
  rcases drawL_spec (K := K) hs hcl hopk (lateOrder ops.toList (ancs ops.toList)) 0 0 F _ _ [] _ _ _ _ 0 pre with h | ⟨F1, H1, val, blk, rk, hc, M, h, hA, hO, pd, dn, B, es, hdn, hp⟩
  · exact .inl h
  refine .inr ⟨.normal, F1, H1, h, hp.fr.2.2, fun id r nn al G0 a w Q hq hf hS hT => ?_⟩
  have e1 : dn = 2 ^ ops.size - 1 := by omega
  have all : ∀ (i : Nat) (o : Oper), ops[i]? = some o → dn.testBit i = true := fun i o ho => by
    have := (Array.getElem?_eq_some_iff.1 ho).1
    rw [e1, Nat.testBit_two_pow_sub_one]
    simpa using this
  have allE : ∀ e, isE ops e → dn.testBit e = true := fun e ⟨o, ho, _⟩ => all e o ho
  have plan : Plan P ops (ancs ops.toList) H.n F.T F.m val blk rk hc M F1.T H1 := by
    refine ⟨fun i o ho => hO i o ho (by simp), fun i o e ho he hne hr => hp.ord i e (all i o ho) (allE e he) he hne hr, fun e he => (hp.top e (allE e he) he).1, fun j hj => ?_, fun i o t ho hd => hp.slot1 i o t (all i o ho) ho hd, fun t ht => hp.slot2 t fun i o _ => ht i o, hp.n, fun i b o ho hb hbk => ?_, fun k hk => ?_⟩
    · obtain ⟨hl, hes⟩ := hp.esf
      obtain ⟨p, hq2⟩ : ∃ p, es[M - 1 - j]? = some p := ⟨_, List.getElem?_eq_getElem (by omega)⟩
      obtain ⟨f1, f2, f3, f4⟩ := hes _ p hq2
      exact ⟨p.1, f2, by omega⟩
    · refine hp.h1 i b ?_ hbk
      cases hx : pd.testBit i with
      | true => rfl
      | false =>
        obtain ⟨e, h1, h2, h3⟩ := hp.pd2 i (all i o ho) hx
        exact absurd ⟨e, h2, (hp.top e h1 h2).1, h3⟩ hb
    · refine hp.h2 k fun i e hi => ?_
      obtain ⟨h1, h2⟩ := hp.pd1 i hi
      obtain ⟨o, ho⟩ := hp.ex i h1
      refine hk i o e ho fun ⟨e', h3, h4, h5⟩ => ?_
      obtain ⟨h6, h7⟩ := h2 e' (allE e' h3) h3
      rcases h5 with h5 | h5
      · exact h7 h5
      · rw [h6] at h5; cases h5
  exact draw_run hm hac hcl plan ⟨hp.fr.1, hp.fr.2.1⟩ (hA.h 0 (Nat.le_refl _)) id r nn al G0 a w Q hf hS hT
end
end Go.Proofs.YtmhnlkakbadkgaaGreat.Ck
namespace Go.Proofs.YtmhnlkakbadkgaaGreat.Ck
open Go Go.RowKit Go.Shelf
set_option maxRecDepth 100000
section
variable {P : Program} {β : Type} {z : β} {cau : FuncId → Bool} {te : TypeId} {kn : Kn}
theorem ev_sound (hm : P.follows .mixedOrders = true) (hkn : KnS P kn) (hcau : ∀ g, cau g = true → CaughtIdle P g ∧ CaughtUp P g te te) : ∀ f, Sound P z (ev P z cau te kn f)
  | 0 => fun _ _ _ _ => .inl rfl
  | f + 1 => step_sound (ev_sound hm hkn hcau f) hkn hcau fun ops F H K => draw_sound hm (ev_sound hm hkn hcau f) ops F H K
end
theorem calls_of_ev {P : Program} {cau : FuncId → Bool} {te : TypeId} {kn : Kn} {g : FuncId} {fuel : Nat} (hs : Sound P false (ev P false cau te kn fuel))
    (h : (ev P false cau te kn fuel (.fn g []) noF ⟨.lf, 0⟩ fun e _ _ => match e with
      | .val (.bool b) => b
      | _ => false) = true) (w : World) (R : Ending → World → Prop)
    (hR : ∀ w', w'.os = w.os → w'.tape = w.tape → w'.output = w.output → w.heap.size ≤ w'.heap.size → (∀ b, b < w.heap.size → w'.heap[b]? = w.heap[b]?) → R (.returned (.bool true)) w') : Calls P g #[] w R := by
  rcases hs (.fn g []) noF ⟨.lf, 0⟩ (fun e _ _ => match e with
      | .val (.bool b) => b
      | _ => false) with h1 | ⟨e, F', H', h1, hfn⟩
  · rw [h] at h1
    cases h1
  · rw [h] at h1
    split at h1
    · rename_i b
      subst h1
      refine (callsIn_wide (n := 8)).1 ?_
      have := hfn none 8 (fun _ => False) (fun _ => ⟨0, 0, 0, 0, 0⟩) #[] w R (fun G _ => rfl) ⟨fun _ h => h.elim, fun k b hk => by simp at hk, fun G _ => ⟨fun k b hk => by simp at hk, fun k k' b b' hk => by simp at hk⟩⟩
        (fun al' G' w' t1 _ u hu => by
          have hu1 := hu G' .rfl
          subst hu1
          exact hR w' t1.os t1.tape t1.output t1.size fun b hb => t1.keep b hb fun ⟨k, x, hk, _⟩ => by simp at hk) (.inl ⟨_, rfl⟩)
      exact this
    · cases h1
theorem cm_of_ev {P : Program} {cau : FuncId → Bool} {te : TypeId} {kn : Kn} {g : FuncId} {fuel : Nat} (hs : Sound P false (ev P false cau te kn fuel))
    (h : (ev P false cau te kn fuel (.fn g []) noF ⟨.lf, 0⟩ fun e _ _ => match e with
      | .val (.bool b) => b
      | _ => false) = true) : Cm P g [] [] [] (rets (.bool true)) := fun A w _ _ hA _ =>
  calls_of_ev hs h w _ fun w' h1 h2 h3 h4 h5 => ⟨[], [], ⟨rfl, rfl⟩, ⟨h1, h2, h3, h4, fun b hb _ => h5 b hb⟩, rfl, fun i x c hx => by simp at hx, A, fun b hb => .inl hb, fun b hb => Nat.lt_of_lt_of_le (hA b hb) h4, fun f hf => by cases hf⟩
end Go.Proofs.YtmhnlkakbadkgaaGreat.Ck
namespace Go.Proofs.YtmhnlkakbadkgaaGreat.Ck
open Go Go.RowKit Go.Shelf
set_option maxRecDepth 100000
def isV (r : Value) : Ex → Bool
  | .val v => eqVal v r
  | _ => false
theorem isV_spec {r : Value} {e : Ex} (h : isV r e = true) : e = .val r := by
  cases e with
  | val v => rw [eqVal_eq v r h]
  | _ => cases h
section
variable {P : Program} {cau : FuncId → Bool} {te : TypeId} {kn : Kn} {g : FuncId} {fuel : Nat}
theorem cm_of_evA (hs : Sound P false (ev P false cau te kn fuel)) {bs us : List Value} {n : Nat} {G0 : Gh} (hu : ∀ G, Ag (fun k => k < n) G0 G → us = bs.map (den G)) {r : Value} (hr : plainV r = true)
    (h : (ev P false cau te kn fuel (.fn g bs) noF ⟨.lf, n⟩ fun e _ _ => isV r e) = true) : Cm P g us [] [] (rets r) := fun A w _ _ hA _ => by
  rcases hs (.fn g bs) noF ⟨.lf, n⟩ (fun e _ _ => isV r e) with h1 | ⟨e, F', H', h1, hfn⟩
  · rw [h] at h1
    cases h1
  · rw [h] at h1
    have := isV_spec h1.symm
    subst this
    refine (callsIn_wide (n := 8)).1 ?_
    refine hfn none 8 (fun k => k < n) G0 us.toArray w _ (fun G hG => by rw [hu G hG]) ⟨fun _ h => h, fun k b hk => by simp at hk, fun G _ => ⟨fun k b hk => by simp at hk, fun k k' b b' hk => by simp at hk⟩⟩
      (fun al' G' w' t1 _ u hu' => ?_) (.inl ⟨_, rfl⟩)
    have e1 : u = r := (hu' G' .rfl).trans (den_plain G' r hr)
    subst e1
    exact ⟨[], [], ⟨rfl, rfl⟩, ⟨t1.os, t1.tape, t1.output, t1.size, fun b hb _ => t1.keep b hb fun ⟨k, x, hk, _⟩ => by simp at hk⟩, rfl, fun i x c hx => by simp at hx, A, fun b hb => .inl hb, fun b hb => Nat.lt_of_lt_of_le (hA b hb) t1.size, fun f hf => by cases hf⟩
end
end Go.Proofs.YtmhnlkakbadkgaaGreat.Ck
namespace Go.Proofs.YtmhnlkakbadkgaaGreat
open Go.RowKit Go.Shelf
set_option maxRecDepth 100000
theorem ret_int {z z' : Int} (h : z = z') : Ending.returned (.int .i64 z) = .returned (.int .i64 z') := by rw [h]
def modeB (m : Int) : Bool := decide (0 ≤ m) && decide (m ≤ 5)
theorem modeB_iff {m : Int} : modeB m = true ↔ 0 ≤ m ∧ m ≤ 5 := by simp [modeB]
theorem modeB_cases {m : Int} (h : modeB m = true) : m = 0 ∨ m = 1 ∨ m = 2 ∨ m = 3 ∨ m = 4 ∨ m = 5 := by rw [modeB_iff] at h; omega
def fitsM (a b : Int) : Bool := if a = 0 ∨ b = 0 then true else if a = 5 ∨ b = 5 then false else if a = 1 ∨ b = 1 then true else decide (a = b) && decide (a ≠ 4)
theorem modeIs_c (m : Int) : Cm Tryz.prog 155 [.int .i64 m] [] [] (rets (.bool (modeB m))) := by
  refine cm_of (tab := tb) (ok := tbOk) [.o (.v (.int .i64 m))] Tryz.func155 Tryz.ntmps155 rfl rfl (fun _ _ => rfl) ?_
  intro w0 A0
  repeat' (first | (refine endR_ok [] rfl rfl ⟨rfl, rfl⟩ rfl (fun _ => ⟨ret_bool ?_, rfl⟩) (by simp); first | (simp [modeB, *]; done) | (rw [Bool.eq_iff_iff]; simp [modeB]; omega)) | refine brB_dec (fun _ => ?_) (fun _ => ?_))
def modeE (m : Int) : Int := bif modeB m then 0 else 130
theorem modeCheck_c (m : Int) : Cm Tryz.prog 91 [.int .i64 m] [] [] (rets (.int .i64 (modeE m))) := by
  refine cm_of (tab := tb) (ok := tbOk) [.o (.v (.int .i64 m))] Tryz.func91 Tryz.ntmps91 rfl rfl (fun _ _ => rfl) ?_
  intro w0 A0
  refine ojs_call [] [] rfl rfl rfl rfl rfl rfl rfl (by simp) (fun _ => modeIs_c m) (by simp) (.inl rfl) ?_
  rintro e cs F1 _ ⟨rfl, rfl⟩
  unfold modeE
  cases h : modeB m
  · exact endR_ok [] rfl rfl ⟨rfl, rfl⟩ rfl (fun _ => ⟨rfl, rfl⟩) (by simp)
  · exact endR_ok [] rfl rfl ⟨rfl, rfl⟩ rfl (fun _ => ⟨rfl, rfl⟩) (by simp)
theorem pairE {f : Nat} (v : Value) (r : Bool) (h : (Ck.plainV v && Ck.ev Tryz.prog false (fun _ => false) 0 Ck.kn0 10000 (.fn f [v]) Ck.noF ⟨.lf, 0⟩ fun e _ _ => Ck.isV (.bool r) e) = true) : Cm Tryz.prog f [v] [] [] (rets (.bool r)) := by
  rw [Bool.and_eq_true] at h
  exact Ck.cm_of_evA (G0 := fun _ => ⟨0, 0, 0, 0, 0⟩) (Ck.ev_sound (by kernel_rfl) Ck.kn0S (fun g h => by cases h) _) (fun G _ => by rw [List.map_cons, Ck.den_plain G v h.1]; rfl) rfl h.2
theorem pairFit_c (a b : Int) (ha : modeB a = true) (hb : modeB b = true) : Cm Tryz.prog 304 [.agg #[.int .i64 a, .int .i64 b]] [] [] (rets (.bool (fitsM a b))) := by
  rcases modeB_cases ha with rfl | rfl | rfl | rfl | rfl | rfl <;> rcases modeB_cases hb with rfl | rfl | rfl | rfl | rfl | rfl <;> exact pairE _ _ (by kernel_rfl)
theorem modeFits_c (a b : Int) : Cm Tryz.prog 284 [.int .i64 a, .int .i64 b] [] [] (rets (.tuple #[.bool (modeB a && modeB b && fitsM a b), .int .i64 (bif modeB a && modeB b then 0 else 130)])) := by
  refine cm_of (tab := tb) (ok := tbOk) [.o (.v (.int .i64 a)), .o (.v (.int .i64 b))] Tryz.func284 Tryz.ntmps284 rfl rfl (fun _ _ => rfl) ?_
  intro w0 A0
  refine ojs_inl Tryz.func159 Tryz.ntmps159 rfl rfl rfl rfl rfl rfl rfl ?_
  intro w1 A1 M1 N1 hN1
  refine cjs_scopeF 0 rfl rfl ?_
  refine ojs_call [] [] rfl rfl rfl rfl rfl rfl rfl (by simp) (fun _ => modeIs_c a) (by simp) (.inl rfl) ?_
  rintro e cs F1 _ ⟨rfl, rfl⟩
  cases ha : modeB a
  · refine ⟨rfl, ?_⟩
    refine ⟨rfl, ?_⟩
    exact endR_ok [] rfl rfl ⟨rfl, rfl⟩ rfl (fun _ => ⟨rfl, rfl⟩) (by simp)
  refine ojs_call [] [] rfl rfl rfl rfl rfl rfl rfl (by simp) (fun _ => modeIs_c b) (by simp) (.inl rfl) ?_
  rintro e cs F1 _ ⟨rfl, rfl⟩
  cases hb : modeB b
  · refine ⟨rfl, ?_⟩
    refine ⟨rfl, ?_⟩
    exact endR_ok [] rfl rfl ⟨rfl, rfl⟩ rfl (fun _ => ⟨rfl, rfl⟩) (by simp)
  refine ojs_call [] [] rfl rfl rfl rfl rfl rfl rfl (by simp) (fun _ => pairFit_c a b ha hb) (by simp) (.inl rfl) ?_
  rintro e cs F1 _ ⟨rfl, rfl⟩
  refine ⟨rfl, ?_⟩
  exact endR_ok [] rfl rfl ⟨rfl, rfl⟩ rfl (fun _ => ⟨rfl, rfl⟩) (by simp)
structure Ctr where
  value : Int
  floor : Int
  version : Int
def ctrL (c : Ctr) : List Value := [.int .i64 c.value, .int .i64 c.floor, .int .u64 c.version]
def ctrB (c : Ctr) : Bool := decide (c.floor ≤ c.value) && decide (c.version ≤ 4611686018427387904)
def ctrE (c : Ctr) : Int := bif ctrB c then 0 else 2
theorem ctrCheck_c (c : Ctr) : Cm Tryz.prog 31 [.agg (ctrL c).toArray] [] [] (rets (.int .i64 (ctrE c))) := by
  refine cm_of (tab := tb) (ok := tbOk) [.g [.v (.int .i64 c.value), .v (.int .i64 c.floor), .v (.int .u64 c.version)]] Tryz.func31 Tryz.ntmps31 rfl rfl (fun _ _ => rfl) ?_
  intro w0 A0
  refine ojs_inl Tryz.func69 Tryz.ntmps69 rfl rfl rfl rfl rfl rfl rfl ?_
  intro w1 A1 M1 N1 hN1
  refine brB_dec (fun g1 => ?_) (fun g1 => ?_)
  · refine ⟨rfl, ?_⟩
    refine brB_split (fun g2 => ?_) (fun g2 => ?_)
    · exact endR_ok [] rfl rfl ⟨rfl, rfl⟩ rfl (fun _ => ⟨ret_int (by (simp at *; unfold ctrE; cases hcb : ctrB c <;> first | rfl | (exfalso; simp [ctrB] at hcb; omega))), rfl⟩) (by simp)
    · exact endR_ok [] rfl rfl ⟨rfl, rfl⟩ rfl (fun _ => ⟨ret_int (by (simp at *; unfold ctrE; cases hcb : ctrB c <;> first | rfl | (exfalso; simp [ctrB] at hcb; omega))), rfl⟩) (by simp)
  · refine ⟨rfl, ?_⟩
    exact endR_ok [] rfl rfl ⟨rfl, rfl⟩ rfl (fun _ => ⟨ret_int (by (simp at *; unfold ctrE; cases hcb : ctrB c <;> first | rfl | (exfalso; simp [ctrB] at hcb; omega))), rfl⟩) (by simp)
theorem refCtr_c (c : Ctr) : Cm Tryz.prog 119 [.agg (ctrL c).toArray] [] [] (rets (.bool (ctrB c))) := by
  refine cm_of (tab := tb) (ok := tbOk) [.g [.v (.int .i64 c.value), .v (.int .i64 c.floor), .v (.int .u64 c.version)]] Tryz.func119 Tryz.ntmps119 rfl rfl (fun _ _ => rfl) ?_
  intro w0 A0
  repeat' (first | (refine endR_ok [] rfl rfl ⟨rfl, rfl⟩ rfl (fun _ => ⟨ret_bool ?_, rfl⟩) (by simp); first | (simp [ctrB, *]; done) | (rw [Bool.eq_iff_iff]; simp [ctrB]; omega)) | refine brB_dec (fun _ => ?_) (fun _ => ?_))
theorem refMode_c (m : Int) : Cm Tryz.prog 179 [.int .i64 m] [] [] (rets (.bool (modeB m))) := by
  refine cm_of (tab := tb) (ok := tbOk) [.o (.v (.int .i64 m))] Tryz.func179 Tryz.ntmps179 rfl rfl (fun _ _ => rfl) ?_
  intro w0 A0
  repeat' (first | (refine endR_ok [] rfl rfl ⟨rfl, rfl⟩ rfl (fun _ => ⟨ret_bool ?_, rfl⟩) (by simp); first | (simp [modeB, *]; done) | (rw [Bool.eq_iff_iff]; simp [modeB]; omega)) | refine brB_dec (fun _ => ?_) (fun _ => ?_))
end Go.Proofs.YtmhnlkakbadkgaaGreat
