/- Part 21 of the proof of LockBacks: contracts of functions that the law reaches, or the rules by which they are walked. No condition. -/
import Derived.Test.YtmhnlkakbadkgaaGreatPkat
namespace Go.Proofs.YtmhnlkakbadkgaaGreat.Ck
open Go Go.RowKit Go.Shelf
set_option maxRecDepth 100000
section
variable {P : Program} {ops : Array Oper} {an n0 : Nat} {T0 : Tr Value} {m0 : Nat} {val : Nat → Value} {blk : Nat → Option Bk} {rk : Nat → Nat} {hc : Nat → CH}
variable {M : Nat} {T1 : Tr Value} {H1 : CH} {alI : Nat → Prop} {Gi : Gh} {gI : Hf} {nI : Nat} {wI : World} {a0 : Act} {done : Nat → Bool} {j : Nat} {al : Nat → Prop} {G0 : Gh} {a : Act} {w : World}
theorem upd_iff {i k : Nat} : upd done i k = true ↔ k = i ∨ done k = true := by
  by_cases e : k = i
  · subst e; simp [upd_self]
  · rw [upd_ne e]; simp [e]
theorem xD_congr {D D' : Nat → Prop} (h : ∀ i, (blk i).isSome = true → (D i ↔ D' i)) (j k : Nat) : xD ops an n0 blk rk D j k ↔ xD ops an n0 blk rk D' j k := by
  unfold xD
  constructor
  · rintro ⟨h1, h2, h3, h4⟩; exact ⟨h1, (h _ h4).1 h2, h3, h4⟩
  · rintro ⟨h1, h2, h3, h4⟩; exact ⟨h1, (h _ h4).2 h2, h3, h4⟩
theorem alD_congr {D D' : Nat → Prop} (h : ∀ i, (blk i).isSome = true → (D i ↔ D' i)) (al : Nat → Prop) (j : Nat) : alD ops an n0 blk rk al D j = alD ops an n0 blk rk al D' j := by
  funext k
  unfold alD
  rw [propext (xD_congr h j k)]
theorem gD_congr {D D' : Nat → Prop} (h : ∀ i, (blk i).isSome = true → (D i ↔ D' i)) (j : Nat) : gD ops an n0 blk rk hc D j = gD ops an n0 blk rk hc D' j := by
  funext k
  unfold gD
  by_cases hx : xD ops an n0 blk rk D j k
  · rw [if_pos hx, if_pos ((xD_congr h j k).1 hx)]
  · rw [if_neg hx, if_neg fun h' => hx ((xD_congr h j k).2 h')]
theorem gD_pos {D : Nat → Prop} {j k : Nat} (h : xD ops an n0 blk rk D j k) : gD ops an n0 blk rk hc D j k = blk (k - n0) := if_pos h
theorem gD_neg {D : Nat → Prop} {j k : Nat} (h : ¬ xD ops an n0 blk rk D j k) : gD ops an n0 blk rk hc D j k = (hc j).h.get k := if_neg h
theorem xD_at {D : Nat → Prop} {j i : Nat} : xD ops an n0 blk rk D j (n0 + i) ↔ D i ∧ ¬ bas ops an rk j i ∧ (blk i).isSome = true := by
  unfold xD
  rw [Nat.add_sub_cancel_left]
  simp
theorem xD_mono {D D' : Nat → Prop} (h : ∀ i, D i → D' i) {j k : Nat} (hx : xD ops an n0 blk rk D j k) : xD ops an n0 blk rk D' j k := ⟨hx.1, h _ hx.2.1, hx.2.2⟩
def wo (D : Nat → Prop) (i k : Nat) : Prop := D k ∧ k ≠ i
theorem wo_fit (_h : Inv ops an n0 m0 val blk rk hc M alI Gi gI nI wI a0 done j al G0 a w) {i : Nat} (hx : Next ops an rk done j i) {D : Nat → Prop} (h1 : ∀ k, D k → upd done i k = true) (h2 : ∀ k, bas ops an rk j k → D k) (h3 : ∀ k l, D k → isAnc an l k = true → D l) :
    (∀ k, wo D i k → done k = true) ∧ (∀ k, bas ops an rk j k → wo D i k) ∧ (∀ k l, wo D i k → isAnc an l k = true → wo D i l) ∧ (D i → ∀ k, needs ops an rk j i k → wo D i k) := by
  have hd : ∀ k, wo D i k → done k = true := fun k hk => (upd_iff.1 (h1 k hk.1)).resolve_left hk.2
  refine ⟨hd, fun k hk => ⟨h2 k hk, fun e => hx.nb (e ▸ hk)⟩, fun k l hk hl => ⟨h3 k l hk.1 hl, fun e => ?_⟩, fun hi k hk => ⟨?_, fun e => hx.ni (e ▸ hk)⟩⟩
  · subst e
    have := hx.up k (hd k hk)
    rw [hl] at this; cases this
  · rcases hk with hk | hk
    · exact h3 i k hi hk
    · exact h2 k hk
theorem ex_upd (h : Inv ops an n0 m0 val blk rk hc M alI Gi gI nI wI a0 done j al G0 a w) {i : Nat} {o : Oper} (ho : ops[i]? = some o) : ∀ k, upd done i k = true → ∃ o : Oper, ops[k]? = some o := fun k hk => by
  rcases upd_iff.1 hk with rfl | hk
  · exact ⟨o, ho⟩
  · exact h.ex k hk
theorem cl_upd (h : Inv ops an n0 m0 val blk rk hc M alI Gi gI nI wI a0 done j al G0 a w) {i : Nat} (hx : Next ops an rk done j i) : ∀ k l, upd done i k = true → isAnc an l k = true → upd done i l = true := fun k l hk hl => by
  rcases upd_iff.1 hk with rfl | hk
  · exact upd_old (hx.anc l hl)
  · exact upd_old (h.cl k l hk hl)
theorem old_upd (h : Inv ops an n0 m0 val blk rk hc M alI Gi gI nI wI a0 done j al G0 a w) {i : Nat} {o : Oper} (ho : ops[i]? = some o) (u : Value) : ∀ t, (∀ (k : Nat) (o' : Oper), upd done i k = true → ops[k]? = some o' → o'.dst ≠ some t) → (a.put o.dst u).tmps.getD t undef = a0.tmps.getD t undef := fun t ht => by
  rw [put_get_ne (ht i o (upd_self done i) ho)]
  exact h.old t fun k o' hk => ht k o' (upd_old hk)
theorem slot_upd (hcl : Cl ops an) {i k : Nat} {o ok : Oper} {d : Nat} {u : Value} (ho : ops[i]? = some o) (hk : ops[k]? = some ok) (hne : k ≠ i) (hd : ok.dst = some d) : (a.put o.dst u).tmps.getD d undef = a.tmps.getD d undef :=
  put_get_ne (hcl.slot k i ok o d hk ho hne hd).1
theorem slot_new {o : Oper} {d : Nat} {u : Value} (hsz : a.tmps.size = m0) (hd : o.dst = some d) (hm : ∀ d, o.dst = some d → d < m0) : (a.put o.dst u).tmps.getD d undef = u := by
  rw [hd, put_get (by rw [hsz]; exact hm d hd), if_pos rfl]
theorem Inv.quiet (hcl : Cl ops an) (h : Inv ops an n0 m0 val blk rk hc M alI Gi gI nI wI a0 done j al G0 a w) {i : Nat} {o : Oper} (ho : ops[i]? = some o) (hx : Next ops an rk done j i) (hE : isEff o = false) (hb : blk i = none) (hm : ∀ d, o.dst = some d → d < m0)
    {u : Value} (hu : ∀ G, Ag (alD ops an n0 blk rk al (needs ops an rk j i) j) G0 G → u = den G (val i)) : Inv ops an n0 m0 val blk rk hc M alI Gi gI nI wI a0 (upd done i) j al G0 (a.put o.dst u) w := by
  refine ⟨ex_upd h ho, cl_upd h hx, fun e he => ?_, h.jM, h.nn, h.fr, (put_sz a o.dst u).1.trans h.sz, (put_sz a o.dst u).2.trans h.df, old_upd h ho u, fun D h1 h2 h3 => ?_⟩
  · have hne : e ≠ i := fun e' => by
      obtain ⟨oe, e1, e2⟩ := he
      rw [e', ho] at e1
      cases e1
      rw [hE] at e2; cases e2
    rw [upd_ne hne]
    exact h.eff e he
  · obtain ⟨w1, w2, w3, w4⟩ := wo_fit h hx h1 h2 h3
    obtain ⟨s1, s2, s3⟩ := h.st (wo D i) w1 w2 w3
    have hc0 : ∀ k, (blk k).isSome = true → (D k ↔ wo D i k) := fun k hk => ⟨fun hd => ⟨hd, fun e => by rw [e, hb] at hk; cases hk⟩, fun hd => hd.1⟩
    rw [alD_congr hc0, gD_congr hc0]
    refine ⟨s1, s2, fun k ok d hk e1 e2 G hG => ?_⟩
    by_cases e : k = i
    · subst e
      rw [ho] at e1
      cases e1
      rw [slot_new h.sz e2 hm]
      exact hu G fun l hl => hG l (hl.imp id (xD_mono (w4 hk)))
    · rw [slot_upd hcl ho e1 e e2]
      exact s3 k ok d ⟨hk, e⟩ e1 e2 G hG
theorem Inv.new (hcl : Cl ops an) (h : Inv ops an n0 m0 val blk rk hc M alI Gi gI nI wI a0 done j al G0 a w) (hnI : nI ≤ n0) {i : Nat} {o : Oper} (ho : ops[i]? = some o) (hx : Next ops an rk done j i) (hE : isEff o = false) {b : Bk} (hb : blk i = some b) (hm : ∀ d, o.dst = some d → d < m0)
    {g : GI} {u : Value} {w' : World} (hold : ∀ j, j < w.heap.size → w'.heap[j]? = w.heap[j]?) (hsz : w.heap.size ≤ w'.heap.size) (e1 : w'.os = w.os) (e2 : w'.tape = w.tape) (e3 : w'.output = w.output)
    (hnew : live b = true → w.heap.size ≤ g.b) (hbr : live b = true → ∀ G, Ag (alD ops an n0 blk rk al (needs ops an rk j i) j) G0 G → G (n0 + i) = g → BR G (n0 + i) w' b)
    (hu : ∀ G, Ag (alD ops an n0 blk rk al (needs ops an rk j i) j) G0 G → G (n0 + i) = g → u = den G (val i)) : Inv ops an n0 m0 val blk rk hc M alI Gi gI nI wI a0 (upd done i) j al (fun k => if k = n0 + i then g else G0 k) (a.put o.dst u) w' := by
  have hi : i < ops.size := (Array.getElem?_eq_some_iff.1 ho).1
  refine ⟨ex_upd h ho, cl_upd h hx, fun e he => ?_, h.jM, h.nn, h.fr, (put_sz a o.dst _).1.trans h.sz, (put_sz a o.dst _).2.trans h.df, old_upd h ho _, fun D h4 h5 h6 => ?_⟩
  · have hne : e ≠ i := fun e' => by
      obtain ⟨oe, e1, e2⟩ := he
      rw [e', ho] at e1
      cases e1
      rw [hE] at e2; cases e2
    rw [upd_ne hne]
    exact h.eff e he
  · obtain ⟨w1, w2, w3, w4⟩ := wo_fit h hx h4 h5 h6
    obtain ⟨s1, s2, s3⟩ := h.st (wo D i) w1 w2 w3
    have hnal : ¬ alD ops an n0 blk rk al (wo D i) j (n0 + i) := fun hc => by
      rcases hc with hc | hc
      · exact h.fr i hi hx.nb hc
      · exact (xD_at.1 hc).1.2 rfl
    have hne : ∀ k, alD ops an n0 blk rk al (wo D i) j k → k ≠ n0 + i := fun k hk e => hnal (e ▸ hk)
    by_cases hDi : D i
    · have hal : alD ops an n0 blk rk al D j = fun k => alD ops an n0 blk rk al (wo D i) j k ∨ k = n0 + i := by
        funext k
        apply propext
        constructor
        · rintro (hk | hk)
          · exact .inl (.inl hk)
          · by_cases e : k - n0 = i
            · exact .inr (by have := hk.1; omega)
            · exact .inl (.inr ⟨hk.1, ⟨hk.2.1, e⟩, hk.2.2⟩)
        · rintro (hk | rfl)
          · exact hk.imp id (xD_mono fun _ h => h.1)
          · exact .inr (xD_at.2 ⟨hDi, hx.nb, by rw [hb]; rfl⟩)
      have hg : ∀ k, gD ops an n0 blk rk hc D j k = if k = n0 + i then some b else gD ops an n0 blk rk hc (wo D i) j k := fun k => by
        by_cases e : k = n0 + i
        · subst e
          rw [if_pos rfl, gD_pos (xD_at.2 ⟨hDi, hx.nb, by rw [hb]; rfl⟩), Nat.add_sub_cancel_left, hb]
        · rw [if_neg e]
          by_cases hk : xD ops an n0 blk rk D j k
          · have hk' : xD ops an n0 blk rk (wo D i) j k := ⟨hk.1, ⟨hk.2.1, fun e' => e (by have := hk.1; omega)⟩, hk.2.2⟩
            rw [gD_pos hk, gD_pos hk']
          · rw [gD_neg hk, gD_neg fun hk' => hk (xD_mono (fun _ h => h.1) hk')]
      have mono : ∀ G, Ag (alD ops an n0 blk rk al (wo D i) j) G0 G → Ag (alD ops an n0 blk rk al (needs ops an rk j i) j) G0 G := fun G hG k hk => hG k (hk.imp id (xD_mono (w4 hDi)))
      rw [hal]
      refine ⟨HSf.alloc (b := b) s1 hnal (Nat.lt_of_lt_of_le (Nat.add_lt_add_left hi n0) h.nn) hg (fun _ => rfl) (fun hl G hG => hbr hl G (mono G hG)) hold hnew, TF.alloc (b := b) s2 s1 hnal (Nat.le_trans hnI (Nat.le_add_right _ _)) hg (fun _ => rfl) hold hnew hsz e1 e2 e3, fun k ok d hk e1 e2 G hG => ?_⟩
      · by_cases e : k = i
        · subst e
          rw [ho] at e1
          cases e1
          rw [slot_new h.sz e2 hm]
          exact hu G (mono G fun l hl => (hG l (.inl hl)).trans (if_neg (hne l hl))) ((hG (n0 + k) (.inr rfl)).trans (if_pos rfl))
        · rw [slot_upd hcl ho e1 e e2]
          exact s3 k ok d ⟨hk, e⟩ e1 e2 G fun l hl => (hG l (.inl hl)).trans (if_neg (hne l hl))
    · have hc0 : ∀ k, (blk k).isSome = true → (D k ↔ wo D i k) := fun k _ => ⟨fun hd => ⟨hd, fun e => hDi (e ▸ hd)⟩, fun hd => hd.1⟩
      rw [alD_congr hc0, gD_congr hc0]
      refine ⟨s1.keep (fun k hk => if_neg (hne k hk)) hold, s2.kept s1 (fun k hk => if_neg (hne k hk)) hold hsz e1 e2 e3, fun k ok d hk e1 e2 G hG => ?_⟩
      have e : k ≠ i := fun e => hDi (e ▸ hk)
      rw [slot_upd hcl ho e1 e e2]
      exact s3 k ok d ⟨hk, e⟩ e1 e2 G fun l hl => (hG l hl).trans (if_neg (hne l hl))
open Classical in
theorem Inv.did (hcl : Cl ops an) (h : Inv ops an n0 m0 val blk rk hc M alI Gi gI nI wI a0 done j al G0 a w) {i : Nat} {o : Oper} (ho : ops[i]? = some o) (hx : Next ops an rk done j i) (hE : isEff o = true) (hb : blk i = none) (hm : ∀ d, o.dst = some d → d < m0) (hrk : rk i = j) (hjM : j < M)
    (huq : ∀ e, isE ops e → rk e = j → e = i) {al1 : Nat → Prop} {G1 : Gh} {w' : World} (k1 : HSf al1 G1 (hc (j + 1)).h.get (hc (j + 1)).n w')
    (k2 : TF (alD ops an n0 blk rk al (needs ops an rk j i) j) G0 (gD ops an n0 blk rk hc (needs ops an rk j i) j) (hc j).n w al1 G1 (hc (j + 1)).h.get (hc (j + 1)).n w')
    {u : Value} (hu : ∀ G, Ag al1 G1 G → u = den G (val i)) : Inv ops an n0 m0 val blk rk hc M alI Gi gI nI wI a0 (upd done i) (j + 1) al1 (fun k => if al1 k then G1 k else G0 k) (a.put o.dst u) w' := by
  have hEi : isE ops i := ⟨o, ho, hE⟩
  have hbas : ∀ k, bas ops an rk (j + 1) k ↔ bas ops an rk j k ∨ k = i ∨ isAnc an k i = true := fun k => by
    constructor
    · rintro ⟨e, e1, e2, e3⟩
      by_cases e4 : rk e = j
      · have := huq e e1 e4
        subst this
        exact .inr e3
      · exact .inl ⟨e, e1, by omega, e3⟩
    · rintro (⟨e, e1, e2, e3⟩ | hk)
      · exact ⟨e, e1, by omega, e3⟩
      · exact ⟨i, hEi, by omega, hk⟩
  have fr1 : ∀ k, k < ops.size → ¬ bas ops an rk (j + 1) k → ¬ al1 (n0 + k) := fun k hk hnb hal => by
    have hk2 : n0 + k < (hc j).n := Nat.lt_of_lt_of_le (Nat.add_lt_add_left hk n0) h.nn
    rcases k2.back _ hk2 hal with h1 | h1
    · exact h.fr k hk (fun h2 => hnb ((hbas k).2 (.inl h2))) h1
    · obtain ⟨h2, h3, _⟩ := xD_at.1 h1
      rcases h2 with h2 | h2
      · exact hnb ((hbas k).2 (.inr (.inr h2)))
      · exact h3 h2
  refine ⟨ex_upd h ho, cl_upd h hx, fun e he => ?_, hjM, Nat.le_trans h.nn k2.le, fr1, (put_sz a o.dst u).1.trans h.sz, (put_sz a o.dst u).2.trans h.df, old_upd h ho u, fun D h1 h2 h3 => ?_⟩
  · rw [upd_iff, h.eff e he]
    constructor
    · rintro (rfl | h1)
      · omega
      · omega
    · intro h1
      by_cases e4 : rk e = j
      · exact .inl (huq e he e4)
      · exact .inr (by omega)
  · have h2' : ∀ k, bas ops an rk j k → D k := fun k hk => h2 k ((hbas k).2 (.inl hk))
    have hDi : D i := h2 i ((hbas i).2 (.inr (.inl rfl)))
    obtain ⟨w1, w2, w3, w4⟩ := wo_fit h hx h1 h2' h3
    have w4 := w4 hDi
    obtain ⟨s1, s2, s3⟩ := h.st (wo D i) w1 w2 w3
    obtain ⟨n1, n2, n3⟩ := h.st (needs ops an rk j i) hx.dn (fun k hk => .inr hk) hx.cl
    -- a kept name is not one that is in use
    have kept : ∀ (E : Nat → Prop), (∀ k, E k → done k = true) → ∀ k, xD ops an n0 blk rk E j k → ¬ al k := fun E hE' k hk hal => by
      obtain ⟨oe, e1⟩ := h.ex _ (hE' _ hk.2.1)
      have := (Array.getElem?_eq_some_iff.1 e1).1
      have h5 := h.fr (k - n0) this hk.2.2.1
      rw [Nat.add_sub_cancel' hk.1] at h5
      exact h5 hal
    have alto : ∀ k, al k → al1 k := fun k hk => (k2.up k (.inl hk)).1
    have xto : ∀ k, xD ops an n0 blk rk (wo D i) j k → al1 k ∨ xD ops an n0 blk rk D (j + 1) k := fun k hk => by
      by_cases hbk : bas ops an rk (j + 1) (k - n0)
      · rcases (hbas _).1 hbk with h5 | h5 | h5
        · exact absurd h5 hk.2.2.1
        · exact absurd h5 hk.2.1.2
        · exact .inl (k2.up k (.inr ⟨hk.1, .inl h5, hk.2.2⟩)).1
      · exact .inr ⟨hk.1, hk.2.1.1, hbk, hk.2.2.2⟩
    have xfro : ∀ k, xD ops an n0 blk rk D (j + 1) k → xD ops an n0 blk rk (wo D i) j k := fun k hk => ⟨hk.1, ⟨hk.2.1, fun e => hk.2.2.1 ((hbas _).2 (.inr (.inl e)))⟩, fun h5 => hk.2.2.1 ((hbas _).2 (.inl h5)), hk.2.2.2⟩
    have xno : ∀ k, xD ops an n0 blk rk D (j + 1) k → ¬ al1 k := fun k hk hal => by
      obtain ⟨oe, e1⟩ := ex_upd h ho _ (h1 _ hk.2.1)
      have := (Array.getElem?_eq_some_iff.1 e1).1
      have h5 := fr1 (k - n0) this hk.2.2.1
      rw [Nat.add_sub_cancel' hk.1] at h5
      exact h5 hal
    have key := HSf.frame (alB := alD ops an n0 blk rk al1 D (j + 1)) (GB := fun k => if al1 k then G1 k else G0 k) (gB := gD ops an n0 blk rk hc D (j + 1)) s1 s2 k1 k2 (fun k hk => hk.imp id (xD_mono w4)) n1.pr (fun k hk => by
      rcases hk with hk | hk
      · rw [gD_neg fun hc => kept _ w1 k hc hk, gD_neg fun hc => kept _ hx.dn k hc hk]
      · rw [gD_pos hk, gD_pos (xD_mono w4 hk)]) (fun k => by
        constructor
        · rintro (hk | hk)
          · exact .inl hk
          · exact .inr (.inr (xfro k hk))
        · rintro (hk | hk | hk)
          · exact .inl hk
          · exact .inl (alto k hk)
          · exact (xto k hk).imp id id) (fun k hk => if_pos hk) (fun k hk => if_neg hk) (fun k hk => gD_neg fun hc => xno k hc hk) (fun k hk => by
        by_cases hxk : xD ops an n0 blk rk D (j + 1) k
        · rw [gD_pos hxk, gD_pos (xfro k hxk)]
        · have hn : ¬ xD ops an n0 blk rk (wo D i) j k := fun hc => (xto k hc).elim hk hxk
          rw [gD_neg hxk, gD_neg hn]
          cases e1 : (hc (j + 1)).h.get k with
          | some b => exact absurd (k1.pr k b e1) hk
          | none =>
            cases e2 : (hc j).h.get k with
            | none => rfl
            | some b =>
              rcases s1.pr k b (by rw [gD_neg hn]; exact e2) with h5 | h5
              · exact absurd (alto k h5) hk
              · exact absurd h5 hn)
    refine ⟨key.1, key.2.1, fun k ok d hk e1 e2 G hG => ?_⟩
    by_cases e : k = i
    · subst e
      rw [ho] at e1
      cases e1
      rw [slot_new h.sz e2 hm]
      exact hu G fun l hl => (hG l (.inl hl)).trans (if_pos hl)
    · rw [slot_upd hcl ho e1 e e2]
      exact s3 k ok d ⟨hk, e⟩ e1 e2 G fun l hl => (hG l (key.2.2 l hl).1).trans (key.2.2 l hl).2
theorem preH_get {i : Nat} {Hp : CH} (h : PreH ops an n0 blk rk hc i Hp) (hrk : rk i = j) : ∀ k, Hp.h.get k = gD ops an n0 blk rk hc (needs ops an rk j i) j k := fun k => by
  obtain ⟨_, h1, h2⟩ := h
  rw [hrk] at h1 h2
  by_cases hk : xD ops an n0 blk rk (needs ops an rk j i) j k
  · rw [gD_pos hk]
    obtain ⟨b, hb⟩ := Option.isSome_iff_exists.1 hk.2.2.2
    have := h1 (k - n0) b (hk.2.1.resolve_right hk.2.2.1) hk.2.2.1 hb
    rw [Nat.add_sub_cancel' hk.1] at this
    rw [this, hb]
  · rw [gD_neg hk]
    refine h2 k fun i' e hi hn => ?_
    subst e
    cases hb : blk i' with
    | none => rfl
    | some b => exact absurd (xD_at.2 ⟨.inl hi, hn, by rw [hb]; rfl⟩) hk
theorem TF.rfl {al : Nat → Prop} {G : Gh} {g : Hf} {n : Nat} {w : World} : TF al G g n w al G g n w := ⟨Nat.le_refl _, fun _ h => ⟨h, Eq.refl _⟩, fun _ _ h => h, Eq.refl _, Eq.refl _, Eq.refl _, Nat.le_refl _, fun _ _ _ => Eq.refl _, fun _ _ h => h⟩
theorem wpIn_runs {r : Option Nat} {nn : Nat} {o : Oper} {u : Value} {w' : World} {K' : Act → World → Prop} {Q : Exit → Act → World → Prop} (hd : noDS o = true) (hr : Runs P o a w u w') (hK : K' (a.put o.dst u) w') : o.wpIn (feR r) nn P a w K' Q :=
  wpIn_noDef (fun c e => by unfold noDS at hd; rw [e] at hd; cases hd) (by
    rcases hr with hr | ⟨hr, rfl⟩
    · rw [hr]; exact hK
    · rw [hr]; exact hK)
theorem runs_onlyA {o : Oper} {u : Value} {w' : World} (hs : a.tmps.size = m0) (ho : noDS o = true) (h : Runs P o (onlyA m0 o a) w u w') : Runs P o a w u w' := by
  unfold Runs at h ⊢
  rw [exec_onlyA hs ho]
  exact h
end
end Go.Proofs.YtmhnlkakbadkgaaGreat.Ck
namespace Go.Proofs.YtmhnlkakbadkgaaGreat.Ck
open Go Go.RowKit Go.Shelf
set_option maxRecDepth 100000
section
variable {P : Program} {ops : Array Oper} {an n0 : Nat} {T0 : Tr Value} {m0 : Nat} {val : Nat → Value} {blk : Nat → Option Bk} {rk : Nat → Nat} {hc : Nat → CH}
variable {M : Nat} {T1 : Tr Value} {H1 : CH} {alI : Nat → Prop} {Gi : Gh} {gI : Hf} {nI : Nat} {wI : World} {a0 : Act} {done : Nat → Bool} {j : Nat} {al : Nat → Prop} {G0 : Gh} {a : Act} {w : World}
theorem Inv.step (hcl : Cl ops an) (hp : Plan P ops an n0 T0 m0 val blk rk hc M T1 H1) (h : Inv ops an n0 m0 val blk rk hc M alI Gi gI nI wI a0 done j al G0 a w) (hI : ∀ G, Ag alI Gi G → TR G T0 m0 a0.tmps) (hnI : nI ≤ n0) {i : Nat} {o : Oper} (ho : ops[i]? = some o) (hx : Next ops an rk done j i) {r : Option Nat} {nn : Nat} {Q : Exit → Act → World → Prop} :
    wpOpIn (feR r) nn P ops Q i (fun a' w' => ∃ j al G0, Inv ops an n0 m0 val blk rk hc M alI Gi gI nI wI a0 (upd done i) j al G0 a' w') a w := by
  obtain ⟨hm, b, hw, hb0, hb1⟩ := hp.one i o ho
  have hds := hcl.ds i o ho
  have hwant := h.wanted hcl ho hx hw
  have hni : ∀ e, isAnc an e i = true → i ≠ e → True := fun _ _ _ => trivial
  have hjrk : j ≤ rk i := Nat.le_of_not_lt fun hlt => by
    obtain ⟨e, h1, h2⟩ := hp.lev (rk i) (Nat.lt_of_lt_of_le hlt h.jM)
    have hde := (h.eff e h1).2 (by rw [h2]; exact hlt)
    have hne : i ≠ e := fun e' => by rw [← e', hx.nd] at hde; cases hde
    have := hp.ord i o e ho h1 hne (by omega)
    rw [hx.up e hde] at this; cases this
  -- of an effect
  have hE : isEff o = true → rk i = j ∧ j < M ∧ ∀ e, isE ops e → rk e = j → e = i := fun he => by
    have hEi : isE ops i := ⟨o, ho, he⟩
    have ea : ∀ e oe, ops[e]? = some oe → e ≠ i → rk e ≤ rk i → rk e < j ∨ isE ops e → isE ops e → rk e < j := fun e oe h1 h2 h3 _ h5 =>
      (h.eff e h5).1 (hx.anc e (hp.ord e oe i h1 hEi h2 h3))
    have hrk : rk i = j := by
      rcases Nat.lt_or_ge j (rk i) with hlt | hge
      · obtain ⟨e, h1, h2⟩ := hp.lev j (Nat.lt_trans hlt (hp.top i hEi))
        obtain ⟨oe, h3, _⟩ := id h1
        have := ea e oe h3 (fun e' => by rw [e'] at h2; omega) (by omega) (.inr h1) h1
        omega
      · omega
    refine ⟨hrk, by rw [← hrk]; exact hp.top i hEi, fun e h1 h2 => ?_⟩
    obtain ⟨oe, h3, _⟩ := id h1
    apply Classical.byContradiction
    intro hne
    have := ea e oe h3 hne (by omega) (.inr h1) h1
    omega
  unfold wpOpIn
  simp only [ho, hwant]
  obtain ⟨n1, n2, n3⟩ := h.st (needs ops an rk j i) hx.dn (fun k hk => .inr hk) hx.cl
  cases b with
  | false =>
    obtain ⟨hv, hbk, hpre⟩ := hb0 rfl
    refine ⟨fun _ _ => trivial, ?_⟩
    have hu : ∀ G : Gh, undef = den G (val i) := fun G => by rw [hv]; simp
    cases he : isEff o with
    | false => exact ⟨j, al, G0, h.quiet hcl ho hx he hbk hm fun G _ => hu G⟩
    | true =>
      obtain ⟨hrk, hjM, huq⟩ := hE he
      have hpre := hpre he
      rw [hrk] at hpre
      have hg : (hc (j + 1)).h.get = gD ops an n0 blk rk hc (needs ops an rk j i) j := funext (preH_get hpre hrk)
      have hn : (hc (j + 1)).n = (hc j).n := by have := hpre.1; rw [hrk] at this; exact this
      exact ⟨_, _, _, h.did hcl ho hx he hbk hm hrk hjM huq (by rw [hg, hn]; exact n1) (by rw [hg, hn]; exact TF.rfl) fun G _ => hu G⟩
  | true =>
    simp only [if_true]
    obtain ⟨T, hT, hk⟩ := hb1 rfl
    have hts := h.ts hcl hI ho hx hT
    -- what changes nothing
    have pure : ∀ {hh : Tr Bk}, isEff o = false → blk i = none → (∀ G, Ag (alD ops an n0 blk rk al (needs ops an rk j i) j) G0 G → HR G hh w) → ∀ N, OpP P T m0 o ⟨hh, N⟩ (val i) →
        o.wpIn (feR r) nn P a w (fun a' w' => ∃ j al G0, Inv ops an n0 m0 val blk rk hc M alI Gi gI nI wI a0 (upd done i) j al G0 a' w') Q := fun he hbk hr N hop => by
      have h1 := hop G0 _ w (hts G0 .rfl) (hr G0 .rfl)
      refine wpIn_runs hds (runs_onlyA h.sz hds h1) ⟨j, al, G0, h.quiet hcl ho hx he hbk hm fun G hG => ?_⟩
      exact (h1.det (hop G _ w (hts G hG) (hr G hG))).1
    unfold KdS at hk
    cases hkd : kdOf o.op with
    | q =>
      simp only [hkd] at hk
      exact pure (by unfold isEff; rw [hkd]) hk.1 (fun G _ => ⟨fun k b hk => by simp at hk, fun k k' b b' hk => by simp at hk⟩) 0 hk.2
    | l =>
      simp only [hkd] at hk
      have he : isEff o = false := by unfold isEff; rw [hkd]
      have hsub : ∀ k b, (hc j).h.get k = some b → gD ops an n0 blk rk hc (needs ops an rk j i) j k = some b := fun k b hb => by
        by_cases hk : xD ops an n0 blk rk (needs ops an rk j i) j k
        · exfalso
          obtain ⟨s1, _, _⟩ := h.st (bas ops an rk j) h.basd (fun _ hk => hk) (fun k l => bas_closed hcl)
          have hno : ¬ xD ops an n0 blk rk (bas ops an rk j) j k := fun h1 => h1.2.2.1 h1.2.1
          rcases s1.pr k b (by rw [gD_neg hno]; exact hb) with h1 | h1
          · obtain ⟨oe, e1⟩ := h.ex _ (hx.dn _ hk.2.1)
            have := h.fr (k - n0) (Array.getElem?_eq_some_iff.1 e1).1 hk.2.2.1
            rw [Nat.add_sub_cancel' hk.1] at this
            exact this h1
          · exact hno h1
        · rw [gD_neg hk]; exact hb
      have hrr : ∀ G, Ag (alD ops an n0 blk rk al (needs ops an rk j i) j) G0 G → HR G (hc j).h w := fun G hG => ⟨fun k b hb => n1.bk G hG k b (hsub k b hb), fun k k' b b' hb hb' => n1.inj G hG k k' b b' (hsub k b hb) (hsub k' b' hb')⟩
      have hef : ∀ e, isE ops e → isAnc an e i = true → rk e < j := fun e h1 h2 => (h.eff e h1).1 (hx.anc e h2)
      rcases hk with ⟨hbk, hk⟩ | ⟨hbk, hk⟩
      · exact pure (hh := (hc j).h) he hbk hrr (hc j).n (hk j hjrk hef)
      · obtain ⟨g, u, h1, h2⟩ := hk j hjrk hef G0 _ w (hts G0 .rfl) (hrr G0 .rfl)
        exact wpIn_runs hds (runs_onlyA h.sz hds h1) ⟨_, _, _, h.new hcl hnI ho hx he hbk hm (g := g) (fun _ _ => rfl) (Nat.le_refl _) rfl rfl rfl (fun h => (nomatch h)) (fun h => (nomatch h)) fun G _ hn => h2 G hn⟩
    | n =>
      simp only [hkd] at hk
      have he : isEff o = false := by unfold isEff; rw [hkd]
      obtain ⟨bk, hbk, u, ob, h1, h2, h3⟩ := hk
      have hob : ∀ G, Ag (alD ops an n0 blk rk al (needs ops an rk j i) j) G0 G → w.alloc (ob G) = w.alloc (ob G0) := fun G hG => by
        have e1 := h1 G0 _ w (hts G0 .rfl)
        have e2 := h1 G _ w (hts G hG)
        rw [e1] at e2
        injection e2 with _ e2
        exact e2.symm
      exact wpIn_runs hds (runs_onlyA h.sz hds (.inl (h1 G0 _ w (hts G0 .rfl)))) ⟨_, _, _, h.new hcl hnI ho hx he hbk hm (g := ⟨w.heap.size, 0, 0, 0, 0⟩) (fun j hj => Below.heap_alloc w _ j hj) (by simp) rfl rfl rfl (fun _ => Nat.le_refl _) (fun _ G hG hn => by rw [← hob G hG]; exact h3 G w hn) fun G _ hn => h2 G _ hn⟩
    | e =>
      simp only [hkd] at hk
      have he : isEff o = true := by unfold isEff; rw [hkd]
      obtain ⟨hrk, hjM, huq⟩ := hE he
      obtain ⟨hbk, Hp, hpre, heff⟩ := hk
      have hg := preH_get hpre hrk
      have hn : Hp.n = (hc j).n := by have := hpre.1; rw [hrk] at this; exact this
      refine heff r nn _ G0 a (onlyA m0 o a) w _ Q (onlyA_eval h.sz) hts (n1.s hg hn) fun al1 G1 w' u t1 t2 hu => ?_
      rw [hrk] at t1 t2
      have t1 := t1.f
      have hg' : Hp.h.get = gD ops an n0 blk rk hc (needs ops an rk j i) j := funext hg
      rw [hg', hn] at t1
      exact ⟨_, _, _, h.did hcl ho hx he hbk hm hrk hjM huq t2.f t1 hu⟩
theorem draw_run (hm : P.follows .mixedOrders = true) (hac : acycB ops.toList = true) (hcl : Cl ops an) {F F1 : Fr} {H : CH} (hp : Plan P ops an H.n F.T F.m val blk rk hc M F1.T H1) (hF : F1.m = F.m ∧ F1.D = F.D) (h0 : hc 0 = ⟨H.h, H.n + ops.size⟩)
    (id : Nat) (r : Option Nat) (nn : Nat) (al : Nat → Prop) (G0 : Gh) (a : Act) (w : World) (Q : Exit → Act → World → Prop) (hf : FS al G0 F a) (hS : HS al G0 H w) (hT : Thence al G0 H w .normal F1 H1 Q) : (Code.region id ops true).wpIn (feR r) nn P Q a w := by
  have e0 : (fun j => (Array.replicate ops.size false).getD j false) = fun _ => false := by
    funext j
    rw [Array.getD_eq_getD_getElem?, Array.getElem?_replicate]
    split <;> rfl
  have hI : ∀ G, Ag al G0 G → TR G F.T F.m a.tmps := fun G hG => (hf G hG).1
  have nob : ∀ k, ¬ bas ops an rk 0 k := fun k ⟨e, _, h, _⟩ => by omega
  refine wpIn_region_any hm (wpAny_inv (fun done a' w' => ∃ j al' G', Inv ops an H.n F.m val blk rk hc M al G0 H.h.get H.n w a done j al' G' a' w') hac ?_ ?_ _ _ _ _ (by simp) (by simp) ?_)
  · rintro done i o a' w' ho hdi hd ⟨j, al', G', h⟩
    exact h.step hcl hp hI (Nat.le_refl _) ho (h.next hcl ho hdi hd)
  · rintro done a' w' hall ⟨j, al', G', h⟩
    have hj : j = M := by
      rcases Nat.lt_or_ge j M with hlt | hge
      · obtain ⟨e, h1, h2⟩ := hp.lev j hlt
        have h1' := h1
        obtain ⟨oe, h3, _⟩ := h1'
        have := (h.eff e h1).1 (hall e (Array.getElem?_eq_some_iff.1 h3).1)
        omega
      · have := h.jM
        omega
    subst hj
    obtain ⟨s1, s2, s3⟩ := h.st (fun k => done k = true) (fun _ h => h) h.basd (fun k l => h.cl k l)
    have hg : ∀ k, H1.h.get k = gD ops an H.n blk rk hc (fun k => done k = true) j k := fun k => by
      by_cases hk : xD ops an H.n blk rk (fun k => done k = true) j k
      · rw [gD_pos hk]
        obtain ⟨b, hb⟩ := Option.isSome_iff_exists.1 hk.2.2.2
        obtain ⟨oe, e1⟩ := h.ex _ hk.2.1
        have := hp.h1 (k - H.n) b oe e1 hk.2.2.1 hb
        rw [Nat.add_sub_cancel' hk.1] at this
        rw [this, hb]
      · rw [gD_neg hk]
        refine hp.h2 k fun i o e ho hn => ?_
        subst e
        cases hb : blk i with
        | none => rfl
        | some b => exact absurd (xD_at.2 ⟨hall i (Array.getElem?_eq_some_iff.1 ho).1, hn, by rw [hb]; rfl⟩) hk
    have t1 : To al G0 H w _ G' H1 w' := s2.t (fun _ => rfl) rfl hg hp.n1
    refine hT _ G' a' w' t1 (s1.s hg hp.n1) fun G hG => ⟨⟨by rw [hF.1]; exact h.sz, fun t => ?_⟩, ?_⟩
    · by_cases ht : ∃ (i : Nat) (o : Oper), ops[i]? = some o ∧ o.dst = some t
      · obtain ⟨i, o, e1, e2⟩ := ht
        rw [hp.slot1 i o t e1 e2]
        exact s3 i o t (hall i (Array.getElem?_eq_some_iff.1 e1).1) e1 e2 G hG
      · have hno : ∀ (i : Nat) (o : Oper), ops[i]? = some o → o.dst ≠ some t := fun i o e1 e2 => ht ⟨i, o, e1, e2⟩
        rw [hp.slot2 t hno, h.old t fun k o _ e1 => hno k o e1]
        exact (hI G fun k hk => (hG k (s2.up k hk).1).trans (s2.up k hk).2).2 t
    · rw [h.df, hF.2]
      exact (hf G fun k hk => (hG k (s2.up k hk).1).trans (s2.up k hk).2).2
  · rw [e0]
    have hr : HSf al G0 H.h.get (H.n + ops.size) { w with drawn := w.drawn + 1 } := ((hS.f.sub (n' := H.n + ops.size) (fun _ _ h => h) fun k hk => Nat.lt_of_lt_of_le (hS.lt k hk) (Nat.le_add_right _ _)).keep (fun _ _ => rfl) fun _ _ => rfl)
    refine ⟨0, al, G0, fun i h => (nomatch h), fun i k h => (nomatch h), fun e he => by simp, Nat.zero_le _, by rw [h0]; exact Nat.le_refl _, fun i hi _ hal => ?_, (hI G0 .rfl).1, rfl, fun _ _ => rfl, fun D h1 h2 h3 => ?_⟩
    · have := hS.lt _ hal
      omega
    · have hno : ∀ k, ¬ xD ops an H.n blk rk D 0 k := fun k hk => by
        have := h1 _ hk.2.1
        cases this
      have ea : alD ops an H.n blk rk al D 0 = al := funext fun k => propext ⟨fun h => h.resolve_right (hno k), .inl⟩
      have eg : gD ops an H.n blk rk hc D 0 = H.h.get := funext fun k => by rw [gD_neg (hno k), h0]
      rw [ea, eg, h0]
      refine ⟨hr, ⟨Nat.le_add_right _ _, fun _ h => ⟨h, rfl⟩, fun _ _ h => h, rfl, rfl, rfl, Nat.le_refl _, fun _ _ _ => rfl, fun _ _ h => h⟩, fun i o d hi => ?_⟩
      have := h1 _ hi
      cases this
end
end Go.Proofs.YtmhnlkakbadkgaaGreat.Ck
