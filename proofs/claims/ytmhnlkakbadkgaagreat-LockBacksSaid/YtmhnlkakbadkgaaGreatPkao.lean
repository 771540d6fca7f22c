/- Part 15 of the proof of LockBacks: contracts of functions that the law reaches, or the rules by which they are walked. No condition. -/
import Derived.Test.YtmhnlkakbadkgaaGreatPkan
namespace Go.Proofs.YtmhnlkakbadkgaaGreat.Ck
open Go Go.RowKit Go.Shelf
set_option maxRecDepth 100000
theorem HS.move {al : Nat → Prop} {G0 : Gh} {H : CH} {w w' : World} {k : Nat} {b b' : Bk} {h' : Tr Bk} (g : GI) (hs : HS al G0 H w) (hk : H.h.get k = some b) (hl : live b = true)
    (hh : ∀ j, h'.get j = if j = H.n then some b' else if j = k then some .d else H.h.get j) (hg : g.b = (G0 k).b)
    (hw : ∀ G, Ag al G0 G → G H.n = g → BR G H.n w' b') (ho : ∀ j, j ≠ (G0 k).b → w'.heap[j]? = w.heap[j]?) (hsz : w'.heap.size = w.heap.size) (h1 : w'.os = w.os) (h2 : w'.tape = w.tape) (h3 : w'.output = w.output) :
    HS (fun j => al j ∨ j = H.n) (fun j => if j = H.n then g else G0 j) ⟨h', H.n + 1⟩ w' ∧ To al G0 H w (fun j => al j ∨ j = H.n) (fun j => if j = H.n then g else G0 j) ⟨h', H.n + 1⟩ w' := by
  have hne : ∀ j, al j → j ≠ H.n := fun j hj => Nat.ne_of_lt (hs.lt j hj)
  have hA : ∀ j, al j → (al j ∨ j = H.n) ∧ (if j = H.n then g else G0 j) = G0 j := fun j hj => ⟨.inl hj, if_neg (hne j hj)⟩
  have hak := hs.pr k b hk
  refine ⟨⟨fun j hj => ?_, fun j c hj => ?_, fun G hG => ?_⟩, ⟨Nat.le_succ _, hA, fun j hj h => h.resolve_right (Nat.ne_of_lt hj), h1, h2, h3, Nat.le_of_eq hsz.symm, fun j hj hi => ho j fun e => hi ⟨k, b, hk, hl, e.symm⟩, ?_⟩⟩
  · rcases hj with hj | rfl
    · exact Nat.lt_succ_of_lt (hs.lt j hj)
    · exact Nat.lt_succ_self _
  · rw [hh] at hj
    split at hj
    · exact .inr (by assumption)
    · split at hj
      · rename_i e; rw [e]; exact .inl hak
      · exact .inl (hs.pr j c hj)
  · have hG' : Ag al G0 G := hG.mono hA
    have hn : G H.n = g := (hG H.n (.inr rfl)).trans (if_pos rfl)
    have hGk : (G H.n).b = (G k).b := by rw [hn, hg, hG' k hak]
    refine ⟨fun j c hj hc => ?_, fun i j c c' hi hj hc hc' e => ?_⟩
    · rw [hh] at hj
      split at hj
      · rename_i e
        subst e
        cases hj
        exact hw G hG' hn
      · split at hj
        · cases hj; cases hc
        · rename_i e1 e2
          refine ((hs.hr G hG').bk j c hj hc).keep (ho _ fun e' => e2 ?_)
          rw [← hG' k hak] at e'
          exact (hs.hr G hG').inj j k c b hj hk hc hl e'
    · rw [hh] at hi hj
      split at hi <;> split at hj
      · rename_i e1 e2; rw [e1, e2]
      · split at hj
        · cases hj; cases hc'
        · rename_i e1 _ e3
          subst e1
          rw [hGk] at e
          exact absurd ((hs.hr G hG').inj k j b c' hk hj hl hc' e).symm e3
      · split at hi
        · cases hi; cases hc
        · rename_i e1 e3 _
          subst e3
          rw [hGk] at e
          exact absurd ((hs.hr G hG').inj i k c b hi hk hc hl e) (by assumption)
      · split at hi <;> split at hj
        · cases hi; cases hc
        · cases hi; cases hc
        · cases hj; cases hc'
        · exact (hs.hr G hG').inj i j c c' hi hj hc hc' e
  · rintro j hj ⟨i, c, hi, hc, e⟩
    rw [hh] at hi
    dsimp only at e
    split at hi
    · rename_i e1
      subst e1
      rw [if_pos rfl, hg] at e
      exact ⟨k, b, hk, hl, e⟩
    · rename_i e1
      rw [if_neg e1] at e
      split at hi
      · cases hi; cases hc
      · exact ⟨i, c, hi, hc, e⟩
section
variable {P : Program} {T : Tr Value} {m : Nat} {o : Oper} {H : CH} {β : Type} {z : β}
theorem HR.cells {G : Gh} {h : Tr Bk} {w : World} (hr : HR G h w) {k off : Nat} {cs : List Value} {t : TypeId} {op : Nat} (hk : h.get k = some (.c cs t op)) {n : Nat} (hn : off + n ≤ cs.length) {w' : World} (hw : w'.heap = w.heap) {sp : Option Nat} :
    (loadCells (dA G ⟨k, off, sp⟩) n).run P w' = .ok (((cs.drop off).take n).map (den G)).toArray w' := by
  obtain ⟨pr, jk, h1, _, _, h2⟩ := hr.row hk
  have hl : (((cs.drop off).take n).map (den G)).length = n := by simp; omega
  have := run_loadCells_list (P := P) w' (dA G ⟨k, off, sp⟩) (((cs.drop off).take n).map (den G)) (fun j v hj => by
    have e : (dA G ⟨k, off, sp⟩).add j = ⟨(G k).b, off + j + pr.length, none⟩ := by rw [dA_off]; simp [dA, h2]
    rw [e]
    have hc : w'.cell? ⟨(G k).b, off + j + pr.length, none⟩ = (pr ++ cs.map (den G) ++ jk)[off + j + pr.length]? := cell_of_list (by rw [hw]; exact h1)
    rw [hc]
    have hjn : j < n := by
      have := (List.getElem?_eq_some_iff.1 hj).1
      rw [hl] at this
      exact this
    rw [List.append_assoc, List.getElem?_append_right (by omega), List.getElem?_append_left (by simp; omega)]
    rw [show off + j + pr.length - pr.length = off + j by omega]
    rw [List.map_take, List.map_drop, List.getElem?_take, if_pos hjn, List.getElem?_drop] at hj
    exact hj)
  rw [hl] at this
  exact this
theorem firstK_spec {x : Value} {n sz : Nat} {K : List Value → β} : firstK z x n sz H K = z ∨ ∃ vs, firstK z x n sz H K = K vs ∧ vs.length = n * sz ∧ (n = 0 → vs = []) ∧
    ((n ≠ 0 ∨ ∃ a l c, x = .slice a l c) → ∀ (G : Gh) (w w' : World), HR G H.h w → w'.heap = w.heap → (Builtin.firstCells sz n (den G x)).run P w' = .ok (vs.map (den G)).toArray w') := by
  unfold firstK
  split
  · refine .inr ⟨[], rfl, by simp, fun _ => rfl, fun hx G w w' _ _ => ?_⟩
    rcases hx with hx | ⟨a, l, c, rfl⟩
    · exact absurd rfl hx
    · cases a <;> simp [den, Builtin.firstCells, loadCells, loadCellsFrom]
  · rename_i n' hn0
    split
    · rename_i b off sp l c
      split
      · rename_i cs ty op hb
        rcases takeK_spec (z := z) (Nat.mul n sz) off cs K with h | ⟨h, h2⟩ | ⟨h2, h⟩
        · exact .inl h
        · refine .inr ⟨_, h, by simp only [List.length_take, List.length_drop]; have : Nat.mul n sz = n * sz := rfl; omega, fun h => absurd h hn0, fun _ G w w' hr hw => ?_⟩
          have := hr.cells (P := P) (off := off) (sp := sp) hb h2 hw
          simpa [den, Builtin.firstCells] using this
        · refine .inr ⟨_, h, by rw [h2]; simp; exact h2.symm, fun h => absurd h hn0, fun _ G w w' hr hw => ?_⟩
          have h3 : n * sz = 0 := h2
          rw [h2]
          simp [den, Builtin.firstCells, h3, loadCells, loadCellsFrom]
      · exact .inl rfl
    · exact .inl rfl
theorem run_app_room {t u ty e e2 : TypeId} {i : TypeInfo} (ht : P.underlying t = some (.slice e)) (hu : P.underlying u = some (.slice e2)) (hi : P.info? e = some i) {base : Option Addr} {l c n xc : Nat} {xb : Option Addr} {news : Array Value} {w w' : World}
    (hx : (Builtin.firstCells i.size n (.slice xb n xc)).run P w = .ok news w) (hroom : l + n ≤ c) (hst : ∀ a, base = some a → (storeCells (a.add (l * i.size)) news.toList).run P w = .ok () w') (hb : base = none → w' = w) :
    (Builtin.append_ #[t, u] ty #[.slice base l c, .slice xb n xc]).run P w = .ok (.slice base (l + n) c) w' := by
  cases base with
  | none =>
    have := hb rfl
    subst this
    simp [Builtin.append_, run_underlying ht, run_underlying hu, sizeOf, typeInfo, hi, Builtin.lenOf, hroom, hx]
  | some a => simp [Builtin.append_, run_underlying ht, run_underlying hu, sizeOf, typeInfo, hi, Builtin.lenOf, hroom, hx, hst a rfl]
theorem run_app_grow {t u ty e e2 : TypeId} {i : TypeInfo} {zv : Value} (ht : P.underlying t = some (.slice e)) (hu : P.underlying u = some (.slice e2)) (hi : P.info? e = some i) (hz : i.zero = some zv) {base : Option Addr} {l c n xc : Nat} {xb : Option Addr} {olds news : Array Value} {w : World}
    (ho : (Builtin.firstCells i.size l (.slice base l c)).run P w.drew = .ok olds w.drew) (hx : (Builtin.firstCells i.size n (.slice xb n xc)).run P w.drew = .ok news w.drew) (hroom : c < l + n) (hsm : l + n ≤ 1000000) (hby : i.bytes ≤ 65536) :
    (Builtin.append_ #[t, u] ty #[.slice base l c, .slice xb n xc]).run P w =
      .ok (.slice (some ⟨w.heap.size, 0, none⟩) (l + n) (grownCap w (l + n) c e)) (w.drew.alloc (.cells (olds ++ news ++ Builtin.zeroCells zv.cells (grownCap w (l + n) c e - (l + n))) e)) := by
  have hn : ¬ (l + n ≤ c) := by omega
  have h63 : ¬ (9223372036854775807 < ((l : Int) + (n : Int))) := by omega
  have hb2 : (l + n) * i.bytes ≤ 1000000 * 65536 := Nat.mul_le_mul hsm hby
  have h48 : ¬ (281474976710656 < Builtin.nextslicecap (l + n) c * i.bytes) := by
    have := growslice_fits (bytes := i.bytes) hroom (by omega)
    omega
  simp [Builtin.append_, run_underlying ht, run_underlying hu, sizeOf, typeInfo, zeroValue, hi, hz, Builtin.lenOf, hn, h63, h48, Question.forced, ho, hx, newRow, grownCap]
theorem HS.kill {al : Nat → Prop} {G0 : Gh} {H : CH} {w : World} {k : Nat} {b : Bk} {h' : Tr Bk} (hs : HS al G0 H w) (hk : H.h.get k = some b) (hl : live b = true) (hh : ∀ j, h'.get j = if j = k then some .d else H.h.get j) : HS al G0 ⟨h', H.n⟩ w ∧ To al G0 H w al G0 ⟨h', H.n⟩ w :=
  hs.write hk hl hh (fun _ _ h => nomatch h) (fun _ _ => rfl) rfl rfl rfl rfl
theorem HR.stable {al : Nat → Prop} {G0 G : Gh} {H : CH} {w : World} (hs : HS al G0 H w) (hG : Ag al G0 G) {k : Nat} {cs : List Value} {t : TypeId} {op : Nat} (hk : H.h.get k = some (.c cs t op)) : cs.map (den G) = cs.map (den G0) := by
  obtain ⟨pr, jk, h1, _, _, h2⟩ := (hs.hr G hG).row hk
  obtain ⟨pr', jk', h1', _, _, h2'⟩ := (hs.hr G0 .rfl).row hk
  have e := hG k (hs.pr k _ hk)
  rw [e] at h1 h2
  rw [h1] at h1'
  injection h1' with h3
  injection h3 with h3
  have h3 : pr ++ cs.map (den G) ++ jk = pr' ++ cs.map (den G0) ++ jk' := by simpa using h3
  have hl : pr.length = pr'.length := by rw [← h2, ← h2']
  rw [List.append_assoc, List.append_assoc] at h3
  obtain ⟨_, h4⟩ := List.append_inj h3 hl
  exact (List.append_inj h4 (by simp)).1
theorem HS.grow {al : Nat → Prop} {G0 : Gh} {H : CH} {w : World} {e : TypeId} {sz n : Nat} {vs zs : List Value} {h' : Tr Bk} (hs : HS al G0 H w) (hh : ∀ j, h'.get j = if j = H.n then some (.c vs e (sz + 1)) else H.h.get j)
    (hst : ∀ G, Ag al G0 G → vs.map (den G) = vs.map (den G0)) (hz : zs.length = n * (sz + 1)) :
    HS (fun j => al j ∨ j = H.n) (fun j => if j = H.n then ⟨w.heap.size, 0, vs.length, sz + 1, n⟩ else G0 j) ⟨h', H.n + 1⟩ (w.drew.alloc (.cells (vs.map (den G0) ++ zs).toArray e)) ∧
    To al G0 H w (fun j => al j ∨ j = H.n) (fun j => if j = H.n then ⟨w.heap.size, 0, vs.length, sz + 1, n⟩ else G0 j) ⟨h', H.n + 1⟩ (w.drew.alloc (.cells (vs.map (den G0) ++ zs).toArray e)) := by
  refine HS.alloc (w' := w.drew.alloc (.cells (vs.map (den G0) ++ zs).toArray e)) ⟨w.heap.size, 0, vs.length, sz + 1, n⟩ hs hh (fun G hG hn _ => ?_) (fun j hj => Below.heap_alloc w.drew _ j hj) (fun _ => Nat.le_refl _) (by simp) rfl rfl rfl
  refine ⟨[], zs, ?_, ⟨fun h => (nomatch h), fun _ => ⟨by rw [hn], by rw [hn], by rw [hn, hz]⟩, by rw [hn]; rfl⟩⟩
  rw [hn, hst G hG]
  simpa using World.alloc_heap_new w.drew (.cells (vs.map (den G0) ++ zs).toArray e)
theorem den_sl (G : Gh) (a : Option Addr) (l c : Nat) : ∃ c', den G (.slice a l c) = .slice (a.map (dA G)) l c' := by
  cases a with
  | none => exact ⟨c, rfl⟩
  | some a => exact ⟨_, rfl⟩
theorem app_runs {cl : Call} {t u : TypeId} {p q : Operand} {s x : Value} (ho : o.op = .call cl) (hc : cl.callee = .builtin .append) (hts : cl.argTypes.toList = [t, u]) (hxs : cl.args.toList = [p, q]) (hp : opdOk p = true) (hq : opdOk q = true) (hs : evT T p = s) (hx : evT T q = x)
    {G : Gh} {a : Act} (ht : TR G T m a.tmps) {w w' : World} {v : Value} (h : (Builtin.append_ #[t, u] o.type #[den G s, den G x]).run P w = .ok v w') : Runs P o a w v w' := by
  refine .inl ?_
  rw [callB ho hc hts hxs a]
  simp only [List.map_cons, List.map_nil, ev_den ht hp, ev_den ht hq, hs, hx, builtin, Sem.run_bind]
  rw [show (⟨[t, u]⟩ : Array TypeId) = #[t, u] from rfl, show (⟨[den G s, den G x]⟩ : Array Value) = #[den G s, den G x] from rfl, h]
  rfl
theorem OpS.grow1 {al : Nat → Prop} {G0 : Gh} {a : Act} {w : World} {h1 h' : Tr Bk} {e : TypeId} {sz need cap : Nat} {vs zs : List Value} (hs : HS al G0 ⟨h1, H.n⟩ w) (ht : To al G0 H w al G0 ⟨h1, H.n⟩ w) (hh : ∀ j, h'.get j = if j = H.n then some (.c vs e (sz + 1)) else h1.get j)
    (hst : ∀ G, Ag al G0 G → vs.map (den G) = vs.map (den G0)) (hv : vs.length = need * (sz + 1)) (hcap : need ≤ cap) (hz : zs.length = (cap - need) * (sz + 1))
    (hrun : Runs P o a w (.slice (some ⟨w.heap.size, 0, none⟩) need cap) (w.drew.alloc (.cells (vs.map (den G0) ++ zs).toArray e))) :
    ∃ al' G0' w', To al G0 H w al' G0' ⟨h', H.n + 1⟩ w' ∧ HS al' G0' ⟨h', H.n + 1⟩ w' ∧ ∃ u, Runs P o a w u w' ∧ ∀ G, Ag al' G0' G → u = den G (.slice (some ⟨H.n, 0, none⟩) need need) := by
  obtain ⟨h2, h3⟩ := HS.grow hs hh hst hz
  refine ⟨_, _, _, ht.trans h3, h2, _, hrun, fun G hG => ?_⟩
  have hn := hG H.n (.inr rfl)
  simp only [if_true] at hn
  have hx : ext G ⟨H.n, 0, none⟩ need = cap - need := by
    unfold ext
    rw [if_neg]
    · rw [hn]
    · simp only [Option.isSome_none, Bool.false_or, decide_eq_true_eq, hn, hv]
      omega
  simp only [den, hx, dA, hn]
  congr 1
  omega
theorem zero_facts {i : TypeInfo} {n : Nat} (hn : n ≤ 65536) (hby : i.bytes ≤ 65536) : IntKind.i64.wrap (n : Int) = (n : Int) ∧ ¬ ((n : Int) < 0) ∧ ¬ (281474976710656 < (n : Int) * (i.bytes : Int)) := by
  refine ⟨by rw [IntKind.wrap_i64]; omega, by omega, ?_⟩
  have h1 : n * i.bytes ≤ 65536 * 65536 := Nat.mul_le_mul hn hby
  have h2 : n * i.bytes ≤ 4294967296 := h1
  have : ((n * i.bytes : Nat) : Int) ≤ 4294967296 := by omega
  rw [Int.natCast_mul] at this
  omega
theorem run_app_roomZ {t u ty e : TypeId} {i : TypeInfo} {zv : Value} {ki k : IntKind} (ht : P.underlying t = some (.slice e)) (hu : P.underlying u = some (.int ki)) (hi : P.info? e = some i) (hz : i.zero = some zv) (hsz : 0 < i.size) {base : Option Addr} {l c n : Nat} {w w' : World} (hn : n ≤ 65536) (hby : i.bytes ≤ 65536)
    (hroom : l + n ≤ c) (hst : ∀ a, base = some a → (storeCells (a.add (l * i.size)) (zerosL zv.cells.toList n)).run P w = .ok () w') (hb : base = none → w' = w) :
    (Builtin.append_ #[t, u] ty #[.slice base l c, .int k (n : Int)]).run P w = .ok (.slice base (l + n) c) w' := by
  obtain ⟨hw, h0, h48⟩ := zero_facts hn hby
  have hzc := zeroCells_toList zv.cells n
  rcases Nat.eq_zero_or_pos n with hn0 | hn0
  · subst hn0
    have hst' : ∀ a, base = some a → w' = w := fun a ha => by
      have := hst a ha
      simp [zerosL, storeCells] at this
      exact this.symm
    cases base with
    | none =>
      have := hb rfl
      subst this
      have hl : l ≤ c := by omega
      simp [Builtin.append_, run_underlying ht, run_underlying hu, sizeOf, typeInfo, hi, asInt, asIntOf, IntKind.wrap_i64, hl]
    | some a =>
      have := hst' a rfl
      subst this
      have hl : l ≤ c := by omega
      simp [Builtin.append_, run_underlying ht, run_underlying hu, sizeOf, typeInfo, hi, asInt, asIntOf, IntKind.wrap_i64, hl, storeCells]
  · have hns : ¬ (n * i.size = 0) := Nat.ne_of_gt (Nat.mul_pos hn0 hsz)
    cases base with
    | none =>
      have := hb rfl
      subst this
      simp [Builtin.append_, run_underlying ht, run_underlying hu, sizeOf, typeInfo, zeroValue, hi, hz, asInt, asIntOf, hw, h0, h48, hroom]
    | some a =>
      have hst := hst a rfl
      rw [← hzc] at hst
      simp [Builtin.append_, run_underlying ht, run_underlying hu, sizeOf, typeInfo, zeroValue, hi, hz, asInt, asIntOf, hw, h0, h48, hroom, hns, hst]
theorem run_app_growZ {t u ty e : TypeId} {i : TypeInfo} {zv : Value} {ki k : IntKind} (ht : P.underlying t = some (.slice e)) (hu : P.underlying u = some (.int ki)) (hi : P.info? e = some i) (hz : i.zero = some zv) (hsz : 0 < i.size) {base : Option Addr} {l c n : Nat} {olds : Array Value} {w : World} (hn : n ≤ 65536)
    (ho : (Builtin.firstCells i.size l (.slice base l c)).run P w.drew = .ok olds w.drew) (hroom : c < l + n) (hsm : l + n ≤ 1000000) (hby : i.bytes ≤ 65536) :
    (Builtin.append_ #[t, u] ty #[.slice base l c, .int k (n : Int)]).run P w =
      .ok (.slice (some ⟨w.heap.size, 0, none⟩) (l + n) (grownCap w (l + n) c e)) (w.drew.alloc (.cells (olds ++ (zerosL zv.cells.toList n).toArray ++ Builtin.zeroCells zv.cells (grownCap w (l + n) c e - (l + n))) e)) := by
  obtain ⟨hw, h0, h48'⟩ := zero_facts hn hby
  have hzc : (zerosL zv.cells.toList n).toArray = Builtin.zeroCells zv.cells n := by rw [← zeroCells_toList]
  have hn1 : ¬ (l + n ≤ c) := by omega
  have h63 : ¬ (9223372036854775807 < ((l : Int) + (n : Int))) := by omega
  have hb2 : (l + n) * i.bytes ≤ 1000000 * 65536 := Nat.mul_le_mul hsm hby
  have h48 : ¬ (281474976710656 < Builtin.nextslicecap (l + n) c * i.bytes) := by
    have := growslice_fits (bytes := i.bytes) hroom (by omega)
    omega
  rw [hzc]
  rcases Nat.eq_zero_or_pos n with hn0 | hn0
  · subst hn0
    have e0 : Builtin.zeroCells zv.cells 0 = #[] := by
      apply Array.ext'
      rw [zeroCells_toList]
      simp [zerosL]
    simp only [Nat.add_zero] at hn1 h63 h48 hroom ⊢
    simp [Builtin.append_, run_underlying ht, run_underlying hu, sizeOf, typeInfo, zeroValue, hi, hz, asInt, asIntOf, IntKind.wrap_i64, hn1, h48, Question.forced, ho, newRow, grownCap, e0, show ¬ (9223372036854775807 < (l : Int)) by omega]
  · have hns : ¬ (n * i.size = 0) := Nat.ne_of_gt (Nat.mul_pos hn0 hsz)
    simp [Builtin.append_, run_underlying ht, run_underlying hu, sizeOf, typeInfo, zeroValue, hi, hz, asInt, asIntOf, hw, h0, h48', hn1, h63, h48, hns, Question.forced, ho, newRow, grownCap]
theorem OpS.app {cl : Call} {t u e : TypeId} {p q : Operand} {s x : Value} (ho : o.op = .call cl) (hc : cl.callee = .builtin .append) (hts : cl.argTypes.toList = [t, u]) (hxs : cl.args.toList = [p, q]) (hp : opdOk p = true) (hq : opdOk q = true) (hs : evT T p = s) (hx : evT T q = x)
    {sz n : Nat} {zv : Value} (hzl : zv.cells.size = sz + 1) {vs : List Value} (hvl : vs.length = n * (sz + 1))
    (hroomR : ∀ (G : Gh) (w w' : World) (base : Option Addr) (l c : Nat), HR G H.h w → l + n ≤ c → (∀ a, base = some a → (storeCells (a.add (l * (sz + 1))) (vs.map (den G))).run P w = .ok () w') → (base = none → w' = w) → (Builtin.append_ #[t, u] o.type #[.slice base l c, den G x]).run P w = .ok (.slice base (l + n) c) w')
    (hgrowR : ∀ (G : Gh) (w : World) (base : Option Addr) (l c : Nat) (olds : Array Value), HR G H.h w → (Builtin.firstCells (sz + 1) l (.slice base l c)).run P w.drew = .ok olds w.drew → c < l + n → l + n ≤ 1000000 → (Builtin.append_ #[t, u] o.type #[.slice base l c, den G x]).run P w =
      .ok (.slice (some ⟨w.heap.size, 0, none⟩) (l + n) (grownCap w (l + n) c e)) (w.drew.alloc (.cells (olds ++ (vs.map (den G)).toArray ++ Builtin.zeroCells zv.cells (grownCap w (l + n) c e - (l + n))) e)))
    (stv : ∀ (al : Nat → Prop) (G0 : Gh) (a : Act) (w : World), TS al G0 T m a → HS al G0 H w → ∀ G, Ag al G0 G → vs.map (den G) = vs.map (den G0)) {K : Value → CH → β} :
    appK z s vs n e (sz + 1) H K = z ∨ ∃ v H', appK z s vs n e (sz + 1) H K = K v H' ∧ OpS P T m o H v H' := by
  have runs := fun {G : Gh} {a : Act} (ht : TR G T m a.tmps) {w w' v} h => app_runs (P := P) (m := m) ho hc hts hxs hp hq hs hx ht (w := w) (w' := w') (v := v) h
  unfold appK
  split
  · -- a nil slice
    split
    · refine .inr ⟨_, H, rfl, OpP.s fun G a w ht hr => runs ht ?_⟩
      exact hroomR G w w none 0 0 hr (Nat.le_refl _) (fun a h => nomatch h) (fun _ => rfl)
    · rename_i hn0
      split
      · rename_i hsm
        have hsm := Nat.le_of_ble_eq_true hsm
        rcases newK_spec (z := z) (b := .c vs e (sz + 1)) (H := H) (K := fun k H => K (.slice (some ⟨k, 0, none⟩) n n) H) with h | ⟨h', h, hh⟩
        · exact .inl h
        · refine .inr ⟨_, _, h, fun al G0 a w ht hS => ?_⟩
          have hn1 : 0 < n := Nat.pos_of_ne_zero fun h => hn0 h
          have hg := hgrowR G0 w none 0 0 #[] (hS.hr G0 .rfl) (by simp [Builtin.firstCells]) (by omega) (by omega)
          rw [Nat.zero_add] at hg
          refine OpS.grow1 (zs := (Builtin.zeroCells zv.cells (grownCap w n 0 e - n)).toList) (cap := grownCap w n 0 e) hS .rfl hh (stv al G0 a w ht hS) hvl (grownCap_ge w n 0 e) (by rw [Array.length_toList, size_zeroCells, hzl]) (runs (ht G0 .rfl) ?_)
          show (Builtin.append_ #[t, u] o.type #[.slice none 0 0, _]).run P w = _
          rw [hg]
          congr 3
          apply Array.ext'
          simp
      · exact .inl rfl
  · rename_i b off sp l c
    split
    · split
      · rename_i hlc
        have hlc := Nat.le_of_ble_eq_true hlc
        refine .inr ⟨_, H, rfl, OpP.s fun G a w ht hr => runs ht ?_⟩
        have hv0 : vs = [] := List.eq_nil_of_length_eq_zero (by rw [hvl]; simp)
        subst hv0
        exact hroomR G w w (some _) l (c + ext G ⟨b, off, sp⟩ c) hr (by omega) (fun a' h' => by simp [storeCells]) (fun h => nomatch h)
      · exact .inl rfl
    · rename_i hn0
      have hn1 : 0 < n := Nat.pos_of_ne_zero fun h => hn0 h
      split
      · rename_i hsm
        have hsm := Nat.le_of_ble_eq_true hsm
        unfold appAtK
        split
        · rename_i cs ty op hb
          split
          · -- there is room that is known
            rename_i hroom
            have hroom : l + n ≤ c := Nat.le_of_ble_eq_true hroom
            rcases setsK_spec (z := z) vs cs (Nat.add off (Nat.mul l (sz + 1))) (fun cs => Tr.put z (.c cs ty op) H.h b fun h => K (.slice (some ⟨b, off, sp⟩) (Nat.add l n) c) ⟨h, H.n⟩) with h | ⟨h, h2, h3⟩
            · exact .inl h
            · rw [h]
              have h2 : off + l * (sz + 1) + vs.length ≤ cs.length := by
                rcases h2 with h2 | h2
                · have h5 : 0 < n * (sz + 1) := Nat.mul_pos hn1 (Nat.succ_pos sz)
                  rw [← hvl, h2] at h5
                  exact absurd h5 (by simp)
                · exact h2
              rcases Tr.put_spec z (.c (splV cs (Nat.add off (Nat.mul l (sz + 1))) vs) ty op) H.h b (fun h => K (.slice (some ⟨b, off, sp⟩) (Nat.add l n) c) ⟨h, H.n⟩) with h4 | ⟨h', h4, hh⟩
              · exact .inl h4
              · refine .inr ⟨_, _, h4, OpS.setRow hb hh (splV_len h2) fun G a w pr jk ht hr hw hd _ => runs ht ?_⟩
                have hst := run_storeCells_at P (G b).b (off + l * (sz + 1) + pr.length) ty (vs.map (den G)) 0 _ w hw (by simp; omega) (fun x hx => by
                  obtain ⟨x', hx', rfl⟩ := List.mem_map.1 hx
                  rw [oneCell_den]
                  exact h3 x' hx')
                simp only [Nat.add_zero] at hst
                have sp1 := splV_mid pr (cs.map (den G)) jk (vs.map (den G)) (off + l * (sz + 1)) (by simpa using h2)
                unfold splV at sp1
                have hr1 := hroomR G w (w.setRow (G b).b (pr ++ (splV cs (off + l * (sz + 1)) vs).map (den G) ++ jk).toArray) (some (dA G ⟨b, off, sp⟩)) l (c + ext G ⟨b, off, sp⟩ c) hr (by omega) (fun a' h' => by
                  cases h'
                  rw [dA_off]
                  show (storeCells ⟨(G b).b, off + l * (sz + 1) + (G b).d, none⟩ _ 0).run P w = _
                  rw [hd, hst, sp1, splV_map]
                  rfl) (fun h => nomatch h)
                exact hr1
          · rename_i hroom
            have hroom : ¬ l + n ≤ c := fun h => by
              have : Nat.ble (Nat.add l n) c = true := by rw [Nat.ble_eq]; exact h
              rw [this] at hroom
              cases hroom
            have hsm : l + n ≤ 1000000 := hsm
            -- the row as it was
            have hus : ∀ (K' : List Value → β), takeK z cs off (Nat.mul l (sz + 1)) K' = z ∨ ∃ us, takeK z cs off (Nat.mul l (sz + 1)) K' = K' us ∧ us.length = l * (sz + 1) ∧ us = (cs.drop off).take (l * (sz + 1)) ∧ (l = 0 ∨ off + l * (sz + 1) ≤ cs.length) := fun K' => by
              rcases takeK_spec (z := z) (Nat.mul l (sz + 1)) off cs K' with h | ⟨h, h2⟩ | ⟨h2, h⟩
              · exact .inl h
              · have h2 : off + l * (sz + 1) ≤ cs.length := h2
                exact .inr ⟨_, h, by simp only [List.length_take, List.length_drop]; have : Nat.mul l (sz + 1) = l * (sz + 1) := rfl; omega, rfl, .inr h2⟩
              · have h3 : l * (sz + 1) = 0 := h2
                refine .inr ⟨_, h, by rw [h2, h3]; simp, rfl, .inl ?_⟩
                rcases Nat.mul_eq_zero.1 h3 with h3 | h3
                · exact h3
                · omega
            have hold : ∀ (G : Gh) (w : World) (us : List Value), HR G H.h w → us = (cs.drop off).take (l * (sz + 1)) → (l = 0 ∨ off + l * (sz + 1) ≤ cs.length) → ∀ c', (Builtin.firstCells (sz + 1) l (.slice (some (dA G ⟨b, off, sp⟩)) l c')).run P w.drew = .ok (us.map (den G)).toArray w.drew := fun G w us hr hu h c' => by
              rw [hu]
              rcases h with h | h
              · subst h
                simp [Builtin.firstCells, loadCells, loadCellsFrom]
              · have := hr.cells (P := P) (off := off) (sp := sp) hb h (w' := w.drew) rfl
                simpa [Builtin.firstCells] using this
            have hstu : ∀ (al : Nat → Prop) (G0 : Gh) (w : World) (us : List Value), HS al G0 H w → us = (cs.drop off).take (l * (sz + 1)) → ∀ G, Ag al G0 G → us.map (den G) = us.map (den G0) := fun al G0 w us hS hu G hG => by
              rw [hu, List.map_take, List.map_take, List.map_drop, List.map_drop, HR.stable hS hG hb]
            generalize hK1 : (fun us => _) = K1
            rcases hus K1 with h | ⟨us, h, hul, hud, hub⟩
            · exact .inl h
            rw [h, ← hK1]
            clear hK1 h
            dsimp only
            have hall : (us ++ vs).length = (l + n) * (sz + 1) := by rw [List.length_append, hul, hvl, Nat.add_mul]
            split
            · -- a new row, for it is known how much room there is
              rename_i hex
              simp only [Bool.or_eq_true, Bool.and_eq_true, Nat.beq_eq] at hex
              rcases newK_spec (z := z) (b := .c (us ++ vs) e (sz + 1)) (H := H) (K := fun k H => K (.slice (some ⟨k, 0, none⟩) (Nat.add l n) (Nat.add l n)) H) with h | ⟨h', h, hh⟩
              · exact .inl h
              · refine .inr ⟨_, _, h, fun al G0 a w ht hS => ?_⟩
                obtain ⟨pr, jk, _, hRm⟩ := (hS.hr G0 .rfl).row hb
                have hx0 := ext_zero' (o := off) (sp := sp) (c := c) hRm (hex.imp id fun h => by
                  rw [h.1]
                  exact h.2.imp id fun h => by simpa [Nat.blt_eq] using h)
                have hg := hgrowR G0 w (some (dA G0 ⟨b, off, sp⟩)) l c _ (hS.hr G0 .rfl) (hold G0 w us (hS.hr G0 .rfl) hud hub c) (by omega) hsm
                refine OpS.grow1 (zs := (Builtin.zeroCells zv.cells (grownCap w (l + n) c e - (l + n))).toList) (cap := grownCap w (l + n) c e) hS .rfl hh (fun G hG => ?_) hall (grownCap_ge w (l + n) c e) (by rw [Array.length_toList, size_zeroCells, hzl]; rfl) (runs (ht G0 .rfl) ?_)
                · rw [List.map_append, List.map_append, stv al G0 a w ht hS G hG, hstu al G0 w us hS hud G hG]
                · show (Builtin.append_ #[t, u] o.type #[.slice (some (dA G0 ⟨b, off, sp⟩)) l (c + ext G0 ⟨b, off, sp⟩ c), _]).run P w = _
                  rw [hx0, Nat.add_zero, hg]
                  congr 3
                  apply Array.ext'
                  simp
            · split
              · rename_i hex ham
                simp only [Bool.and_eq_true, Nat.beq_eq] at ham
                obtain ⟨hop, hty, hsp, hend⟩ := ham
                have hsp : sp = none := Option.isNone_iff_eq_none.1 hsp
                subst hsp
                subst hop
                subst hty
                have hend : off + c * (sz + 1) = cs.length := hend
                split
                · rename_i hone
                  rw [List.all_eq_true] at hone
                  generalize hK2 : (fun h => _) = K2
                  rcases Tr.put_spec z .d H.h b K2 with h | ⟨h1, h, hh1⟩
                  · exact .inl h
                  rw [h, ← hK2]
                  clear hK2 h
                  dsimp only
                  rcases newK_spec (z := z) (b := .c (us ++ vs) ty (sz + 1)) (H := ⟨h1, H.n⟩) (K := fun k H => K (.slice (some ⟨k, 0, none⟩) (Nat.add l n) (Nat.add l n)) H) with h | ⟨h', h, hh⟩
                  · exact .inl h
                  · refine .inr ⟨_, _, h, fun al G0 a w ht hS => ?_⟩
                    obtain ⟨pr, jk, hw, hRm⟩ := (hS.hr G0 .rfl).row hb
                    have hx0 := ext_xt (o := off) (c := c) hRm (Nat.succ_ne_zero sz) (by omega)
                    have hd := hRm.2.2
                    obtain ⟨_, _, hjk⟩ := hRm.2.1 (Nat.succ_ne_zero sz)
                    have hst2 : ∀ G, Ag al G0 G → (us ++ vs).map (den G) = (us ++ vs).map (den G0) := fun G hG => by
                      rw [List.map_append, List.map_append, stv al G0 a w ht hS G hG, hstu al G0 w us hS hud G hG]
                    by_cases hfit : l + n ≤ c + (G0 b).xt
                    · -- in the old block
                      have hsp2 : (l + n) * (sz + 1) ≤ (c + (G0 b).xt) * (sz + 1) := Nat.mul_le_mul_right _ hfit
                      rw [Nat.add_mul, Nat.add_mul] at hsp2
                      have hst := run_storeCells_at P (G0 b).b (off + l * (sz + 1) + pr.length) ty (vs.map (den G0)) 0 _ w hw (by simp; omega) (fun x hx => by
                        obtain ⟨x', hx', rfl⟩ := List.mem_map.1 hx
                        rw [oneCell_den]
                        exact hone x' hx')
                      simp only [Nat.add_zero] at hst
                      generalize hL : pr ++ cs.map (den G0) ++ jk = L at hw hst
                      have hLl : L.length = pr.length + cs.length + (G0 b).xt * (sz + 1) := by rw [← hL, ← hjk]; simp; omega
                      have hcut : L.take (off + l * (sz + 1) + pr.length) = L.take (off + pr.length) ++ us.map (den G0) := by
                        rw [show off + l * (sz + 1) + pr.length = (off + pr.length) + l * (sz + 1) by omega, List.take_add]
                        congr 1
                        rcases hub with h0 | h0
                        · subst h0
                          simp [hud]
                        · rw [hud, ← hL, List.append_assoc, Nat.add_comm off, List.drop_length_add_append, List.drop_append_of_le_length (by simp; omega), List.take_append_of_le_length (by simp; omega), List.map_take, List.map_drop]
                      have hr1 := hroomR G0 w (w.setRow (G0 b).b (L.take (off + l * (sz + 1) + pr.length) ++ vs.map (den G0) ++ L.drop (off + l * (sz + 1) + pr.length + (vs.map (den G0)).length)).toArray) (some (dA G0 ⟨b, off, none⟩)) l (c + (G0 b).xt) (hS.hr G0 .rfl) hfit (fun a' h' => by
                        cases h'
                        rw [dA_off]
                        show (storeCells ⟨(G0 b).b, off + l * (sz + 1) + (G0 b).d, none⟩ _ 0).run P w = _
                        rw [hd]
                        simpa using hst) (fun h => nomatch h)
                      obtain ⟨h5, h6⟩ := HS.move (h' := h') (w' := w.setRow (G0 b).b (L.take (off + l * (sz + 1) + pr.length) ++ vs.map (den G0) ++ L.drop (off + l * (sz + 1) + pr.length + (vs.map (den G0)).length)).toArray) (b' := .c (us ++ vs) ty (sz + 1))
                        ⟨(G0 b).b, off + pr.length, (us ++ vs).length, sz + 1, c + (G0 b).xt - (l + n)⟩ hS hb rfl (fun j => by
                          have := hh j
                          rw [hh1] at this
                          exact this) rfl (fun G hG hn => by
                          refine ⟨L.take (off + pr.length), L.drop (off + l * (sz + 1) + pr.length + (vs.map (den G0)).length), ?_, ⟨fun h => (nomatch h), fun _ => ⟨by rw [hn], by rw [hn], ?_⟩, by rw [hn]; simp; omega⟩⟩
                          · rw [hn, hst2 G hG, List.map_append]
                            have := setRow_heap w (G0 b).b _ (L.take (off + l * (sz + 1) + pr.length) ++ vs.map (den G0) ++ L.drop (off + l * (sz + 1) + pr.length + (vs.map (den G0)).length)).toArray _ _ hw
                            rw [this, hcut]
                            simp
                          · rw [hn]
                            simp only [List.length_drop, List.length_map, hLl, hvl]
                            rw [Nat.sub_mul, Nat.add_mul, Nat.add_mul]
                            omega) (fun j hj => setRow_other w _ _ _ hj) (size_setRow w _ _) rfl rfl rfl
                      refine ⟨_, _, _, h6, h5, _, runs (ht G0 .rfl) (v := .slice (some (dA G0 ⟨b, off, none⟩)) (l + n) (c + (G0 b).xt)) ?_, fun G hG => ?_⟩
                      · show (Builtin.append_ #[t, u] o.type #[.slice (some (dA G0 ⟨b, off, none⟩)) l (c + ext G0 ⟨b, off, none⟩ c), _]).run P w = _
                        rw [hx0]
                        exact hr1
                      · have hn := hG H.n (.inr rfl)
                        simp only [if_true] at hn
                        have hx : ext G ⟨H.n, 0, none⟩ (l + n) = c + (G0 b).xt - (l + n) := by
                          unfold ext
                          rw [if_neg]
                          · rw [hn]
                          · simp only [Option.isSome_none, Bool.false_or, decide_eq_true_eq, hn, hall]
                            omega
                        show _ = Value.slice (some (dA G ⟨H.n, 0, none⟩)) (l + n) (l + n + ext G ⟨H.n, 0, none⟩ (l + n))
                        rw [hx]
                        simp only [dA, hn, hd, Nat.zero_add]
                        congr 1
                        omega
                    · -- in a new one
                      obtain ⟨hS1, hT1⟩ := hS.kill hb rfl hh1
                      have hg := hgrowR G0 w (some (dA G0 ⟨b, off, none⟩)) l (c + (G0 b).xt) _ (hS.hr G0 .rfl) (hold G0 w us (hS.hr G0 .rfl) hud hub _) (by omega) hsm
                      refine OpS.grow1 (zs := (Builtin.zeroCells zv.cells (grownCap w (l + n) (c + (G0 b).xt) ty - (l + n))).toList) (cap := grownCap w (l + n) (c + (G0 b).xt) ty) hS1 hT1 hh hst2 hall (grownCap_ge w (l + n) _ ty) (by rw [Array.length_toList, size_zeroCells, hzl]; rfl) (runs (ht G0 .rfl) ?_)
                      show (Builtin.append_ #[t, u] o.type #[.slice (some (dA G0 ⟨b, off, none⟩)) l (c + ext G0 ⟨b, off, none⟩ c), _]).run P w = _
                      rw [hx0, hg]
                      congr 3
                      apply Array.ext'
                      simp
                · exact .inl rfl
              · exact .inl rfl
        · exact .inl rfl
      · exact .inl rfl
  · exact .inl rfl
theorem tyZeroY_is {t : TypeId} {zs : List Value} (h : tyZeroY P t = some zs) : tyZero P t = some zs ∧ ∀ i, P.info? t = some i → i.bytes ≤ 65536 := by
  unfold tyZeroY at h
  split at h
  · rename_i y hy
    split at h
    · rename_i hb
      exact ⟨h, fun i hi => by rw [tyY_is hy hi]; exact Nat.le_of_ble_eq_true hb⟩
    · cases h
  · cases h
theorem ops_append {cl : Call} {ts : List TypeId} {p q : Operand} (ho : o.op = .call cl) (hc : cl.callee = .builtin .append) (hts : cl.argTypes.toList = ts) (hxs : cl.args.toList = [p, q]) (hp : opdOk p = true) (hq : opdOk q = true) {K : Value → CH → β} :
    appendK P z ts (evT T p) (evT T q) H K = z ∨ ∃ v H', appendK P z ts (evT T p) (evT T q) H K = K v H' ∧ OpS P T m o H v H' := by
  unfold appendK
  split
  · rename_i t u
    split
    · rename_i pr hpr
      obtain ⟨he, inf, hinf, hsz'⟩ := tyE_is hpr
      split
      · rename_i zs sz xb n xc hz hsz hx
        split
        · rename_i hu
          obtain ⟨e2, hue⟩ := tySlc_is hu
          obtain ⟨hz0, hby⟩ := tyZeroY_is hz
          obtain ⟨i, v0, hi, hzv, hcs, hlen, _, hzd⟩ := tyZero_is hz0
          rw [hinf] at hi
          cases hi
          have hby := hby inf hinf
          have hs1 : inf.size = sz + 1 := hsz'.trans hsz
          have hzl : v0.cells.size = sz + 1 := by rw [← hs1, ← hlen, ← hcs]; simp
          rw [hx]
          rcases firstK_spec (P := P) (z := z) (H := H) (x := .slice xb n xc) (n := n) (sz := sz + 1) (K := fun vs => appK z (evT T p) vs n pr.1 (sz + 1) H K) with h | ⟨vs, h, hvl, _, hsrc⟩
          · exact .inl h
          · rw [h]
            have hsrc := hsrc (.inr ⟨xb, n, xc, rfl⟩)
            refine OpS.app ho hc hts hxs hp hq rfl hx hzl hvl (fun G w w' base l c hr h1 h2 h3 => ?_) (fun G w base l c olds hr h1 h2 h3 => ?_) (fun al G0 a w ht hS G hG => ?_)
            · obtain ⟨xc', hxd⟩ := den_sl G xb n xc
              have h0 := hsrc G w w hr rfl
              rw [hxd] at h0 ⊢
              exact run_app_room he hue hinf (by rw [hs1]; exact h0) h1 (by rw [hs1]; simpa using h2) h3
            · obtain ⟨xc', hxd⟩ := den_sl G xb n xc
              have h0 := hsrc G w w.drew hr rfl
              rw [hxd] at h0 ⊢
              exact run_app_grow he hue hinf hzv (by rw [hs1]; exact h1) (by rw [hs1]; exact h0) h2 h3 hby
            · have h1 := hsrc G w w (hS.hr G hG) rfl
              have h2 := hsrc G0 w w (hS.hr G0 .rfl) rfl
              have e1 : den G (.slice xb n xc) = den G0 (.slice xb n xc) := by rw [← hx, ← ev_den (ht G hG) hq, ← ev_den (ht G0 .rfl) hq]
              rw [e1, h2] at h1
              injection h1 with h3
              simpa using h3.symm
        · exact .inl rfl
      · rename_i zs sz k n hz hsz hx
        split
        · rename_i ki hu hn
          have hue := tyIntK_is hu
          have hn := Nat.le_of_ble_eq_true hn
          obtain ⟨hz0, hby⟩ := tyZeroY_is hz
          obtain ⟨i, v0, hi, hzv, hcs, hlen, _, hzd⟩ := tyZero_is hz0
          rw [hinf] at hi
          cases hi
          have hby := hby inf hinf
          have hs1 : inf.size = sz + 1 := hsz'.trans hsz
          have hzl : v0.cells.size = sz + 1 := by rw [← hs1, ← hlen, ← hcs]; simp
          refine OpS.app ho hc hts hxs hp hq rfl hx hzl (by rw [zerosL_len, hlen, hs1]) (fun G w w' base l c hr h1 h2 h3 => ?_) (fun G w base l c olds hr h1 h2 h3 => ?_) (fun al G0 a w ht hS G hG => by rw [zerosL_den (hzd G), zerosL_den (hzd G0)])
          · rw [zerosL_den (hzd G)] at h2
            exact run_app_roomZ he hue hinf hzv (by omega) hn hby h1 (by rw [hs1, hcs]; exact h2) h3
          · rw [zerosL_den (hzd G)]
            have := run_app_growZ (ty := o.type) (k := k) he hue hinf hzv (by omega) hn (by rw [hs1]; exact h1) h2 h3 hby
            rw [hcs] at this
            exact this
        · exact .inl rfl
      · exact .inl rfl
    · exact .inl rfl
  · exact .inl rfl
end
end Go.Proofs.YtmhnlkakbadkgaaGreat.Ck
