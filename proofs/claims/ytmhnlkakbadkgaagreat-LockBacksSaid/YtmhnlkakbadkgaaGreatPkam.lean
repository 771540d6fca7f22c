/- Part 13 of the proof of LockBacks: contracts of functions that the law reaches, or the rules by which they are walked. No condition. -/
import Derived.Test.YtmhnlkakbadkgaaGreatPkal
import Derived.Great.BuildSlice
namespace Go.Proofs.YtmhnlkakbadkgaaGreat.Ck
open Go Go.RowKit Go.Shelf
set_option maxRecDepth 100000
section
variable {P : Program} {T : Tr Value} {m : Nat} {o : Oper} {H : CH} {β : Type} {z : β}
theorem newK_spec {b : Bk} {K : Nat → CH → β} : newK z b H K = z ∨ ∃ h', newK z b H K = K H.n ⟨h', H.n + 1⟩ ∧ ∀ j, h'.get j = if j = H.n then some b else H.h.get j := by
  unfold newK
  rcases Tr.put_spec z b H.h H.n (fun h => K H.n ⟨h, Nat.succ H.n⟩) with h | ⟨h', h, h2⟩
  · exact .inl h
  · exact .inr ⟨h', h, h2⟩
theorem OpS.alloc {b : Bk} {h' : Tr Bk} {v : Value} (hh : ∀ j, h'.get j = if j = H.n then some b else H.h.get j)
    (hrun : ∀ (al : Nat → Prop) (G0 : Gh) (a : Act) (w : World), TS al G0 T m a → HS al G0 H w → ∃ (g : GI) (w' : World) (u : Value), Runs P o a w u w' ∧ (∀ j, j < w.heap.size → w'.heap[j]? = w.heap[j]?) ∧ w.heap.size ≤ w'.heap.size ∧ w'.os = w.os ∧ w'.tape = w.tape ∧ w'.output = w.output ∧
      (live b = true → w.heap.size ≤ g.b) ∧ ∀ G, Ag al G0 G → G H.n = g → (live b = true → BR G H.n w' b) ∧ u = den G v) : OpS P T m o H v ⟨h', H.n + 1⟩ := by
  intro al G0 a w ht hs
  obtain ⟨g, w', u, h1, h2, h3, h4, h5, h6, h7, h8⟩ := hrun al G0 a w ht hs
  have hA := HS.alloc g hs hh (fun G hG hn hl => (h8 G hG hn).1 hl) h2 h7 h3 h4 h5 h6
  refine ⟨_, _, w', hA.2, hA.1, u, h1, fun G hG => ?_⟩
  have hne : ∀ k, al k → k ≠ H.n := fun k hk => Nat.ne_of_lt (hs.lt k hk)
  refine (h8 G (fun k hk => ?_) ?_).2
  · have := hG k (.inl hk)
    rw [this]
    exact if_neg (hne k hk)
  · rw [hG H.n (.inr rfl)]
    exact if_pos rfl
theorem OpD.w {h' : Tr Bk} {v : Value} (hh : ∀ j, h'.get j = if j = H.n then some Bk.d else H.h.get j) (h : OpD P T m o H v) : OpW P T m o H v ⟨h', H.n + 1⟩ :=
  ⟨OpS.alloc hh fun al G0 a w ht hs => by
    obtain ⟨g, u, h1, h2⟩ := h G0 a w (ht G0 .rfl) (hs.hr G0 .rfl)
    exact ⟨g, w, u, h1, fun _ _ => rfl, Nat.le_refl _, rfl, rfl, rfl, fun h => (nomatch h), fun G _ hn => ⟨fun h => (nomatch h), h2 G hn⟩⟩, fun _ h => absurd h (Nat.succ_ne_self _), fun _ _ => h⟩
theorem OpS.row {cs : List Value} {t : TypeId} {h' : Tr Bk} {v : Value} (u : Nat → Value) (hh : ∀ j, h'.get j = if j = H.n then some (.c cs t 0) else H.h.get j)
    (hrun : ∀ (G : Gh) (a : Act) (w : World), TR G T m a.tmps → HR G H.h w → (execOp a.eval o).run P w = .ok (.value (u w.heap.size)) (w.alloc (.cells ⟨cs.map (den G)⟩ t)))
    (hv : ∀ (G : Gh) (s : Nat), G H.n = ⟨s, 0, 0, 0, 0⟩ → u s = den G v) : OpS P T m o H v ⟨h', H.n + 1⟩ := by
  refine OpS.alloc hh fun al G0 a w ht hs => ⟨⟨w.heap.size, 0, 0, 0, 0⟩, w.alloc (.cells ⟨cs.map (den G0)⟩ t), u w.heap.size, .inl (hrun G0 a w (ht G0 .rfl) (hs.hr G0 .rfl)), fun j hj => Below.heap_alloc w _ j hj, by simp, rfl, rfl, rfl, fun _ => Nat.le_refl _, fun G hG hn => ⟨fun _ => ?_, hv G _ hn⟩⟩
  refine ⟨[], [], ?_, ⟨fun _ => ⟨rfl, rfl, by rw [hn]⟩, fun h => absurd rfl h, by rw [hn]; rfl⟩⟩
  have h1 := hrun G0 a w (ht G0 .rfl) (hs.hr G0 .rfl)
  have h2 := hrun G a w (ht G hG) (hs.hr G hG)
  rw [h1] at h2
  injection h2 with _ h3
  rw [hn, h3]
  simpa using World.alloc_heap_new w (.cells ⟨cs.map (den G)⟩ t)
theorem ops_alloc {t : TypeId} (ho : o.op = .alloc t) {K : Value → CH → β} {cs : List Value} (hz : tyZero P t = some cs) : newK z (.c cs t 0) H (fun k H => K (.pointer (some ⟨k, 0, none⟩)) H) = z ∨
    ∃ v H', newK z (.c cs t 0) H (fun k H => K (.pointer (some ⟨k, 0, none⟩)) H) = K v H' ∧ OpS P T m o H v H' := by
  obtain ⟨i, v0, hi, hzv, hcs, hlen, _, hzd⟩ := tyZero_is hz
  have hc0 : v0.cells = ⟨cs⟩ := by rw [← hcs]
  rcases newK_spec (z := z) (b := .c cs t 0) (H := H) (K := fun k H => K (.pointer (some ⟨k, 0, none⟩)) H) with h | ⟨h', h, hh⟩
  · exact .inl h
  · refine .inr ⟨_, _, h, OpS.row (fun s => .pointer (some ⟨s, 0, none⟩)) hh (fun G a w ht hr => ?_) (fun G s hs => ?_)⟩
    · rw [hzd G]
      simp [execOp, ho, Instr.alloc, zeroValue, typeInfo, hi, hzv, newVar, newRow, hc0]
    · simp [den, dA, hs]
theorem ops_box {t : TypeId} {x : Operand} (ho : o.op = .box t x) (hx : opdOk x = true) {K : Value → CH → β} : newK z (.c (arrL (evT T x).cells) t 0) H (fun k H => K (.pointer (some ⟨k, 0, none⟩)) H) = z ∨
    ∃ v H', newK z (.c (arrL (evT T x).cells) t 0) H (fun k H => K (.pointer (some ⟨k, 0, none⟩)) H) = K v H' ∧ OpS P T m o H v H' := by
  rcases newK_spec (z := z) (b := .c (arrL (evT T x).cells) t 0) (H := H) (K := fun k H => K (.pointer (some ⟨k, 0, none⟩)) H) with h | ⟨h', h, hh⟩
  · exact .inl h
  · refine .inr ⟨_, _, h, OpS.row (fun s => .pointer (some ⟨s, 0, none⟩)) hh (fun G a w ht hr => ?_) (fun G s hs => ?_)⟩
    · have e := ev_den ht hx
      have e2 : (a.eval x).cells = ⟨(arrL (evT T x).cells).map (den G)⟩ := by
        apply Array.ext'
        rw [e, den_cells, arrL_toList]
      simp [execOp, ho, Instr.box, newVar, newRow, e2]
    · simp [den, dA, hs]
theorem zerosL_len (zs : List Value) (n : Nat) : (zerosL zs n).length = n * zs.length := by simp [zerosL]
theorem zerosL_den {zs : List Value} {G : Gh} (h : zs.map (den G) = zs) (n : Nat) : (zerosL zs n).map (den G) = zerosL zs n := by
  simp [zerosL, List.map_flatten, h]
theorem range_zeros (zs : Array Value) (s : Nat) (hs : zs.size = s) : ∀ n : Nat, ((Array.range (n * s)).map (zs[· % zs.size]!)).toList = zerosL zs.toList n
  | 0 => by simp [zerosL]
  | n + 1 => by
    have ih := range_zeros zs s hs n
    simp only [Array.toList_map, Array.toList_range] at ih ⊢
    rw [Nat.succ_mul, List.range_add, List.map_append, ih]
    unfold zerosL
    rw [List.replicate_succ', List.flatten_append]
    congr 1
    simp only [List.flatten_cons, List.flatten_nil, List.append_nil, List.map_map]
    apply List.ext_getElem
    · simp [hs]
    · intro i h1 h2
      simp only [List.length_map, List.length_range] at h1
      simp only [List.getElem_map, List.getElem_range, Function.comp_apply, hs]
      rw [Nat.mul_comm, Nat.mul_add_mod, Nat.mod_eq_of_lt h1]
      simp [hs, h1]
theorem zeroCells_toList (zs : Array Value) (n : Nat) : (Builtin.zeroCells zs n).toList = zerosL zs.toList n := range_zeros zs zs.size rfl n
theorem ops_buildSlice {t : TypeId} {l : Nat} {ps : Array (Nat × Operand)} (ho : o.op = .buildSlice t l ps) (hok : ∀ p ∈ ps.toList, opdOk p.2 = true) {K : Value → CH → β} : buildSK P z T t l ps.toList H K = z ∨
    ∃ v H', buildSK P z T t l ps.toList H K = K v H' ∧ OpS P T m o H v H' := by
  unfold buildSK
  split
  · rename_i p hp
    split
    · rename_i zs sz hz hb hsz
      obtain ⟨he, inf, hinf, hsz'⟩ := tyE_is hp
      obtain ⟨i, v0, hi, hzv, hcs, hlen, _, hzd⟩ := tyZero_is hz
      rw [hinf] at hi
      cases hi
      have hs1 : inf.size = sz + 1 := hsz'.trans hsz
      rcases fillRK_spec (z := z) (m := m) (T := T) (sz := sz) ps.toList (zerosL zs l) (fun cs => newK z (.c cs p.1 0) H fun k H => K (.slice (some ⟨k, 0, none⟩) l l) H) hok with h | ⟨ds, h, hdl, h4⟩
      · exact .inl h
      · rcases newK_spec (z := z) (b := .c ds p.1 0) (H := H) (K := fun k H => K (.slice (some ⟨k, 0, none⟩) l l) H) with h2 | ⟨h', h2, hh⟩
        · exact .inl (h.trans h2)
        · rcases Nat.eq_zero_or_pos l with hl0 | hl0
          · subst hl0
            refine .inr ⟨_, _, h.trans h2, OpS.row (fun s => .slice (some ⟨s, 0, none⟩) 0 0) hh (fun G a w ht hr => ?_) (fun G s hs => ?_)⟩
            · have hf := h4 G a ht
              have hd0 : ds = [] := List.eq_nil_of_length_eq_zero (by rw [hdl]; simp [zerosL])
              subst hd0
              simp only [zerosL, List.replicate_zero, List.flatten_nil, List.map_nil] at hf
              have hps : (ps.map fun x => (x.1, a.eval x.2)).toList = ps.toList.map fun p => (p.1, a.eval p.2) := by simp
              have e0 : (Array.range 0) = (#[] : Array Nat) := rfl
              simp [execOp, ho, Instr.buildSlice, run_underlying he, sizeOf, typeInfo, hinf, newRow, hs1, e0, hf]
            · simp [den, dA, ext, hs]
          · refine .inr ⟨_, _, h.trans h2, OpS.row (fun s => .slice (some ⟨s, 0, none⟩) l l) hh (fun G a w ht hr => ?_) (fun G s hs => ?_)⟩
            · have hf := h4 G a ht
              rw [zerosL_den (hzd G)] at hf
              have hc0 : v0.cells.size = inf.size := by rw [← hlen, ← hcs]; simp
              have hz2 : ((Array.range (l * inf.size)).map (v0.cells[· % v0.cells.size]!)) = (zerosL zs l).toArray := by
                apply Array.ext'
                rw [range_zeros v0.cells inf.size hc0 l, hcs]
              have hb2 : l * inf.size ≤ 2 ^ 24 := by
                have := Nat.le_of_ble_eq_true hb
                rw [hsz']
                exact this
              have := run_buildSlice (P := P) w t p.1 l (ps.map fun (i, x) => (i, a.eval x)) ⟨ds.map (den G)⟩ inf v0 he hinf hzv (by omega) (by rw [hs1]; exact Nat.ne_of_gt (Nat.mul_pos hl0 (Nat.succ_pos _))) (by
                rw [hz2, Array.toList_map, hs1]
                exact hf)
              simp [execOp, ho, this]
            · simp [den, dA, ext, hs]
    · exact .inl rfl
  · exact .inl rfl
theorem ops_makeMap {t : TypeId} (ho : o.op = .makeMap t none) {K : Value → CH → β} : newK z (.o (.map #[] 0)) H (fun k H => K (.map (some k)) H) = z ∨
    ∃ v H', newK z (.o (.map #[] 0)) H (fun k H => K (.map (some k)) H) = K v H' ∧ OpS P T m o H v H' := by
  rcases newK_spec (z := z) (b := .o (.map #[] 0)) (H := H) (K := fun k H => K (.map (some k)) H) with h | ⟨h', h, hh⟩
  · exact .inl h
  · refine .inr ⟨_, _, h, OpS.alloc hh fun al G0 a w ht hs => ⟨⟨w.heap.size, 0, 0, 0, 0⟩, w.alloc (.map #[] 0), .map (some w.heap.size), .inl ?_, fun j hj => Below.heap_alloc w _ j hj, by simp, rfl, rfl, rfl, fun _ => Nat.le_refl _, fun G hG hn => ⟨fun _ => ?_, by simp [den, hn]⟩⟩⟩
    · simp [execOp, ho, Instr.makeMap]
    · show (w.alloc (.map #[] 0)).heap[(G H.n).b]? = _
      rw [hn]
      exact World.alloc_heap_new w _
theorem tyY_is {t : TypeId} {y : Nat} (h : tyY P t = some y) {i : TypeInfo} (hi : P.info? t = some i) : i.bytes = y := by
  unfold tyY at h
  rw [hi] at h
  cases h
  rfl
theorem ops_makeSlice {t : TypeId} {l c : Operand} (ho : o.op = .makeSlice t l c) (hl : opdOk l = true) (hc : opdOk c = true) {K : Value → CH → β} : makeSlK P z t (evT T l) (evT T c) H K = z ∨
    ∃ v H', makeSlK P z t (evT T l) (evT T c) H K = K v H' ∧ OpS P T m o H v H' := by
  unfold makeSlK
  split
  · rename_i kl l' kc c' hu hv
    split
    · rename_i p hp
      split
      · rename_i zs y sz hz hy hb hsz
        split
        · exact .inl rfl
        · rename_i hy2
          obtain ⟨he, inf, hinf, hsz'⟩ := tyE_is hp
          obtain ⟨i, v0, hi, hzv, hcs, hlen, _, hzd⟩ := tyZero_is hz
          rw [hinf] at hi
          cases hi
          have hby := tyY_is hy hinf
          simp only [Bool.and_eq_true, Nat.ble_eq] at hb
          have hy2 := Nat.le_of_ble_eq_true hy2
          rcases newK_spec (z := z) (b := .c (zerosL zs c') p.1 0) (H := H) (K := fun k H => K (.slice (some ⟨k, 0, none⟩) l' c') H) with h2 | ⟨h', h2, hh⟩
          · exact .inl h2
          · refine .inr ⟨_, _, h2, OpS.row (fun s => .slice (some ⟨s, 0, none⟩) l' c') hh (fun G a w ht hr => ?_) (fun G s hs => ?_)⟩
            · have e1 := ev_den ht hl
              have e2 := ev_den ht hc
              rw [hu] at e1
              rw [hv] at e2
              simp only [den_int] at e1 e2
              have hm : inf.bytes * c' ≤ 65536 * 65536 := by rw [hby]; exact Nat.mul_le_mul hy2 hb.2
              have hm2 : (inf.bytes : Int) * (c' : Int) ≤ 281474976710656 := by
                have : ((inf.bytes * c' : Nat) : Int) ≤ 281474976710656 := by omega
                rwa [Int.natCast_mul] at this
              have hrun := run_make (P := P) w t p.1 inf v0 he hinf hzv kl kc (l' : Int) (c' : Int) (Int.natCast_nonneg _) (by omega) hm2 (by omega)
              have hc0 : v0.cells.size = inf.size := by rw [← hlen, ← hcs]; simp
              have hz2 : madeCells v0.cells ((c' : Int).toNat * inf.size) = (zerosL zs c').toArray := by
                apply Array.ext'
                rw [Int.toNat_natCast]
                exact (range_zeros v0.cells inf.size hc0 c').trans (by rw [hcs])
              rw [hz2] at hrun
              simp only [Int.toNat_natCast] at hrun
              rw [zerosL_den (hzd G)]
              simp only [execOp, ho, e1, e2, Int.ofNat_eq_natCast, Sem.run_bind, hrun, Result.andThen_ok, Sem.run_pure]
            · simp [den, dA, ext, hs]
      · exact .inl rfl
    · exact .inl rfl
  · exact .inl rfl
end
end Go.Proofs.YtmhnlkakbadkgaaGreat.Ck
namespace Go.Proofs.YtmhnlkakbadkgaaGreat.Ck
open Go Go.RowKit Go.Shelf
set_option maxRecDepth 100000
section
variable {P : Program} {T : Tr Value} {m : Nat} {o : Oper} {H : CH} {β : Type} {z : β}
theorem bound_spec {x : Option Operand} {d : Nat} {K : Nat → β} : bound z x T d K = z ∨ ∃ n, bound z x T d K = K n ∧ (x = none → n = d) ∧ ∀ y, x = some y → ∃ k, evT T y = .int k (.ofNat n) := by
  unfold bound
  split
  · exact .inr ⟨d, rfl, fun _ => rfl, fun _ h => nomatch h⟩
  · rename_i y
    split
    · rename_i k n h
      exact .inr ⟨n, rfl, (fun h => nomatch h), fun y' h' => by cases h'; exact ⟨k, h⟩⟩
    · exact .inl rfl
theorem run_bounds {isS : Bool} {len cap m h l : Nat} {lo hi mx : Option Value} (h1 : mx = none → m = cap) (h2 : ∀ v, mx = some v → ∃ k, v = .int k (.ofNat m)) (h3 : m ≤ cap) (h4 : hi = none → h = len) (h5 : ∀ v, hi = some v → ∃ k, v = .int k (.ofNat h)) (h6 : hi = none → mx = none) (h7 : hi.isSome = true → h ≤ m)
    (h8 : lo = none → l = 0) (h9 : ∀ v, lo = some v → ∃ k, v = .int k (.ofNat l)) (h10 : l ≤ h) (w : World) : (Instr.sliceBounds isS len cap lo hi mx).run P w = .ok (l, h, m) w := by
  have sb : ∀ (k : IntKind) (n y : Nat) (c : BoundsCode), n ≤ y → (Instr.sliceBound (.int k (n : Int)) y c).run P w = .ok n w := fun k n y c hn => by
    have h' : (0 : Int) ≤ (n : Int) ∧ (n : Int) ≤ (y : Int) := ⟨Int.natCast_nonneg n, by exact_mod_cast hn⟩
    simp only [Instr.sliceBound, asIntOf, Sem.run_bind, Sem.run_pure, Result.andThen_ok, h', and_self, if_true, Int.toNat_natCast]
  unfold Instr.sliceBounds
  cases mx with
  | none =>
    have := h1 rfl
    subst this
    cases hi with
    | none =>
      have := h4 rfl
      subst this
      cases lo with
      | none => have := h8 rfl; subst this; simp
      | some v => obtain ⟨k, rfl⟩ := h9 v rfl; simp [sb k l h _ h10]
    | some u =>
      obtain ⟨k', rfl⟩ := h5 u rfl
      cases lo with
      | none => have := h8 rfl; subst this; simp [sb k' h m _ (h7 rfl)]
      | some v => obtain ⟨k, rfl⟩ := h9 v rfl; simp [sb k l h _ h10, sb k' h m _ (h7 rfl)]
  | some x =>
    obtain ⟨k'', rfl⟩ := h2 x rfl
    cases hi with
    | none => exact absurd (h6 rfl) (by simp)
    | some u =>
      obtain ⟨k', rfl⟩ := h5 u rfl
      cases lo with
      | none => have := h8 rfl; subst this; simp [sb k' h m _ (h7 rfl), sb k'' m cap _ h3]
      | some v => obtain ⟨k, rfl⟩ := h9 v rfl; simp [sb k l h _ h10, sb k' h m _ (h7 rfl), sb k'' m cap _ h3]
theorem ext_zero' {G : Gh} {b o : Nat} {sp : Option Nat} {c l p j op : Nat} (hr : Room (G b) l p j op) (h : op = 0 ∨ sp.isSome = true ∨ o + c * op < l) : ext G ⟨b, o, sp⟩ c = 0 := by
  refine ext_zero hr (h.imp id fun h => ?_)
  simpa [Nat.blt_eq] using h
theorem ext_xt {G : Gh} {b o : Nat} {c l p j op : Nat} (hr : Room (G b) l p j op) (h0 : op ≠ 0) (h : l ≤ o + c * op) : ext G ⟨b, o, none⟩ c = (G b).xt := by
  obtain ⟨h1, h2, _⟩ := hr.2.1 h0
  unfold ext
  rw [if_neg]
  simp only [Option.isSome_none, Bool.false_or, decide_eq_true_eq, h1, h2]
  omega
theorem optOk {x : Option Operand} (h : ∀ y, x = some y → opdOk y = true) {G : Gh} {a : Act} (ht : TR G T m a.tmps) {n : Nat} (hn : ∀ y, x = some y → ∃ k, evT T y = .int k (.ofNat n)) : ∀ v, x.map a.eval = some v → ∃ k, v = .int k (.ofNat n) := by
  intro v hv
  cases x with
  | none => cases hv
  | some y =>
    cases hv
    obtain ⟨k, hk⟩ := hn y rfl
    exact ⟨k, by rw [ev_den ht (h y rfl), hk]; rfl⟩
theorem ops_slice {t : TypeId} {x : Operand} {lo hi mx : Option Operand} (ho : o.op = .slice t x lo hi mx) (hx : opdOk x = true) (hlo : ∀ y, lo = some y → opdOk y = true) (hhi : ∀ y, hi = some y → opdOk y = true) (hmx : ∀ y, mx = some y → opdOk y = true)
    {K : Value → CH → β} : sliceK P z T t (evT T x) lo hi mx H K = z ∨ ∃ v H', sliceK P z T t (evT T x) lo hi mx H K = K v H' ∧ OpW P T m o H v H' := by
  unfold sliceK
  split
  · rename_i a len cap hu
    split
    · rename_i p hp
      obtain ⟨he, inf, hinf, hsz⟩ := tyE_is hp
      generalize hK1 : (fun mm => bound z hi T len fun h => bound z lo T 0 fun l => _) = K1
      rcases bound_spec (z := z) (x := mx) (T := T) (d := cap) (K := K1) with h0 | ⟨mm, h0, m1, m2⟩
      · exact .inl h0
      rw [h0, ← hK1]
      dsimp only
      generalize hK2 : (fun h => bound z lo T 0 fun l => _) = K2
      rcases bound_spec (z := z) (x := hi) (T := T) (d := len) (K := K2) with h0 | ⟨hh, h0, i1, i2⟩
      · exact .inl h0
      rw [h0, ← hK2]
      dsimp only
      generalize hK3 : (fun l => _) = K3
      rcases bound_spec (z := z) (x := lo) (T := T) (d := 0) (K := K3) with h0 | ⟨ll, h0, l1, l2⟩
      · exact .inl h0
      rw [h0, ← hK3]
      clear hK1 hK2 hK3
      dsimp only
      split
      · rename_i hc
        simp only [Bool.and_eq_true, Nat.ble_eq, Bool.or_eq_true] at hc
        obtain ⟨c1, c2, c3, c4⟩ := hc
        have c4' : hi = none → mx = none := fun h => by
          rcases c4 with c4 | c4
          · exact Option.isNone_iff_eq_none.1 c4
          · rw [h] at c4; cases c4
        refine .inr ⟨_, _, rfl, (OpP.mk fun G a w ht hr => ?_).w⟩
        have e := ev_den ht hx
        rw [hu] at e
        have hb := run_bounds (P := P) (isS := true) (len := len) (cap := cap) (m := mm) (h := hh) (l := ll) (lo := lo.map a.eval) (hi := hi.map a.eval) (mx := mx.map a.eval) (fun h => m1 (by simpa using h)) (optOk hmx ht m2) c1 (fun h => i1 (by simpa using h)) (optOk hhi ht i2) (fun h => by simpa using c4' (by simpa using h)) (fun _ => c2)
          (fun h => l1 (by simpa using h)) (optOk hlo ht l2) c3 w
        simp [execOp, ho, e, den, Instr.sliceAt, run_underlying he, Instr.slice, hb, sizeOf, typeInfo, hinf]
      · rename_i b off sp hc
        simp only [Bool.and_eq_true, Nat.ble_eq, Bool.or_eq_true] at hc
        obtain ⟨c1, c2, c3, c4⟩ := hc
        have c4' : hi = none → mx = none := fun h => by
          rcases c4 with c4 | c4
          · exact Option.isNone_iff_eq_none.1 c4
          · rw [h] at c4; cases c4
        split
        · rename_i cs ty op hbk
          -- what the operation gives, whatever room there is
          have run : ∀ (G : Gh) (a : Act) (w : World), TR G T m a.tmps → (mx = none → True) → ∀ e, ext G ⟨b, off, sp⟩ cap = e → (execOp a.eval o).run P w = .ok (.value (.slice (some (if (if mx.isSome then mm else mm + e) = ll then dA G ⟨b, off, sp⟩ else (dA G ⟨b, off, sp⟩).add (ll * p.2))) (hh - ll) ((if mx.isSome then mm else mm + e) - ll))) w := fun G a w ht _ e hee => by
            have e1 := ev_den ht hx
            rw [hu] at e1
            have hm1 : mx.map a.eval = none → (if mx.isSome then mm else mm + e) = cap + e := fun h => by
              have : mx = none := by simpa using h
              rw [this]
              simp [m1 this]
            have hm2 : ∀ v, mx.map a.eval = some v → ∃ k, v = .int k (.ofNat (if mx.isSome then mm else mm + e)) := fun v hv => by
              have : mx.isSome = true := by cases mx with | none => cases hv | some _ => rfl
              rw [if_pos this]
              exact optOk hmx ht m2 v hv
            have hb := run_bounds (P := P) (isS := true) (len := len) (cap := cap + e) (m := if mx.isSome then mm else mm + e) (h := hh) (l := ll) (lo := lo.map a.eval) (hi := hi.map a.eval) (mx := mx.map a.eval) hm1 hm2 (by split <;> omega) (fun h => i1 (by simpa using h)) (optOk hhi ht i2) (fun h => by simpa using c4' (by simpa using h)) (fun _ => by split <;> omega)
              (fun h => l1 (by simpa using h)) (optOk hlo ht l2) c3 w
            simp only [execOp, ho, e1, den, Instr.sliceAt, run_underlying he, Instr.slice, hee, hb, sizeOf, typeInfo, run_program, hinf, hsz, Sem.run_bind, Sem.run_pure, Result.andThen_ok]
            generalize (if mx.isSome = true then mm else mm + e) = M
            by_cases hM : M = ll <;> simp [hM]
          have hR : ∀ (G : Gh) (w : World), HR G H.h w → ∃ p' j, Room (G b) cs.length p' j op := fun G w hr => by
            obtain ⟨pr, jk, _, h⟩ := hr.row hbk
            exact ⟨_, _, h⟩
          split
          · -- no room that is not known
            rename_i hx1
            simp only [Bool.or_eq_true, Bool.and_eq_true, Nat.beq_eq, Nat.blt_eq] at hx1
            refine .inr ⟨_, _, rfl, (OpP.mk fun G a w ht hr => ?_).w⟩
            obtain ⟨p', j, hRm⟩ := hR G w hr
            have hM : (if mx.isSome then mm else mm + ext G ⟨b, off, sp⟩ cap) = mm := by
              cases hmm : mx with
              | some y => simp
              | none =>
                have e1 := m1 hmm
                rw [hmm] at hx1
                simp only [Option.isSome_none] at hx1
                have := ext_zero' (c := cap) (o := off) (sp := sp) hRm (hx1.imp id fun h => by
                  rw [h.1, ← e1]
                  exact h.2)
                simp [this]
            have hr1 := run G a w ht (fun _ => trivial) _ rfl
            rw [hM] at hr1
            rw [hr1]
            have hx2 : ∀ (o' : Nat), o' + (mm - ll) * op ≤ off + mm * op → op = 0 ∨ (limS mx.isSome sp).isSome = true ∨ o' + (mm - ll) * op < cs.length := fun o' ho' => by
              rcases hx1 with h | ⟨h, h2 | h2⟩
              · exact .inl h
              · exact .inr (.inl h2)
              · refine .inr (.inr ?_)
                rw [← h] at h2
                have h2 : off + mm * op < cs.length := h2
                omega
            cases hml : Nat.beq mm ll with
            | true =>
              have e2 := Nat.eq_of_beq_eq_true hml
              have h0 := ext_zero' (o := off) (c := mm - ll) hRm (hx2 off (by rw [e2]; simp))
              rw [e2] at h0
              simp only [den, Nat.sub_eq, e2, h0, if_true, Nat.add_zero]
              rfl
            | false =>
              have e2 := Nat.ne_of_beq_eq_false hml
              have h3 : ll * p.2 + (mm - ll) * op ≤ mm * op ∨ op ≠ p.2 := by
                by_cases h : op = p.2
                · left
                  rw [← h, ← Nat.add_mul]
                  exact Nat.mul_le_mul_right _ (by omega)
                · exact .inr h
              have h0 : ext G ⟨b, off + ll * p.2, limS mx.isSome sp⟩ (mm - ll) = 0 := by
                rcases h3 with h3 | h3
                · exact ext_zero' hRm (hx2 _ (by omega))
                · rcases hx1 with h | ⟨h, _⟩
                  · exact ext_zero' hRm (.inl h)
                  · exact absurd h h3
              simp only [den, Nat.sub_eq, Nat.add_eq, Nat.mul_eq, h0, e2, if_false, Nat.add_zero, dA_off]
              rfl
          · -- a part, with what room there is
            rename_i hx1 hop hml
            simp only [Bool.or_eq_false_iff, Bool.and_eq_false_iff] at hx1
            have hop := Nat.eq_of_beq_eq_true hop
            have e2 := Nat.ne_of_beq_eq_false hml
            obtain ⟨hn0, hx1⟩ := hx1
            have hn0 := Nat.ne_of_beq_eq_false hn0
            have hx1 : (limS mx.isSome sp).isSome = false ∧ Nat.blt (Nat.add off (Nat.mul mm p.2)) cs.length = false := by
              rcases hx1 with h | h
              · rw [hop, Nat.beq_refl] at h; cases h
              · simpa using h
            obtain ⟨hs1, hs2⟩ := hx1
            have hmx0 : mx = none := by
              cases mx with
              | none => rfl
              | some y => simp [limS] at hs1
            subst hmx0
            have hsp : sp = none := by
              cases sp with
              | none => rfl
              | some y => simp [limS] at hs1
            subst hsp
            have e1 := m1 rfl
            have hs2 : ¬ off + mm * p.2 < cs.length := fun h => by
              have h2 : Nat.blt (Nat.add off (Nat.mul mm p.2)) cs.length = true := by rw [Nat.blt_eq]; exact h
              rw [h2] at hs2
              cases hs2
            refine .inr ⟨_, _, rfl, (OpP.mk fun G a w ht hr => ?_).w⟩
            obtain ⟨p', j, hRm⟩ := hR G w hr
            have hr1 := run G a w ht (fun _ => trivial) _ (ext_xt (c := cap) hRm hn0 (by rw [hop, ← e1]; omega))
            rw [hr1]
            have h4 : off + ll * p.2 + (mm - ll) * op = off + mm * p.2 := by
              rw [hop, Nat.add_assoc, ← Nat.add_mul]
              congr 2
              omega
            have h0 := ext_xt (o := off + ll * p.2) (c := mm - ll) hRm hn0 (by rw [h4]; omega)
            have h5 : ¬ mm + (G b).xt = ll := by omega
            simp only [den, Nat.sub_eq, Nat.add_eq, Nat.mul_eq, h0, Option.isSome_none, Bool.false_eq_true, if_false, h5, dA_off]
            congr 4
            omega
          · -- nothing is left but room
            rename_i hx1 hop hml
            simp only [Bool.or_eq_false_iff, Bool.and_eq_false_iff] at hx1
            have hop := Nat.eq_of_beq_eq_true hop
            have e2 := Nat.eq_of_beq_eq_true hml
            obtain ⟨hn0, hx1⟩ := hx1
            have hn0 := Nat.ne_of_beq_eq_false hn0
            have hx1 : (limS mx.isSome sp).isSome = false ∧ Nat.blt (Nat.add off (Nat.mul mm p.2)) cs.length = false := by
              rcases hx1 with h | h
              · rw [hop, Nat.beq_refl] at h; cases h
              · simpa using h
            obtain ⟨hs1, hs2⟩ := hx1
            have hmx0 : mx = none := by
              cases mx with
              | none => rfl
              | some y => simp [limS] at hs1
            subst hmx0
            have hsp : sp = none := by
              cases sp with
              | none => rfl
              | some y => simp [limS] at hs1
            subst hsp
            have e1 := m1 rfl
            have hs2 : ¬ off + mm * p.2 < cs.length := fun h => by
              have h2 : Nat.blt (Nat.add off (Nat.mul mm p.2)) cs.length = true := by rw [Nat.blt_eq]; exact h
              rw [h2] at hs2
              cases hs2
            rcases newK_spec (z := z) (b := .d) (H := H) (K := fun k H => K (.slice (some ⟨k, 0, none⟩) 0 0) H) with h | ⟨h', h, hh'⟩
            · exact .inl h
            · refine .inr ⟨_, _, h, OpD.w hh' fun G0 a w ht hr => ?_⟩
              obtain ⟨p', j, hRm⟩ := hR G0 w hr
              have hr1 := run G0 a w ht (fun _ => trivial) _ (ext_xt (c := cap) hRm hn0 (by rw [hop, ← e1]; omega))
              have hh0 : hh - ll = 0 := by omega
              have hm0 : mm + (G0 b).xt - ll = (G0 b).xt := by omega
              simp only [Option.isSome_none, Bool.false_eq_true, if_false, hh0, hm0] at hr1
              generalize hA : (if mm + (G0 b).xt = ll then dA G0 ⟨b, off, none⟩ else (dA G0 ⟨b, off, none⟩).add (ll * p.2)) = A at hr1
              have hA2 : A.spot = none := by
                rw [← hA]
                split
                · rfl
                · rw [dA_off]; rfl
              refine ⟨⟨A.block, A.off, 0, 0, (G0 b).xt⟩, .slice (some A) 0 (G0 b).xt, .inl hr1, fun G hn => ?_⟩
              obtain ⟨ab, ao, as'⟩ := A
              simp only at hA2
              subst hA2
              simp [den, dA, ext, hn]
          · exact .inl rfl
        · exact .inl rfl
      · exact .inl rfl
    · exact .inl rfl
  · rename_i b off hu
    split
    · rename_i p hp
      obtain ⟨he, inf, hinf, hsz⟩ := tyA_is hp
      generalize hK1 : (fun mm => bound z hi T p.1 fun h => bound z lo T 0 fun l => _) = K1
      rcases bound_spec (z := z) (x := mx) (T := T) (d := p.1) (K := K1) with h0 | ⟨mm, h0, m1, m2⟩
      · exact .inl h0
      rw [h0, ← hK1]
      dsimp only
      generalize hK2 : (fun h => bound z lo T 0 fun l => _) = K2
      rcases bound_spec (z := z) (x := hi) (T := T) (d := p.1) (K := K2) with h0 | ⟨hh, h0, i1, i2⟩
      · exact .inl h0
      rw [h0, ← hK2]
      dsimp only
      generalize hK3 : (fun l => _) = K3
      rcases bound_spec (z := z) (x := lo) (T := T) (d := 0) (K := K3) with h0 | ⟨ll, h0, l1, l2⟩
      · exact .inl h0
      rw [h0, ← hK3]
      clear hK1 hK2 hK3
      dsimp only
      split
      · rename_i cs ty hc hbk
        simp only [Bool.and_eq_true, Nat.ble_eq, Bool.or_eq_true] at hc
        obtain ⟨c1, c2, c3, c4⟩ := hc
        have c4' : hi = none → mx = none := fun h => by
          rcases c4 with c4 | c4
          · exact Option.isNone_iff_eq_none.1 c4
          · rw [h] at c4; cases c4
        refine .inr ⟨_, _, rfl, (OpP.mk fun G a w ht hr => ?_).w⟩
        have e := ev_den ht hx
        rw [hu] at e
        obtain ⟨pr, jk, _, hRm⟩ := hr.row hbk
        have hb := run_bounds (P := P) (isS := false) (len := p.1) (cap := p.1) (m := mm) (h := hh) (l := ll) (lo := lo.map a.eval) (hi := hi.map a.eval) (mx := mx.map a.eval) (fun h => m1 (by simpa using h)) (optOk hmx ht m2) c1 (fun h => i1 (by simpa using h)) (optOk hhi ht i2) (fun h => by simpa using c4' (by simpa using h)) (fun _ => c2)
          (fun h => l1 (by simpa using h)) (optOk hlo ht l2) c3 w
        have hz0 : ∀ o' c', ext G ⟨b, o', none⟩ c' = 0 := fun o' c' => ext_zero' hRm (.inl rfl)
        simp only [execOp, ho, e, den, Instr.sliceAt, run_underlying he, Instr.sureAddr, hb, sizeOf, typeInfo, run_program, hinf, hsz, Sem.run_bind, Sem.run_pure, Result.andThen_ok, Nat.sub_eq, hz0, Nat.add_zero]
        cases hml : Nat.beq mm ll with
        | true => rw [if_pos (Nat.eq_of_beq_eq_true hml)]
        | false => rw [if_neg (Nat.ne_of_beq_eq_false hml), dA_off]; rfl
      · exact .inl rfl
    · exact .inl rfl
  · exact .inl rfl
end
end Go.Proofs.YtmhnlkakbadkgaaGreat.Ck
