/- Part 28 of the proof of LockBacks: contracts of functions that the law reaches, or the rules by which they are walked. No condition. -/
import Derived.Test.YtmhnlkakbadkgaaGreatPkaf
import Derived.Test.YtmhnlkakbadkgaaGreatPkaz
import Derived.Test.YtmhnlkakbadkgaaGreatPkba
namespace Go.Proofs.YtmhnlkakbadkgaaGreat
open Go.RowKit Go.Shelf
theorem mE_at {key : Int} {v0 : Value} : ∀ {ms : List (Int × Value)} (j : Nat), mlook ms key = some v0 → ∃ b, (mE j ms)[ms.findIdx fun p => p.1 == key]? = some { key := .int .i64 key, val := v0, born := b }
  | [], j, h => by simp [mlook] at h
  | (z, u) :: r, j, h => by
    unfold mlook at h
    split at h
    · rename_i hk
      cases h
      subst hk
      refine ⟨j, ?_⟩
      simp [mE, List.findIdx_cons]
    · rename_i hk
      obtain ⟨b, hb⟩ := mE_at (j + 1) h
      refine ⟨b, ?_⟩
      have e : (z == key) = false := by simpa using fun e => hk e.symm
      rw [List.findIdx_cons]
      simp only [e, cond_false, mE, List.getElem?_cons_succ]
      exact hb
theorem mE_modify (z : Int) (v : Value) : ∀ (ms : List (Int × Value)) (j i : Nat), (mE j ms).modify i (fun e => { e with key := .int .i64 z, val := v }) = mE j (ms.set i (z, v))
  | [], j, i => by cases i <;> rfl
  | p :: r, j, 0 => rfl
  | p :: r, j, i + 1 => by
    simp only [mE, List.modify_succ_cons, List.set_cons_succ, mE_modify z v r (j + 1) i]
def mput (ms : List (Int × Value)) (z : Int) (v : Value) : List (Int × Value) := ms.set (ms.findIdx fun p => p.1 == z) (z, v)
theorem mlook_put {key : Int} {v v0 : Value} : ∀ {ms : List (Int × Value)}, mlook ms key = some v0 → mlook (mput ms key v) key = some v
  | [], h => by simp [mlook] at h
  | (z, u) :: r, h => by
    unfold mlook at h
    split at h
    · rename_i hk
      subst hk
      simp [mput, List.findIdx_cons, mlook]
    · rename_i hk
      have e : (z == key) = false := by simpa using fun e => hk e.symm
      have := mlook_put (v := v) h
      unfold mput at this ⊢
      rw [List.findIdx_cons]
      simp only [e, cond_false, List.set_cons_succ, mlook, if_neg hk]
      exact this
theorem run_put {P : Program} {t e : TypeId} (ht : isMapI P t e = true) {g : Nat} {ms : List (Int × Value)} {z : Int} {v0 : Value} (hz : mlook ms z = some v0) (v : Value) {w : World} (hg : w.heap[g]? = some (mapO ms)) :
    (Instr.mapUpdate t (.map (some g)) (.int .i64 z) v).run P w = .ok () { w with heap := w.heap.setIfInBounds g (mapO (mput ms z v)) } := by
  obtain ⟨q, h1, h2⟩ := isMapI_spec ht
  have hf := findKey_int h2 z ms w
  rw [hz] at hf
  obtain ⟨b, hb⟩ := mE_at 0 hz
  have hs := MapKept.run_setObj_map (P := P) (.map ((mE 0 ms).toArray.modify (ms.findIdx fun p => p.1 == z) fun e => { e with key := .int .i64 z, val := v }) ms.length) hg
  have e : mapO (mput ms z v) = .map ((mE 0 ms).toArray.modify (ms.findIdx fun p => p.1 == z) fun e => { e with key := .int .i64 z, val := v }) ms.length := by
    have : (mE 0 ms).toArray.modify (ms.findIdx fun p => p.1 == z) (fun e => { e with key := .int .i64 z, val := v }) = (mE 0 (mput ms z v)).toArray := by
      apply Array.ext'
      rw [Array.toList_modify]
      exact mE_modify z v ms 0 _
    rw [this, mapO, mput, List.length_set]
  have hk : (Instr.keyThatStays (.int .i64 z) (.int .i64 z)).run P w = .ok (.int .i64 z) w := by
    simp [Instr.keyThatStays, Instr.sameBits]
  rw [e]
  have hb2 : (mE 0 ms).toArray[0 + ms.findIdx fun p => p.1 == z]? = some { key := .int .i64 z, val := v0, born := b } := by
    rw [Nat.zero_add, List.getElem?_toArray]; exact hb
  simp only [Instr.mapUpdate, Sem.run_bind, run_underlying h1, Result.andThen_ok, MapKept.run_getObj_map hg, checkKey_int h2, hf, hb2, Option.map_some, Option.getD_some, hk]
  rw [Nat.zero_add]
  exact hs
section
variable {X : Fx} {o : Oper} {T : TE} {L : LE} {n : Nat} {F : List Fact} {D : DF} {K : KK} {k : KS}
theorem ojs_mapNew {t : TypeId} {x y z : Operand} {u : TV} {v : Value} {j g : Nat} {ms : List (Int × Value)} {key : Int} (ho : o.op = .mapUpdate t x y z) (hd : o.dst = none) (ht : isMapK X.P t = true) (hx : evS T x = some (.o (.v (.map (some g))))) (hy : evS T y = some (.o (.v (.int .i64 key))))
    (hz : evS T z = some u) (hu : ∀ ρ, u.den ρ = v) (hj : alook L j = some (.ob g (mapO ms))) (hk : mlook ms key = none) (h : k T ((j, .ob g (mapO (ms ++ [(key, v)]))) :: L) n F D) : OJs X o T L n F D k K := by
  intro Q hQ Φ hΦ a w hr
  obtain ⟨e, ht⟩ := isMapK_spec ht
  obtain ⟨A, ρ, h0⟩ := hr.one
  have hg : w.heap[g]? = some (mapO ms) := h0.lo j _ hj
  refine Oper.wpIn_of_run (by simp [noDef, ho]) ?_
  have e1 := h0.ev hx
  have e2 := h0.ev hy
  have e3 := h0.ev hz
  simp only [TV.den, SV.den] at e1 e2
  have e4 : (execOp a.eval o).run X.P w = .ok .skip { w with heap := w.heap.setIfInBounds g (mapO (ms ++ [(key, v)])) } := by
    simp only [execOp, ho, e1, e2, e3, hu, Sem.run_bind, run_insert ht hk v hg, Result.andThen_ok, Sem.run_pure]
  rw [e4]
  have hput : a.put o.dst undef = a := by rw [hd]; rfl
  show Φ (a.put o.dst undef) _
  rw [hput]
  have hlt := lt_of_block hg
  exact hΦ _ _ _ _ _ h _ _ (hr.ob hj (by simp [hlt]) ⟨rfl, rfl, rfl, by simp, fun i _ hi => by
    show (w.heap.setIfInBounds g _)[i]? = _
    rw [Array.getElem?_setIfInBounds_ne (fun e => hi (by rw [e]))]⟩)
theorem ojs_mapOld {t : TypeId} {x y z : Operand} {u : TV} {v v0 : Value} {j g : Nat} {ms : List (Int × Value)} {key : Int} (ho : o.op = .mapUpdate t x y z) (hd : o.dst = none) (ht : isMapK X.P t = true) (hx : evS T x = some (.o (.v (.map (some g))))) (hy : evS T y = some (.o (.v (.int .i64 key))))
    (hz : evS T z = some u) (hu : ∀ ρ, u.den ρ = v) (hj : alook L j = some (.ob g (mapO ms))) (hk : mlook ms key = some v0) (h : k T ((j, .ob g (mapO (mput ms key v))) :: L) n F D) : OJs X o T L n F D k K := by
  intro Q hQ Φ hΦ a w hr
  obtain ⟨e, ht⟩ := isMapK_spec ht
  obtain ⟨A, ρ, h0⟩ := hr.one
  have hg : w.heap[g]? = some (mapO ms) := h0.lo j _ hj
  refine Oper.wpIn_of_run (by simp [noDef, ho]) ?_
  have e1 := h0.ev hx
  have e2 := h0.ev hy
  have e3 := h0.ev hz
  simp only [TV.den, SV.den] at e1 e2
  have e4 : (execOp a.eval o).run X.P w = .ok .skip { w with heap := w.heap.setIfInBounds g (mapO (mput ms key v)) } := by
    simp only [execOp, ho, e1, e2, e3, hu, Sem.run_bind, run_put ht hk v hg, Result.andThen_ok, Sem.run_pure]
  rw [e4]
  have hput : a.put o.dst undef = a := by rw [hd]; rfl
  show Φ (a.put o.dst undef) _
  rw [hput]
  have hlt := lt_of_block hg
  exact hΦ _ _ _ _ _ h _ _ (hr.ob hj (by simp [hlt]) ⟨rfl, rfl, rfl, by simp, fun i _ hi => by
    show (w.heap.setIfInBounds g _)[i]? = _
    rw [Array.getElem?_setIfInBounds_ne (fun e => hi (by rw [e]))]⟩)
theorem ojs_lookupZ {t e : TypeId} {x y : Operand} {j g d : Nat} {ms : List (Int × Value)} {key : Int} {v : Value} {i : TypeInfo} (hj : alook L j = some (.ob g (mapO ms))) (ho : o.op = .lookup t x y false) (hd : o.dst = some d) (hdk : Nat.blt d X.k = true) (ht : isMapI X.P t e = true) (hi : X.P.info? e = some i) (hx : evS T x = some (.o (.v (.map (some g))))) (hy : evS T y = some (.o (.v (.int .i64 key))))
    (hv : mlook ms key = some v ∨ (mlook ms key = none ∧ i.zero = some v)) (h : k ((d, .o (.v v)) :: T) L n F D) : OJs X o T L n F D k K := by
  intro Q hQ Φ hΦ a w hr
  refine Oper.wpIn_of_run (by simp [noDef, ho]) ?_
  obtain ⟨A, ρ, h0⟩ := hr.one
  have hg : w.heap[g]? = some (mapO ms) := h0.lo j _ hj
  have e1 := h0.ev hx
  have e2 := h0.ev hy
  simp only [TV.den, SV.den] at e1 e2
  have e4 : (execOp a.eval o).run X.P w = .ok (.value v) w := by
    obtain ⟨q, h1, h2⟩ := isMapI_spec ht
    have hf := findKey_int h2 key ms w
    have hr : (Instr.lookup t (.map (some g)) (.int .i64 key) false).run X.P w = .ok v w := by
      simp only [Instr.lookup, Sem.run_bind, run_underlying h1, Result.andThen_ok, MapKept.run_getObj_map hg, Sem.run_pure, checkKey_int h2, hf]
      rcases hv with hv | ⟨hv, hz⟩
      · rw [hv]; rfl
      · have hzv : (zeroValue e).run X.P w = .ok v w := by simp [zeroValue, typeInfo, hi, hz]
        rw [hv]
        simp only [Sem.run_bind, hzv, Result.andThen_ok, Sem.run_pure]
        rfl
    simp [execOp, ho, e1, e2, hr]
  rw [e4]
  exact hΦ _ _ _ _ _ h _ w (hr.put (u := .o (.v v)) (fun _ _ _ => rfl) (by simp [putS, hd, hdk]))
end
end Go.Proofs.YtmhnlkakbadkgaaGreat
namespace Go.Proofs.YtmhnlkakbadkgaaGreat
open Go.RowKit Go.Shelf
set_option maxRecDepth 100000
structure Wt where
  site : Int
  use : Int
  mode : Int
  prio : Int
  age : Int
def wtL (x : Wt) : List Value := [.int .i64 x.site, .int .i64 x.use, .int .i64 x.mode, .int .i64 x.prio, .int .i64 x.age]
theorem wtL_len : ∀ x, (wtL x).length = 5 := fun _ => rfl
def wtB (x : Wt) : Bool := (decide (0 ≤ x.site) && decide (x.site ≤ 255)) && (decide (1 ≤ x.use) && decide (x.use ≤ 1099511627776)) && (decide (1 ≤ x.mode) && decide (x.mode ≤ 5)) && (decide (0 ≤ x.prio) && decide (x.prio ≤ 3)) && (decide (0 ≤ x.age) && decide (x.age ≤ 64))
theorem waitMay_c (x : Wt) (q : Int) : Cm Tryz.prog 277 [.agg #[.int .i64 x.site, .int .i64 x.use, .int .i64 x.mode, .int .i64 x.prio, .int .i64 x.age, .int .i64 q]] [] [] (rets (.bool (wtB x))) := by
  obtain ⟨site, use, mode, prio, age⟩ := x
  refine cm_of (tab := tb) (ok := tbOk) [.g [.v (.int .i64 site), .v (.int .i64 use), .v (.int .i64 mode), .v (.int .i64 prio), .v (.int .i64 age), .v (.int .i64 q)]] Tryz.func277 Tryz.ntmps277 rfl rfl (fun _ _ => rfl) ?_
  intro w0 A0
  refine ojs_yd (u := .g [.v (.int .i64 site), .v (.int .i64 0), .v (.int .i64 255), .v (.int .i64 use), .v (.int .i64 1), .v (.int .i64 1099511627776), .v (.int .i64 mode), .v (.int .i64 1), .v (.int .i64 5), .v (.int .i64 prio), .v (.int .i64 0), .v (.int .i64 3), .v (.int .i64 age), .v (.int .i64 0), .v (.int .i64 64)]) (yd_buildA rfl rfl rfl rfl rfl) rfl ?_
  refine cjs_turns 6 ?_
  refine ojs_yd (yd_arrIdx (i := 0) (m := 5) rfl (by decide) rfl rfl rfl rfl rfl rfl) rfl ?_
  refine brB_dec (fun _ => ?_) (fun _ => ?_)
  · exact endR_ok [] rfl rfl ⟨rfl, rfl⟩ rfl (fun _ => ⟨ret_bool (by cases hcb : wtB _ <;> first | rfl | (exfalso; simp [wtB] at hcb; (try dsimp only at *); omega)), rfl⟩) (by simp)
  refine brB_dec (fun _ => ?_) (fun _ => ?_)
  · exact endR_ok [] rfl rfl ⟨rfl, rfl⟩ rfl (fun _ => ⟨ret_bool (by cases hcb : wtB _ <;> first | rfl | (exfalso; simp [wtB] at hcb; (try dsimp only at *); omega)), rfl⟩) (by simp)
  refine ojs_arith (z := 1) (by decide) rfl rfl rfl rfl ?_
  refine ojs_yd (yd_arrIdx (i := 1) (m := 5) rfl (by decide) rfl rfl rfl rfl rfl rfl) rfl ?_
  refine brB_dec (fun _ => ?_) (fun _ => ?_)
  · exact endR_ok [] rfl rfl ⟨rfl, rfl⟩ rfl (fun _ => ⟨ret_bool (by cases hcb : wtB _ <;> first | rfl | (exfalso; simp [wtB] at hcb; (try dsimp only at *); omega)), rfl⟩) (by simp)
  refine brB_dec (fun _ => ?_) (fun _ => ?_)
  · exact endR_ok [] rfl rfl ⟨rfl, rfl⟩ rfl (fun _ => ⟨ret_bool (by cases hcb : wtB _ <;> first | rfl | (exfalso; simp [wtB] at hcb; (try dsimp only at *); omega)), rfl⟩) (by simp)
  refine ojs_arith (z := 2) (by decide) rfl rfl rfl rfl ?_
  refine ojs_yd (yd_arrIdx (i := 2) (m := 5) rfl (by decide) rfl rfl rfl rfl rfl rfl) rfl ?_
  refine brB_dec (fun _ => ?_) (fun _ => ?_)
  · exact endR_ok [] rfl rfl ⟨rfl, rfl⟩ rfl (fun _ => ⟨ret_bool (by cases hcb : wtB _ <;> first | rfl | (exfalso; simp [wtB] at hcb; (try dsimp only at *); omega)), rfl⟩) (by simp)
  refine brB_dec (fun _ => ?_) (fun _ => ?_)
  · exact endR_ok [] rfl rfl ⟨rfl, rfl⟩ rfl (fun _ => ⟨ret_bool (by cases hcb : wtB _ <;> first | rfl | (exfalso; simp [wtB] at hcb; (try dsimp only at *); omega)), rfl⟩) (by simp)
  refine ojs_arith (z := 3) (by decide) rfl rfl rfl rfl ?_
  refine ojs_yd (yd_arrIdx (i := 3) (m := 5) rfl (by decide) rfl rfl rfl rfl rfl rfl) rfl ?_
  refine brB_dec (fun _ => ?_) (fun _ => ?_)
  · exact endR_ok [] rfl rfl ⟨rfl, rfl⟩ rfl (fun _ => ⟨ret_bool (by cases hcb : wtB _ <;> first | rfl | (exfalso; simp [wtB] at hcb; (try dsimp only at *); omega)), rfl⟩) (by simp)
  refine brB_dec (fun _ => ?_) (fun _ => ?_)
  · exact endR_ok [] rfl rfl ⟨rfl, rfl⟩ rfl (fun _ => ⟨ret_bool (by cases hcb : wtB _ <;> first | rfl | (exfalso; simp [wtB] at hcb; (try dsimp only at *); omega)), rfl⟩) (by simp)
  refine ojs_arith (z := 4) (by decide) rfl rfl rfl rfl ?_
  refine ojs_yd (yd_arrIdx (i := 4) (m := 5) rfl (by decide) rfl rfl rfl rfl rfl rfl) rfl ?_
  refine brB_dec (fun _ => ?_) (fun _ => ?_)
  · exact endR_ok [] rfl rfl ⟨rfl, rfl⟩ rfl (fun _ => ⟨ret_bool (by cases hcb : wtB _ <;> first | rfl | (exfalso; simp [wtB] at hcb; (try dsimp only at *); omega)), rfl⟩) (by simp)
  refine brB_dec (fun _ => ?_) (fun _ => ?_)
  · exact endR_ok [] rfl rfl ⟨rfl, rfl⟩ rfl (fun _ => ⟨ret_bool (by cases hcb : wtB _ <;> first | rfl | (exfalso; simp [wtB] at hcb; (try dsimp only at *); omega)), rfl⟩) (by simp)
  refine ojs_arith (z := 5) (by decide) rfl rfl rfl rfl ?_
  exact endR_ok [] rfl rfl ⟨rfl, rfl⟩ rfl (fun _ => ⟨ret_bool (by cases hcb : wtB _ <;> first | rfl | (exfalso; simp [wtB] at hcb; (try dsimp only at *); omega)), rfl⟩) (by simp)
def waitB (xs : List Wt) : Bool := decide (xs.length ≤ 256) && xs.all wtB && decide (xs.map Wt.site).Nodup
def seenM (xs : List Wt) : List (Int × Value) := xs.map fun x => (x.site, .int .i64 1)
theorem seen_look {z : Int} : ∀ {xs : List Wt}, mlook (seenM xs) z = if z ∈ xs.map Wt.site then some (.int .i64 1) else none
  | [] => rfl
  | x :: r => by
    have ih := seen_look (z := z) (xs := r)
    unfold seenM at ih ⊢
    rw [List.map_cons, mlook, ih, List.map_cons]
    by_cases h : z = x.site
    · simp [h]
    · simp [h]
theorem waitB_no {xs : List Wt} {k : Nat} {x : Wt} (hx : xs[k]? = some x) (h : wtB x = false ∨ x.site ∈ (xs.take k).map Wt.site) : waitB xs = false := by
  rw [Bool.eq_false_iff]
  intro hw
  simp only [waitB, Bool.and_eq_true, decide_eq_true_eq] at hw
  rcases h with h | h
  · rw [List.all_eq_true.1 hw.1.2 x (List.mem_of_getElem? hx)] at h
    cases h
  · obtain ⟨y, hy, hs⟩ := List.mem_map.1 h
    obtain ⟨j, hj⟩ := List.mem_iff_getElem?.1 hy
    have hjk : j < k := by have := (List.getElem?_eq_some_iff.1 hj).1; rw [List.length_take] at this; omega
    rw [List.getElem?_take_of_lt hjk] at hj
    have h1 : (xs.map Wt.site)[j]? = some x.site := by rw [List.getElem?_map, hj]; simp [hs]
    have h2 : (xs.map Wt.site)[k]? = some x.site := by rw [List.getElem?_map, hx]; rfl
    have := (List.getElem?_inj (List.getElem?_eq_some_iff.1 h1).1 hw.2).1 (h1.trans h2.symm)
    omega
theorem waitB_yes {xs : List Wt} (hl : xs.length ≤ 256) (h1 : xs.all wtB = true) (h2 : (xs.map Wt.site).Nodup) : waitB xs = true := by
  simp [waitB, hl, h2]
  simpa using h1
theorem take_snocW {xs : List Wt} {k : Nat} {x : Wt} (hx : xs[k]? = some x) : xs.take (k + 1) = xs.take k ++ [x] := by
  rw [List.take_add_one, hx]; rfl
theorem wtSiteInfo : (Tryz.prog.info? 3).map (fun i => i.zero) = some (some (.int .i64 0)) := by kernel_rfl
set_option maxHeartbeats 2000000 in
theorem waitRight_c (a : Option Addr) (cap : Nat) (xs : List Wt) : Cm Tryz.prog 244 [.slice a xs.length cap] [] [slF wtL 5 (.slice a xs.length cap) xs] (rets (.bool (waitB xs))) := by
  obtain ⟨ii, hi1, hi2⟩ : ∃ i, Tryz.prog.info? 3 = some i ∧ i.zero = some (.int .i64 0) := by
    have := wtSiteInfo
    rw [Option.map_eq_some_iff] at this
    exact this
  refine cm_of (tab := tb) (ok := tbOk) [.o (.v (.slice a xs.length cap))] Tryz.func244 Tryz.ntmps244 rfl rfl (fun _ _ => rfl) ?_
  intro w0 A0
  refine ojs_makeMap rfl rfl rfl fun g => ?_
  refine brB_dec (fun hl => ?_) (fun hl => ?_)
  rotate_left
  · have e : waitB xs = false := by simp [waitB]; intro h; omega
    rw [e]
    exact endR_ok [] rfl rfl ⟨rfl, rfl⟩ rfl (fun _ => ⟨rfl, rfl⟩) (by simp)
  have hl2 : xs.length ≤ 256 := by omega
  refine ojs_inl Tryz.func242 Tryz.ntmps242 rfl rfl rfl rfl rfl rfl rfl ?_
  intro w1 A1 M1 N1 hN1
  refine ojs_inl Tryz.func285 Tryz.ntmps285 rfl rfl rfl rfl rfl rfl rfl ?_
  intro w2 A2 M2 N2 hN2
  refine ojs_inl Tryz.func261 Tryz.ntmps261 rfl rfl rfl rfl rfl rfl rfl ?_
  intro w3 A3 M3 N3 hN3
  refine cjs_loopP (γ := Nat) (fun k => k ≤ xs.length ∧ (xs.take k).all wtB = true ∧ ((xs.take k).map Wt.site).Nodup) (fun k => [(8, .o (.v (.int .i64 k)))]) (fun k => [(0, .ob g (mapO (seenM (xs.take k))))]) (fun _ => []) (fun k => xs.length - k) 0 ⟨Nat.zero_le _, rfl, List.nodup_nil⟩ (wk_patch (by repeat' (first | exact trivial | exact Or.inl rfl | refine Or.inr ⟨?_, ?_⟩ | rfl | refine ⟨?_, ?_⟩ | exact lt_all_v)) (by repeat' (first | exact trivial | exact Or.inl rfl | refine Or.inr ⟨?_, ?_⟩ | rfl | refine ⟨?_, ?_⟩ | exact lt_all_v)) (fun f hf => hf) (Nat.le_trans (Nat.le_of_eq hN3) (Nat.le_of_ble_eq_true rfl)) D_nil) ?_
  rintro k ⟨hk, hall, hnd⟩
  refine brB_dec (fun h1 => ?_) (fun h1 => ?_)
  rotate_left
  · obtain rfl : k = xs.length := by omega
    rw [List.take_length] at hall hnd
    rw [waitB_yes hl2 hall hnd]
    refine ⟨rfl, ?_⟩
    refine ⟨rfl, ?_⟩
    refine ⟨rfl, ?_⟩
    exact endR_ok [] rfl rfl ⟨rfl, rfl⟩ rfl (fun _ => ⟨rfl, rfl⟩) (by simp)
  obtain ⟨x, hx⟩ := at_some (xs := xs) (k := k) (by omega)
  refine ojs_fact (slF wtL 5 (.slice a xs.length cap) xs) (by simp) (slF_neE hx) ?_
  rintro ⟨b, off, rfl⟩
  refine ojs_index rfl (by omega) rfl rfl rfl rfl ?_
  refine ojs_loadN (vs := wtL x) (slF wtL 5 (.slice (some ⟨b, off, none⟩) xs.length cap) xs) (by simp) (slF_atN hx) rfl rfl rfl ?_
  refine ojs_inl Tryz.func286 Tryz.ntmps286 rfl rfl rfl rfl rfl rfl rfl ?_
  intro w4 A4 M4 N4 hN4
  refine ojs_inl Tryz.func287 Tryz.ntmps287 rfl rfl rfl rfl rfl rfl rfl ?_
  intro w5 A5 M5 N5 hN5
  by_cases hm : x.site ∈ (xs.take k).map Wt.site
  · have hno : waitB xs = false := waitB_no hx (.inr hm)
    have hlk : mlook (seenM (xs.take k)) x.site = some (.int .i64 1) := by rw [seen_look, if_pos hm]
    refine ojs_lookupZ (j := 0) (e := 3) (i := ii) rfl rfl rfl rfl (by kernel_rfl) hi1 rfl rfl (.inl hlk) ?_
    refine ojs_arith (z := 2) (by decide) rfl rfl rfl rfl ?_
    refine ojs_mapOld (j := 0) (v := .int .i64 2) rfl rfl (by kernel_rfl) rfl rfl rfl (fun _ => rfl) rfl hlk ?_
    refine ojs_call [] [] rfl rfl rfl rfl rfl rfl rfl (by simp) (fun _ => waitMay_c x 0) (by simp) (.inl rfl) ?_
    rintro e cs F1 _ ⟨rfl, rfl⟩
    cases hw : wtB x
    · refine ⟨rfl, ?_⟩
      refine ⟨rfl, ?_⟩
      refine ⟨rfl, ?_⟩
      refine ⟨rfl, ?_⟩
      refine ⟨rfl, ?_⟩
      exact endR_ok [] rfl rfl ⟨rfl, rfl⟩ rfl (fun _ => ⟨ret_bool (by rw [hno]; simp), rfl⟩) (by simp)
    refine ojs_lookupZ (j := 0) (e := 3) (i := ii) rfl rfl rfl rfl (by kernel_rfl) hi1 rfl rfl (.inl (mlook_put hlk)) ?_
    refine ⟨rfl, ?_⟩
    refine ⟨rfl, ?_⟩
    refine ⟨rfl, ?_⟩
    refine ⟨rfl, ?_⟩
    refine ⟨rfl, ?_⟩
    exact endR_ok [] rfl rfl ⟨rfl, rfl⟩ rfl (fun _ => ⟨ret_bool (by rw [hno]; simp), rfl⟩) (by simp)
  · have hlk : mlook (seenM (xs.take k)) x.site = none := by rw [seen_look, if_neg hm]
    refine ojs_lookupZ (j := 0) (e := 3) (i := ii) rfl rfl rfl rfl (by kernel_rfl) hi1 rfl rfl (.inr ⟨hlk, hi2⟩) ?_
    refine ojs_arith (z := 1) (by decide) rfl rfl rfl rfl ?_
    refine ojs_mapNew (j := 0) (v := .int .i64 1) rfl rfl (by kernel_rfl) rfl rfl rfl (fun _ => rfl) rfl hlk ?_
    refine ojs_call [] [] rfl rfl rfl rfl rfl rfl rfl (by simp) (fun _ => waitMay_c x 0) (by simp) (.inl rfl) ?_
    rintro e cs F1 _ ⟨rfl, rfl⟩
    cases hw : wtB x
    · have hno : waitB xs = false := waitB_no hx (.inl hw)
      refine ⟨rfl, ?_⟩
      refine ⟨rfl, ?_⟩
      refine ⟨rfl, ?_⟩
      refine ⟨rfl, ?_⟩
      refine ⟨rfl, ?_⟩
      exact endR_ok [] rfl rfl ⟨rfl, rfl⟩ rfl (fun _ => ⟨ret_bool (by rw [hno]; simp), rfl⟩) (by simp)
    have hl3 : mlook (seenM (xs.take k) ++ [(x.site, .int .i64 1)]) x.site = some (.int .i64 1) := by rw [mlook_snoc, hlk]; simp
    refine ojs_lookupZ (j := 0) (e := 3) (i := ii) rfl rfl rfl rfl (by kernel_rfl) hi1 rfl rfl (.inl hl3) ?_
    refine ⟨rfl, ?_⟩
    refine ⟨rfl, ?_⟩
    refine ojs_arith (z := ((k + 1 : Nat) : Int)) (by first | decide | (rw [wrap_in] <;> omega) | (dsimp only; rw [wrap_in] <;> omega)) rfl rfl rfl rfl ?_
    refine ⟨k + 1, ⟨by omega, by rw [take_snocW hx, List.all_append, hall]; simpa using hw, ?_⟩, (by first | omega | (dsimp only; omega)), ?_⟩
    · rw [take_snocW hx, List.map_append, List.nodup_append]
      refine ⟨hnd, by simp, fun y hy z hz => ?_⟩
      simp only [List.map_cons, List.map_nil, List.mem_singleton] at hz
      subst hz
      exact fun e => hm (e ▸ hy)
    · have e : seenM (xs.take (k + 1)) = seenM (xs.take k) ++ [(x.site, .int .i64 1)] := by rw [take_snocW hx]; simp [seenM]
      simp only [e]
      exact wk_patch (by repeat' (first | exact trivial | exact Or.inl rfl | refine Or.inr ⟨?_, ?_⟩ | rfl | refine ⟨?_, ?_⟩ | exact lt_all_v)) (by repeat' (first | exact trivial | exact Or.inl rfl | refine Or.inr ⟨?_, ?_⟩ | rfl | refine ⟨?_, ?_⟩ | exact lt_all_v)) (fun f hf => hf) (Nat.le_trans (Nat.le_of_eq hN3) (Nat.le_of_ble_eq_true rfl)) D_nil
end Go.Proofs.YtmhnlkakbadkgaaGreat
namespace Go.Proofs.YtmhnlkakbadkgaaGreat
open Go.RowKit Go.Shelf
set_option maxRecDepth 100000
def waitE (xs : List Wt) : Int := bif waitB xs then 0 else 2
theorem waitCheck_c (a : Option Addr) (cap : Nat) (xs : List Wt) : Cm Tryz.prog 268 [.slice a xs.length cap] [] [slF wtL 5 (.slice a xs.length cap) xs] (rets (.int .i64 (waitE xs))) := by
  refine cm_of (tab := tb) (ok := tbOk) [.o (.v (.slice a xs.length cap))] Tryz.func268 Tryz.ntmps268 rfl rfl (fun _ _ => rfl) ?_
  intro w0 A0
  refine ojs_call [] [] rfl rfl rfl rfl rfl rfl rfl (by simp) (fun _ => waitRight_c a cap xs) (by simp) (.inl rfl) ?_
  rintro e cs F1 _ ⟨rfl, rfl⟩
  unfold waitE
  cases h : waitB xs
  · exact endR_ok [] rfl rfl ⟨rfl, rfl⟩ rfl (fun _ => ⟨rfl, rfl⟩) (by simp)
  · exact endR_ok [] rfl rfl ⟨rfl, rfl⟩ rfl (fun _ => ⟨rfl, rfl⟩) (by simp)
def findW (xs : List Wt) (z : Int) : Int := idxI (fun x => x.site == z) xs
theorem refMayW_c (x : Wt) : Cm Tryz.prog 181 [.agg (wtL x).toArray] [] [] (rets (.bool (wtB x))) := by
  obtain ⟨site, use, mode, prio, age⟩ := x
  refine cm_of (tab := tb) (ok := tbOk) [.g [.v (.int .i64 site), .v (.int .i64 use), .v (.int .i64 mode), .v (.int .i64 prio), .v (.int .i64 age)]] Tryz.func181 Tryz.ntmps181 rfl rfl (fun _ _ => rfl) ?_
  intro w0 A0
  repeat' (first | refine brB_dec (fun _ => ?_) (fun _ => ?_) | refine brB_split (fun _ => ?_) (fun _ => ?_) | (refine endR_ok [] rfl rfl ⟨rfl, rfl⟩ rfl (fun _ => ⟨ret_bool ?_, rfl⟩) (by simp); (rw [Bool.eq_iff_iff]; simp [wtB, modeB] at * <;> (try dsimp only at *) <;> first | omega | (simp_all; done) | (simp_all; omega))) | (refine ojs_call [] [] rfl rfl rfl rfl rfl rfl rfl (by simp) (fun _ => refMode_c _) (by simp) (.inl rfl) ?_; rintro e cs F1 _ ⟨rfl, rfl⟩))
theorem refFindW_c (a : Option Addr) (cap : Nat) (xs : List Wt) (z : Int) (hl : xs.length ≤ 1000000) : Cm Tryz.prog 182 [.slice a xs.length cap, .int .i64 z] [] [slF wtL 5 (.slice a xs.length cap) xs] (rets (.int .i64 (findW xs z))) := by
  refine cm_of (tab := tb) (ok := tbOk) [.o (.v (.slice a xs.length cap)), .o (.v (.int .i64 z))] Tryz.func182 Tryz.ntmps182 rfl rfl (fun _ _ => rfl) ?_
  intro w0 A0
  refine cjs_loopP (γ := Nat) (fun k => k ≤ xs.length ∧ ∀ (j : Nat) x, j < k → xs[j]? = some x → (x.site == z) = false) (fun k => [(5, .o (.v (.int .i64 k)))]) (fun _ => []) (fun _ => []) (fun k => xs.length - k) 0 ⟨Nat.zero_le _, fun j x hj => by omega⟩ (wk_patch (by repeat' (first | exact trivial | exact Or.inl rfl | refine Or.inr ⟨?_, ?_⟩ | rfl | refine ⟨?_, ?_⟩ | exact lt_all_v)) (by repeat' (first | exact trivial | exact Or.inl rfl | refine Or.inr ⟨?_, ?_⟩ | rfl | refine ⟨?_, ?_⟩ | exact lt_all_v)) (fun f hf => hf) (by simp) D_nil) ?_
  rintro k ⟨hk, hno⟩
  refine brB_dec (fun h1 => ?_) (fun h1 => ?_)
  · obtain ⟨x, hx⟩ := at_some (xs := xs) (k := k) (by omega)
    refine ojs_fact (slF wtL 5 (.slice a xs.length cap) xs) (by simp) (slF_neE hx) ?_
    rintro ⟨b, off, rfl⟩
    refine ojs_index rfl (by omega) rfl rfl rfl rfl ?_
    refine ojs_load1 (slF wtL 5 (.slice (some ⟨b, off, none⟩) xs.length cap) xs) (by simp) (slF_at hx (j := 0) rfl) rfl rfl rfl ?_
    refine brB_split (fun h2 => ?_) (fun h2 => ?_)
    · unfold findW
      rw [idxI_atE hno hx h2]
      exact endR_ok [] rfl rfl ⟨rfl, rfl⟩ rfl (fun _ => ⟨rfl, rfl⟩) (by simp)
    · refine ojs_arith (z := ((k + 1 : Nat) : Int)) (by first | decide | (rw [wrap_in] <;> omega) | (dsimp only; rw [wrap_in] <;> omega)) rfl rfl rfl rfl ?_
      refine ⟨k + 1, ⟨by omega, fun j y hj hy => ?_⟩, (by first | omega | (dsimp only; omega)), wk_patch (by repeat' (first | exact trivial | exact Or.inl rfl | refine Or.inr ⟨?_, ?_⟩ | rfl | refine ⟨?_, ?_⟩ | exact lt_all_v)) (by repeat' (first | exact trivial | exact Or.inl rfl | refine Or.inr ⟨?_, ?_⟩ | rfl | refine ⟨?_, ?_⟩ | exact lt_all_v)) (fun f hf => hf) (by simp) D_nil⟩
      rcases Nat.lt_succ_iff_lt_or_eq.1 hj with h | rfl
      · exact hno j y h hy
      · rw [hx] at hy; cases hy; exact h2
  · unfold findW
    rw [idxI_noneE (fun j x hj => hno j x (by have := (List.getElem?_eq_some_iff.1 hj).1; omega) hj)]
    exact endR_ok [] rfl rfl ⟨rfl, rfl⟩ rfl (fun _ => ⟨rfl, rfl⟩) (by simp)
theorem refWait_c (a : Option Addr) (cap : Nat) (xs : List Wt) (hl : xs.length ≤ 1000000) : Cm Tryz.prog 117 [.slice a xs.length cap] [] [slF wtL 5 (.slice a xs.length cap) xs] (rets (.bool (waitB xs))) := by
  refine cm_of (tab := tb) (ok := tbOk) [.o (.v (.slice a xs.length cap))] Tryz.func117 Tryz.ntmps117 rfl rfl (fun _ _ => rfl) ?_
  intro w0 A0
  refine cjs_loopP (γ := Nat) (fun k => k ≤ xs.length ∧ (xs.take k).all wtB = true ∧ ((xs.take k).map Wt.site).Nodup) (fun k => [(3, .o (.v (.int .i64 k)))]) (fun _ => []) (fun _ => []) (fun k => xs.length - k) 0 ⟨Nat.zero_le _, rfl, List.nodup_nil⟩ (wk_patch (by repeat' (first | exact trivial | exact Or.inl rfl | refine Or.inr ⟨?_, ?_⟩ | rfl | refine ⟨?_, ?_⟩ | exact lt_all_v)) (by repeat' (first | exact trivial | exact Or.inl rfl | refine Or.inr ⟨?_, ?_⟩ | rfl | refine ⟨?_, ?_⟩ | exact lt_all_v)) (fun f hf => hf) (by simp) D_nil) ?_
  rintro k ⟨hk, hall, hnd⟩
  refine brB_dec (fun h1 => ?_) (fun h1 => ?_)
  rotate_left
  · obtain rfl : k = xs.length := by omega
    rw [List.take_length] at hall hnd
    have e : decide ((xs.length : Int) ≤ 256) = waitB xs := by
      by_cases hl2 : xs.length ≤ 256
      · rw [waitB_yes hl2 hall hnd]; simp; omega
      · have : waitB xs = false := by simp [waitB]; intro h; omega
        rw [this]; simp; omega
    rw [← e]
    exact endR_ok [] rfl rfl ⟨rfl, rfl⟩ rfl (fun _ => ⟨rfl, rfl⟩) (by simp)
  refine brB_dec (fun h2 => ?_) (fun h2 => ?_)
  rotate_left
  · have e : decide ((xs.length : Int) ≤ 256) = waitB xs := by
      have : waitB xs = false := by simp [waitB]; intro h; omega
      rw [this]; simp; omega
    rw [← e]
    exact endR_ok [] rfl rfl ⟨rfl, rfl⟩ rfl (fun _ => ⟨rfl, rfl⟩) (by simp)
  obtain ⟨x, hx⟩ := at_some (xs := xs) (k := k) (by omega)
  refine ojs_fact (slF wtL 5 (.slice a xs.length cap) xs) (by simp) (slF_neE hx) ?_
  rintro ⟨b, off, rfl⟩
  refine ojs_index rfl (by omega) rfl rfl rfl rfl ?_
  refine ojs_loadN (vs := wtL x) (slF wtL 5 (.slice (some ⟨b, off, none⟩) xs.length cap) xs) (by simp) (slF_atN hx) rfl rfl rfl ?_
  refine ojs_call [] [] rfl rfl rfl rfl rfl rfl rfl (by simp) (fun _ => refMayW_c x) (by simp) (.inl rfl) ?_
  rintro e cs F1 _ ⟨rfl, rfl⟩
  cases hw : wtB x
  · rw [waitB_no hx (.inl hw)]
    exact endR_ok [] rfl rfl ⟨rfl, rfl⟩ rfl (fun _ => ⟨rfl, rfl⟩) (by simp)
  refine ojs_index rfl (by omega) rfl rfl rfl rfl ?_
  refine ojs_load1 (slF wtL 5 (.slice (some ⟨b, off, none⟩) xs.length cap) xs) (by simp) (slF_at hx (j := 0) rfl) rfl rfl rfl ?_
  refine ojs_call [] [] rfl rfl rfl rfl rfl rfl rfl (by simp) (fun _ => refFindW_c (some ⟨b, off, none⟩) cap xs x.site hl) (by simp) (.inl rfl) ?_
  rintro e cs F1 _ ⟨rfl, rfl⟩
  by_cases hm : x.site ∈ (xs.take k).map Wt.site
  · have hno : waitB xs = false := waitB_no hx (.inr hm)
    have hne : findW xs x.site ≠ k := by
      obtain ⟨y, hy, hs⟩ := List.mem_map.1 hm
      obtain ⟨j, hj⟩ := List.mem_iff_getElem?.1 hy
      have hjk : j < k := by have := (List.getElem?_eq_some_iff.1 hj).1; rw [List.length_take] at this; omega
      rw [List.getElem?_take_of_lt hjk] at hj
      intro e
      unfold findW idxI at e
      split at e
      · rename_i i hi
        have h3 := List.findIdx?_eq_some_iff_getElem.1 hi
        obtain ⟨hil, _, h4⟩ := h3
        have : j < i := by omega
        have h5 := h4 j this
        rw [(List.getElem?_eq_some_iff.1 hj).2] at h5
        simp [hs] at h5
      · omega
    generalize findW xs x.site = i at hne
    refine brB_split (fun h3 => ?_) (fun h3 => ?_)
    · rw [hno]
      exact endR_ok [] rfl rfl ⟨rfl, rfl⟩ rfl (fun _ => ⟨rfl, rfl⟩) (by simp)
    · simp at h3; exact absurd h3 hne
  · have he : findW xs x.site = k := by
      refine idxI_atE (fun j y hj hy => ?_) hx (by simp)
      have : y.site ≠ x.site := fun e => hm (List.mem_map.2 ⟨y, List.mem_of_getElem? (by rw [List.getElem?_take_of_lt hj]; exact hy), e⟩)
      simpa using this
    rw [he]
    refine brB_split (fun h3 => ?_) (fun h3 => ?_)
    · simp at h3
    refine ojs_arith (z := ((k + 1 : Nat) : Int)) (by first | decide | (rw [wrap_in] <;> omega) | (dsimp only; rw [wrap_in] <;> omega)) rfl rfl rfl rfl ?_
    refine ⟨k + 1, ⟨by omega, by rw [take_snocW hx, List.all_append, hall]; simpa using hw, ?_⟩, (by first | omega | (dsimp only; omega)), wk_patch (by repeat' (first | exact trivial | exact Or.inl rfl | refine Or.inr ⟨?_, ?_⟩ | rfl | refine ⟨?_, ?_⟩ | exact lt_all_v)) (by repeat' (first | exact trivial | exact Or.inl rfl | refine Or.inr ⟨?_, ?_⟩ | rfl | refine ⟨?_, ?_⟩ | exact lt_all_v)) (fun f hf => hf) (by simp) D_nil⟩
    rw [take_snocW hx, List.map_append, List.nodup_append]
    refine ⟨hnd, by simp, fun y hy z hz => ?_⟩
    simp only [List.map_cons, List.map_nil, List.mem_singleton] at hz
    subst hz
    exact fun e => hm (e ▸ hy)
end Go.Proofs.YtmhnlkakbadkgaaGreat
