/- Part 30 of the proof of LockBacks: contracts of functions that the law reaches, or the rules by which they are walked. No condition. -/
import Derived.Test.YtmhnlkakbadkgaaGreatPkbc
namespace Go.Proofs.YtmhnlkakbadkgaaGreat
open Go.RowKit Go.Shelf
set_option maxRecDepth 100000
theorem holdOf_c (a : Option Addr) (cap : Nat) (xs : List Hd) (hl : xs.length ≤ 1000000) : Cm Tryz.prog 212 [.slice a xs.length cap] [] [slF hdL 3 (.slice a xs.length cap) xs] (rets (.agg #[bif holdB xs then .slice a xs.length cap else .slice none 0 0, .bool (holdB xs)])) := by
  refine cm_of (tab := tb) (ok := tbOk) [.o (.v (.slice a xs.length cap))] Tryz.func212 Tryz.ntmps212 rfl rfl (fun _ _ => rfl) ?_
  intro w0 A0
  refine ojs_call [] [] rfl rfl rfl rfl rfl rfl rfl (by simp) (fun _ => holdRight_c a cap xs hl) (by simp) (.inl rfl) ?_
  rintro e cs F1 _ ⟨rfl, rfl⟩
  cases holdB xs
  · exact endR_ok [] rfl rfl ⟨rfl, rfl⟩ rfl (fun _ => ⟨rfl, rfl⟩) (by simp)
  · exact endR_ok [] rfl rfl ⟨rfl, rfl⟩ rfl (fun _ => ⟨rfl, rfl⟩) (by simp)
def holdE (xs : List Hd) : Int := bif holdB xs then 0 else 2
theorem holdCheck_c (a : Option Addr) (cap : Nat) (xs : List Hd) (hl : xs.length ≤ 1000000) : Cm Tryz.prog 269 [.slice a xs.length cap] [] [slF hdL 3 (.slice a xs.length cap) xs] (rets (.int .i64 (holdE xs))) := by
  refine cm_of (tab := tb) (ok := tbOk) [.o (.v (.slice a xs.length cap))] Tryz.func269 Tryz.ntmps269 rfl rfl (fun _ _ => rfl) ?_
  intro w0 A0
  refine ojs_call [] [] rfl rfl rfl rfl rfl rfl rfl (by simp) (fun _ => holdOf_c a cap xs hl) (by simp) (.inl rfl) ?_
  rintro e cs F1 _ ⟨rfl, rfl⟩
  unfold holdE
  cases holdB xs
  · exact endR_ok [] rfl rfl ⟨rfl, rfl⟩ rfl (fun _ => ⟨rfl, rfl⟩) (by simp)
  · exact endR_ok [] rfl rfl ⟨rfl, rfl⟩ rfl (fun _ => ⟨rfl, rfl⟩) (by simp)
theorem idxI_some {α : Type} {p : α → Bool} {xs : List α} (h : 0 ≤ idxI p xs) : ∃ i x, idxI p xs = ((i : Nat) : Int) ∧ xs[i]? = some x ∧ p x = true := by
  unfold idxI at h ⊢
  cases hf : xs.findIdx? p with
  | none => rw [hf] at h; simp at h
  | some i =>
    obtain ⟨h1, h2, _⟩ := List.findIdx?_eq_some_iff_getElem.1 hf
    exact ⟨i, xs[i], rfl, List.getElem?_eq_getElem h1, h2⟩
theorem ixHd_idx {F0 : List Fact} {g : Nat} {lb : List Value} (hg : alook tb.fn g = some ()) (p : Hd → Bool) {a : Option Addr} {cap : Nat} {xs : List Hd} (hlen : xs.length ≤ 1099511627776) (hc : ∀ x ∈ xs, Cm Tryz.prog g (.agg (hdL x).toArray :: lb) [] F0 (rets (.bool (p x)))) :
    Cm Tryz.prog 278 [.slice a xs.length cap, .func (.func g) #[] lb.toArray] [] (slF hdL 3 (.slice a xs.length cap) xs :: F0) (rets (.int .i64 (idxI p xs))) := by
  refine cm_of (tab := tb) (ok := tbOk) [.o (.v (.slice a xs.length cap)), .o (.v (.func (.func g) #[] lb.toArray))] Tryz.func278 Tryz.ntmps278 rfl rfl (fun _ _ => rfl) ?_
  intro w0 A0
  refine cjs_loopP (γ := Nat) (fun k => k ≤ xs.length ∧ ∀ (j : Nat) x, j < k → xs[j]? = some x → p x = false) (fun k => [(8, .o (.v (.int .i64 k)))]) (fun _ => []) (fun _ => []) (fun k => xs.length - k) 0 ⟨Nat.zero_le _, fun j x hj => by omega⟩ (wk_patch (by repeat' (first | exact trivial | exact Or.inl rfl | refine Or.inr ⟨?_, ?_⟩ | rfl | refine ⟨?_, ?_⟩ | exact lt_all_v)) (by repeat' (first | exact trivial | exact Or.inl rfl | refine Or.inr ⟨?_, ?_⟩ | rfl | refine ⟨?_, ?_⟩ | exact lt_all_v)) (fun f hf => hf) (by simp) D_nil) ?_
  rintro k ⟨hk, hno⟩
  refine brB_dec (fun h1 => ?_) (fun h1 => ?_)
  · obtain ⟨x, hx⟩ := at_some (xs := xs) (k := k) (by omega)
    skip
    refine ojs_fact (slF hdL 3 (.slice a xs.length cap) xs) (by simp) (slF_neE hx) ?_
    rintro ⟨b, off, rfl⟩
    refine ojs_index rfl (by omega) rfl rfl rfl rfl ?_
    refine ojs_loadN (vs := hdL x) (slF hdL 3 (.slice (some ⟨b, off, none⟩) xs.length cap) xs) (by simp) (slF_atN hx) rfl rfl rfl ?_
    have hc2 : ∀ ρ : Nm, Cm Tryz.prog g (argV ρ [] [TV.g [.v (.int .i64 x.site), .v (.int .i64 x.use), .v (.int .i64 x.mode)]] (lb.map PV.v)) [] F0 (rets (.bool (p x))) := fun ρ => by
      have e : argV ρ [] [TV.g [.v (.int .i64 x.site), .v (.int .i64 x.use), .v (.int .i64 x.mode)]] (lb.map PV.v) = .agg (hdL x).toArray :: lb := (argV_lb ρ [TV.g [.v (.int .i64 x.site), .v (.int .i64 x.use), .v (.int .i64 x.mode)]] lb).trans rfl
      rw [e]; exact hc x (List.mem_of_getElem? hx)
    refine ojs_call [] [] rfl rfl rfl rfl hg rfl rfl (by simp) (fun ρ => hc2 ρ) (fun f hf => List.mem_cons_of_mem _ hf) (.inl rfl) ?_
    rintro e cs F1 _ ⟨rfl, rfl⟩
    cases hb : p x
    · refine ojs_arith (z := ((k + 1 : Nat) : Int)) (by first | decide | (rw [wrap_in] <;> omega) | (dsimp only; rw [wrap_in] <;> omega)) rfl rfl rfl rfl ?_
      refine ⟨k + 1, ⟨by omega, fun j y hj hy => ?_⟩, (by first | omega | (dsimp only; omega)), wk_patch (by repeat' (first | exact trivial | exact Or.inl rfl | refine Or.inr ⟨?_, ?_⟩ | rfl | refine ⟨?_, ?_⟩ | exact lt_all_v)) (by repeat' (first | exact trivial | exact Or.inl rfl | refine Or.inr ⟨?_, ?_⟩ | rfl | refine ⟨?_, ?_⟩ | exact lt_all_v)) (fun f hf => hf) (by simp) D_nil⟩
      rcases Nat.lt_succ_iff_lt_or_eq.1 hj with h | rfl
      · exact hno j y h hy
      · rw [hx] at hy; cases hy; exact hb
    · exact endR_ok [] rfl rfl ⟨rfl, rfl⟩ rfl (fun _ => ⟨by rw [idxI_atE hno hx hb]; rfl, rfl⟩) (by simp)
  · obtain rfl : k = xs.length := by omega
    exact endR_ok [] rfl rfl ⟨rfl, rfl⟩ rfl (fun _ => ⟨by rw [idxI_noneE (fun j x hj => hno j x (List.getElem?_eq_some_iff.1 hj).1 hj)]; rfl, rfl⟩) (by simp)
def hdZ : Hd := ⟨0, 0, 0⟩
def fndH (p : Hd → Bool) (xs : List Hd) : Hd := if 0 ≤ idxI p xs then xs.getD (idxI p xs).toNat hdZ else hdZ
def fndI (p : Hd → Bool) (xs : List Hd) : Int := if 0 ≤ idxI p xs then idxI p xs else 0
theorem foundH_c {F0 : List Fact} {g : Nat} {lb : List Value} (hg : alook tb.fn g = some ()) (p : Hd → Bool) {a : Option Addr} {cap : Nat} {xs : List Hd} (hlen : xs.length ≤ 1000000) (hc : ∀ x ∈ xs, Cm Tryz.prog g (.agg (hdL x).toArray :: lb) [] F0 (rets (.bool (p x)))) :
    Cm Tryz.prog 233 [.slice a xs.length cap, .func (.func g) #[] lb.toArray] [] (slF hdL 3 (.slice a xs.length cap) xs :: F0) (rets (.tuple #[.agg (hdL (fndH p xs)).toArray, .int .i64 (fndI p xs), .bool (xs.any p)])) := by
  refine cm_of (tab := tb) (ok := tbOk) [.o (.v (.slice a xs.length cap)), .o (.v (.func (.func g) #[] lb.toArray))] Tryz.func233 Tryz.ntmps233 rfl rfl (fun _ _ => rfl) ?_
  intro w0 A0
  refine ojs_call [] [] rfl rfl rfl rfl rfl rfl rfl (by simp) (fun _ => ixHd_idx hg p (by omega) hc) (fun f hf => hf) (.inl rfl) ?_
  rintro e cs F1 _ ⟨rfl, rfl⟩
  rw [← idxI_any]
  by_cases h0 : 0 ≤ idxI p xs
  · obtain ⟨i, x, hi, hx, _⟩ := idxI_some h0
    have e1 : fndH p xs = x := by unfold fndH; rw [if_pos h0, hi]; simp [List.getD_eq_getElem?_getD, hx]
    have e2 : fndI p xs = idxI p xs := if_pos h0
    rw [e1, e2, show decide (0 ≤ idxI p xs) = true by simpa using h0]
    have hil := (List.getElem?_eq_some_iff.1 hx).1
    clear hc e1 e2
    generalize idxI p xs = z at h0 hi
    refine brB_dec (fun h1 => ?_) (fun h1 => ?_)
    · exact absurd h1 (by omega)
    subst hi
    refine ojs_fact (slF hdL 3 (.slice a xs.length cap) xs) (by simp) (slF_neE hx) ?_
    rintro ⟨b, off, rfl⟩
    refine ojs_index (i := i) rfl (by omega) rfl rfl rfl rfl ?_
    refine ojs_loadN (vs := hdL x) (slF hdL 3 (.slice (some ⟨b, off, none⟩) xs.length cap) xs) (by simp) (slF_atN hx) rfl rfl rfl ?_
    exact endR_ok [] rfl rfl ⟨rfl, rfl⟩ rfl (fun _ => ⟨rfl, rfl⟩) (by simp)
  · have e1 : fndH p xs = hdZ := if_neg h0
    have e2 : fndI p xs = 0 := if_neg h0
    rw [e1, e2, show decide (0 ≤ idxI p xs) = false by simp; omega]
    clear hc e1 e2
    generalize idxI p xs = i at h0
    refine brB_dec (fun h1 => ?_) (fun h1 => ?_)
    · exact endR_ok [] rfl rfl ⟨rfl, rfl⟩ rfl (fun _ => ⟨rfl, rfl⟩) (by simp)
    · exact absurd h1 (by omega)
def okH (xs : List Hd) : List Hd := bif holdB xs then xs else []
theorem slF_nilH : ∀ A w, (slF hdL 3 (.slice none 0 0) []).h A w := by
  intro A w
  simp [slF]
  exact ⟨none, 0, ⟨rfl, rfl⟩, fun _ => rfl⟩
end Go.Proofs.YtmhnlkakbadkgaaGreat
namespace Go.Proofs.YtmhnlkakbadkgaaGreat
open Go.RowKit Go.Shelf
set_option maxRecDepth 100000
theorem site1_c (x : Hd) (z : Int) (b : Nat) : Cm Tryz.prog 260 [.agg (hdL x).toArray, .pointer (some ⟨b, 0, none⟩)] [] [blkF b [.int .i64 z] 3] (rets (.bool (x.site == z))) := by
  refine cm_of (tab := tb) (ok := tbOk) [.g [.v (.int .i64 x.site), .v (.int .i64 x.use), .v (.int .i64 x.mode)], .o (.v (.pointer (some ⟨b, 0, none⟩)))] Tryz.func260 Tryz.ntmps260 rfl rfl (fun _ _ => rfl) ?_
  intro w0 A0
  refine ojs_loadF1 (cs := [.int .i64 z]) (b := b) (ct := 3) (by simp) rfl rfl rfl rfl ?_
  exact endR_ok [] rfl rfl ⟨rfl, rfl⟩ rfl (fun _ => ⟨rfl, rfl⟩) (by simp)
def fndT (p : Hd → Bool) (xs : List Hd) : Value := .tuple #[.agg (hdL (fndH p xs)).toArray, .int .i64 (fndI p xs), .bool (xs.any p)]
def siteP (z : Int) (x : Hd) : Bool := x.site == z
theorem holdSite_c (a : Option Addr) (cap : Nat) (xs : List Hd) (r : Bool) (z : Int) (hl : xs.length ≤ 1000000) : Cm Tryz.prog 213 [.agg #[.slice a xs.length cap, .bool r], .int .i64 z] [] [slF hdL 3 (.slice a xs.length cap) xs] (rets (fndT (siteP z) xs)) := by
  refine cm_of (tab := tb) (ok := tbOk) [.g [.v (.slice a xs.length cap), .v (.bool r)], .o (.v (.int .i64 z))] Tryz.func213 Tryz.ntmps213 rfl rfl (fun _ _ => rfl) ?_
  intro w0 A0
  refine ojs_call (F0 := [slF hdL 3 (.slice a xs.length cap) xs]) [1] [] rfl rfl rfl rfl rfl rfl rfl (by simp) (fun ρ => (foundH_c (F0 := [blkF (ρ 1) [.int .i64 z] 3]) (lb := [.pointer (some ⟨ρ 1, 0, none⟩)]) rfl (siteP z) hl (fun x _ => site1_c x z (ρ 1))).facts (fun A w h f hf => h f (by simp [lentV] at hf ⊢; exact hf.symm))) (by simp) (.inr (by rintro e cs F1 ⟨_, rfl⟩; rfl)) ?_
  rintro e cs F1 _ ⟨rfl, rfl⟩
  unfold fndT
  exact endR_ok [] rfl rfl ⟨rfl, rfl⟩ rfl (fun _ => ⟨rfl, rfl⟩) (by simp)
theorem holdFind_c (a : Option Addr) (cap : Nat) (xs : List Hd) (z : Int) (hl : xs.length ≤ 1000000) : Cm Tryz.prog 151 [.slice a xs.length cap, .int .i64 z] [] [slF hdL 3 (.slice a xs.length cap) xs] (rets (.tuple #[.agg (hdL (fndH (siteP z) (okH xs))).toArray, .bool ((okH xs).any (siteP z))])) := by
  refine cm_of (tab := tb) (ok := tbOk) [.o (.v (.slice a xs.length cap)), .o (.v (.int .i64 z))] Tryz.func151 Tryz.ntmps151 rfl rfl (fun _ _ => rfl) ?_
  intro w0 A0
  refine ojs_call [] [] rfl rfl rfl rfl rfl rfl rfl (by simp) (fun _ => holdOf_c a cap xs hl) (by simp) (.inl rfl) ?_
  rintro e cs F1 _ ⟨rfl, rfl⟩
  unfold okH
  cases holdB xs
  · refine ojs_call (F0 := []) [] [] rfl rfl rfl rfl rfl rfl rfl (by simp) (fun _ => (holdSite_c none 0 [] false z (by simp)).facts (fun A w h f hf => by rw [List.mem_singleton] at hf; subst hf; exact slF_nilH A w)) (by simp) (.inl rfl) ?_
    rintro e cs F1 _ ⟨rfl, rfl⟩
    unfold fndT
    exact endR_ok [] rfl rfl ⟨rfl, rfl⟩ rfl (fun _ => ⟨rfl, rfl⟩) (by simp)
  · refine ojs_call [] [] rfl rfl rfl rfl rfl rfl rfl (by simp) (fun _ => holdSite_c a cap xs true z hl) (by simp) (.inl rfl) ?_
    rintro e cs F1 _ ⟨rfl, rfl⟩
    unfold fndT
    exact endR_ok [] rfl rfl ⟨rfl, rfl⟩ rfl (fun _ => ⟨rfl, rfl⟩) (by simp)
end Go.Proofs.YtmhnlkakbadkgaaGreat
namespace Go.Proofs.YtmhnlkakbadkgaaGreat
open Go.RowKit Go.Shelf
set_option maxRecDepth 100000
theorem refMayH_c (x : Hd) : Cm Tryz.prog 183 [.agg (hdL x).toArray] [] [] (rets (.bool (hdB x))) := by
  obtain ⟨site, use, mode⟩ := x
  refine cm_of (tab := tb) (ok := tbOk) [.g [.v (.int .i64 site), .v (.int .i64 use), .v (.int .i64 mode)]] Tryz.func183 Tryz.ntmps183 rfl rfl (fun _ _ => rfl) ?_
  intro w0 A0
  repeat' (first | refine brB_dec (fun _ => ?_) (fun _ => ?_) | refine brB_split (fun _ => ?_) (fun _ => ?_) | (refine endR_ok [] rfl rfl ⟨rfl, rfl⟩ rfl (fun _ => ⟨ret_bool ?_, rfl⟩) (by simp); (rw [Bool.eq_iff_iff]; simp [hdB, modeB] at * <;> (try dsimp only at *) <;> first | omega | (simp_all; done) | (simp_all; omega))) | (refine ojs_call [] [] rfl rfl rfl rfl rfl rfl rfl (by simp) (fun _ => refMode_c _) (by simp) (.inl rfl) ?_; rintro e cs F1 _ ⟨rfl, rfl⟩))
theorem refModesH_c (a : Option Addr) (cap : Nat) (xs : List Hd) (hl : xs.length ≤ 1000000) : Cm Tryz.prog 185 [.slice a xs.length cap] [] [slF hdL 3 (.slice a xs.length cap) xs] (modesR xs) := by
  refine cm_of (tab := tb) (ok := tbOk) [.o (.v (.slice a xs.length cap))] Tryz.func185 Tryz.ntmps185 rfl rfl (fun _ _ => rfl) ?_
  intro w0 A0
  refine cjs_weak (wk_own 63 1) ?_
  refine cjs_loopP (γ := Nat × Option Addr × Nat) (fun g => g.1 ≤ xs.length) (fun g => [(4, .o (.v (.int .i64 g.1))), (3, .o (.v (.slice g.2.1 g.1 g.2.2)))]) (fun g => [(0, .own (.slice g.2.1 g.1 g.2.2) 63 1 g.1 ((modesH (xs.take g.1)).flatMap encI))]) (fun _ => []) (fun g => xs.length - g.1) (0, none, 0) (Nat.zero_le _) (wk_patch (by repeat' (first | exact trivial | exact Or.inl rfl | refine Or.inr ⟨?_, ?_⟩ | rfl | refine ⟨?_, ?_⟩ | exact lt_all_v)) (by repeat' (first | exact trivial | exact Or.inl rfl | refine Or.inr ⟨?_, ?_⟩ | rfl | refine ⟨?_, ?_⟩ | exact lt_all_v)) (fun f hf => hf) (by simp) D_nil) ?_
  rintro ⟨k, a1, c1⟩ hk
  simp only at hk
  refine brB_dec (fun h1 => ?_) (fun h1 => ?_)
  rotate_left
  · obtain rfl : k = xs.length := by dsimp only at h1; omega
    refine endR_weak (wk_seal (j := 0) (v := .slice a1 xs.length c1) (m := xs.length) (enc := encI) (xs := modesH xs) (.inl rfl) (fun _ => rfl) (by simp [modesH]) (by rw [← List.take_length (l := xs)]; simp only [List.take_length]; rfl)) ?_
    exact endR_ok [slF encI 1 (.slice a1 xs.length c1) (modesH xs)] rfl rfl ⟨rfl, rfl⟩ rfl (fun _ => ⟨a1, c1, rfl, rfl⟩) (by simp)
  obtain ⟨x, hx⟩ := at_some (xs := xs) (k := k) (by dsimp only at h1; omega)
  refine ojs_fact (slF hdL 3 (.slice a xs.length cap) xs) (by simp) (slF_neE hx) ?_
  rintro ⟨b, off, rfl⟩
  refine ojs_index (i := k) rfl (by dsimp only at h1; omega) rfl rfl rfl rfl ?_
  refine ojs_load1 (slF hdL 3 (.slice (some ⟨b, off, none⟩) xs.length cap) xs) (by simp) (slF_at hx (j := 2) rfl) rfl rfl rfl ?_
  refine ojs_append 0 (m' := 1) (news := [.int .i64 x.mode]) rfl rfl rfl rfl rfl rfl rfl rfl rfl (by decide) rfl rfl rfl (srcL (news := [.int .i64 x.mode]) rfl rfl) rfl (by simp [Value.oneCell']) (by omega) (by simp only [maxLen]; omega) ?_
  intro a2 c2
  refine ojs_arith (z := ((k + 1 : Nat) : Int)) (by first | decide | (rw [wrap_in] <;> omega) | (dsimp only; rw [wrap_in] <;> omega)) rfl rfl rfl rfl ?_
  refine ⟨(k + 1, a2, c2), by dsimp only at h1; dsimp only; omega, by dsimp only at h1; dsimp only; omega, ?_⟩
  simp only [modesH_snoc hx]
  exact wk_patch (by repeat' (first | exact trivial | exact Or.inl rfl | refine Or.inr ⟨?_, ?_⟩ | rfl | refine ⟨?_, ?_⟩ | exact lt_all_v)) (by repeat' (first | exact trivial | exact Or.inl rfl | refine Or.inr ⟨?_, ?_⟩ | rfl | refine ⟨?_, ?_⟩ | exact lt_all_v)) (fun f hf => hf) (by simp) D_nil
theorem refFindH_c (a : Option Addr) (cap : Nat) (xs : List Hd) (z : Int) (hl : xs.length ≤ 1000000) : Cm Tryz.prog 186 [.slice a xs.length cap, .int .i64 z] [] [slF hdL 3 (.slice a xs.length cap) xs] (rets (.int .i64 (idxI (siteP z) xs))) := by
  refine cm_of (tab := tb) (ok := tbOk) [.o (.v (.slice a xs.length cap)), .o (.v (.int .i64 z))] Tryz.func186 Tryz.ntmps186 rfl rfl (fun _ _ => rfl) ?_
  intro w0 A0
  refine cjs_loopP (γ := Nat) (fun k => k ≤ xs.length ∧ ∀ (j : Nat) x, j < k → xs[j]? = some x → siteP z x = false) (fun k => [(5, .o (.v (.int .i64 k)))]) (fun _ => []) (fun _ => []) (fun k => xs.length - k) 0 ⟨Nat.zero_le _, fun j x hj => by omega⟩ (wk_patch (by repeat' (first | exact trivial | exact Or.inl rfl | refine Or.inr ⟨?_, ?_⟩ | rfl | refine ⟨?_, ?_⟩ | exact lt_all_v)) (by repeat' (first | exact trivial | exact Or.inl rfl | refine Or.inr ⟨?_, ?_⟩ | rfl | refine ⟨?_, ?_⟩ | exact lt_all_v)) (fun f hf => hf) (by simp) D_nil) ?_
  rintro k ⟨hk, hno⟩
  refine brB_dec (fun h1 => ?_) (fun h1 => ?_)
  · obtain ⟨x, hx⟩ := at_some (xs := xs) (k := k) (by omega)
    refine ojs_fact (slF hdL 3 (.slice a xs.length cap) xs) (by simp) (slF_neE hx) ?_
    rintro ⟨b, off, rfl⟩
    refine ojs_index rfl (by omega) rfl rfl rfl rfl ?_
    refine ojs_load1 (slF hdL 3 (.slice (some ⟨b, off, none⟩) xs.length cap) xs) (by simp) (slF_at hx (j := 0) rfl) rfl rfl rfl ?_
    refine brB_split (fun h2 => ?_) (fun h2 => ?_)
    · rw [idxI_atE hno hx h2]
      exact endR_ok [] rfl rfl ⟨rfl, rfl⟩ rfl (fun _ => ⟨rfl, rfl⟩) (by simp)
    · refine ojs_arith (z := ((k + 1 : Nat) : Int)) (by first | decide | (rw [wrap_in] <;> omega) | (dsimp only; rw [wrap_in] <;> omega)) rfl rfl rfl rfl ?_
      refine ⟨k + 1, ⟨by omega, fun j y hj hy => ?_⟩, (by first | omega | (dsimp only; omega)), wk_patch (by repeat' (first | exact trivial | exact Or.inl rfl | refine Or.inr ⟨?_, ?_⟩ | rfl | refine ⟨?_, ?_⟩ | exact lt_all_v)) (by repeat' (first | exact trivial | exact Or.inl rfl | refine Or.inr ⟨?_, ?_⟩ | rfl | refine ⟨?_, ?_⟩ | exact lt_all_v)) (fun f hf => hf) (by simp) D_nil⟩
      rcases Nat.lt_succ_iff_lt_or_eq.1 hj with h | rfl
      · exact hno j y h hy
      · rw [hx] at hy; cases hy; exact h2
  · rw [idxI_noneE (fun j x hj => hno j x (by have := (List.getElem?_eq_some_iff.1 hj).1; omega) hj)]
    exact endR_ok [] rfl rfl ⟨rfl, rfl⟩ rfl (fun _ => ⟨rfl, rfl⟩) (by simp)
theorem togB_no {xs : List Int} {j k : Nat} {x y : Int} (hjk : j < k) (hx : xs[k]? = some x) (hy : xs[j]? = some y) (h : fitsM x y = false) : togB xs = false := by
  rw [Bool.eq_false_iff]
  intro hw
  simp only [togB, decide_eq_true_eq] at hw
  obtain ⟨h1, e1⟩ := List.getElem?_eq_some_iff.1 hy
  obtain ⟨h2, e2⟩ := List.getElem?_eq_some_iff.1 hx
  have := List.pairwise_iff_getElem.1 hw j k h1 h2 hjk
  rw [e1, e2, h] at this
  cases this
theorem refTog_c (a : Option Addr) (cap : Nat) (xs : List Int) (hl : xs.length ≤ 1000000) : Cm Tryz.prog 184 [.slice a xs.length cap] [] [slF encI 1 (.slice a xs.length cap) xs] (rets (.bool (togB xs))) := by
  refine cm_of (tab := tb) (ok := tbOk) [.o (.v (.slice a xs.length cap))] Tryz.func184 Tryz.ntmps184 rfl rfl (fun _ _ => rfl) ?_
  intro w0 A0
  refine cjs_loopP (γ := Nat) (fun k => k ≤ xs.length ∧ togB (xs.take k) = true) (fun k => [(3, .o (.v (.int .i64 k)))]) (fun _ => []) (fun _ => []) (fun k => xs.length - k) 0 ⟨Nat.zero_le _, by simp [togB]⟩ (wk_patch (by repeat' (first | exact trivial | exact Or.inl rfl | refine Or.inr ⟨?_, ?_⟩ | rfl | refine ⟨?_, ?_⟩ | exact lt_all_v)) (by repeat' (first | exact trivial | exact Or.inl rfl | refine Or.inr ⟨?_, ?_⟩ | rfl | refine ⟨?_, ?_⟩ | exact lt_all_v)) (fun f hf => hf) (by simp) D_nil) ?_
  rintro k ⟨hk, htog⟩
  refine brB_dec (fun h1 => ?_) (fun h1 => ?_)
  rotate_left
  · obtain rfl : k = xs.length := by omega
    rw [List.take_length] at htog
    rw [htog]
    exact endR_ok [] rfl rfl ⟨rfl, rfl⟩ rfl (fun _ => ⟨rfl, rfl⟩) (by simp)
  obtain ⟨x, hx⟩ := at_some (xs := xs) (k := k) (by omega)
  refine cjs_loopP (γ := Nat) (fun j => j ≤ k ∧ ∀ (i : Nat) y, i < j → xs[i]? = some y → fitsM x y = true) (fun j => [(4, .o (.v (.int .i64 j)))]) (fun _ => []) (fun _ => []) (fun j => k - j) 0 ⟨Nat.zero_le _, fun i y hi => by omega⟩ (wk_patch (by repeat' (first | exact trivial | exact Or.inl rfl | refine Or.inr ⟨?_, ?_⟩ | rfl | refine ⟨?_, ?_⟩ | exact lt_all_v)) (by repeat' (first | exact trivial | exact Or.inl rfl | refine Or.inr ⟨?_, ?_⟩ | rfl | refine ⟨?_, ?_⟩ | exact lt_all_v)) (fun f hf => hf) (by simp) D_nil) ?_
  rintro j ⟨hj, hfit⟩
  refine brB_dec (fun h2 => ?_) (fun h2 => ?_)
  rotate_left
  · obtain rfl : j = k := by omega
    refine ojs_arith (z := ((j + 1 : Nat) : Int)) (by first | decide | (rw [wrap_in] <;> omega) | (dsimp only; rw [wrap_in] <;> omega)) rfl rfl rfl rfl ?_
    refine ⟨j + 1, ⟨by omega, ?_⟩, (by first | omega | (dsimp only; omega)), wk_patch (by repeat' (first | exact trivial | exact Or.inl rfl | refine Or.inr ⟨?_, ?_⟩ | rfl | refine ⟨?_, ?_⟩ | exact lt_all_v)) (by repeat' (first | exact trivial | exact Or.inl rfl | refine Or.inr ⟨?_, ?_⟩ | rfl | refine ⟨?_, ?_⟩ | exact lt_all_v)) (fun f hf => hf) (by simp) D_nil⟩
    rw [List.take_add_one, hx]
    show togB (xs.take j ++ [x]) = true
    rw [togB_snoc, htog, Bool.true_and, List.all_eq_true]
    intro y hy
    obtain ⟨i, hi⟩ := List.mem_iff_getElem?.1 hy
    have hil := (List.getElem?_eq_some_iff.1 hi).1
    rw [List.length_take] at hil
    rw [List.getElem?_take_of_lt (by omega)] at hi
    exact hfit i y (by omega) hi
  obtain ⟨y, hy⟩ := at_some (xs := xs) (k := j) (by omega)
  refine cjs_fact (slF encI 1 (.slice a xs.length cap) xs) (by simp) (slF_neE hx) ?_
  rintro ⟨b, off, rfl⟩
  refine cjs_drawn [8] (.op 0 <| .op 1 <| .op 2 <| .op 3 <| .op 4 <| .op 5 <| .op 6 <| .op 7 <| .op 8 <| .op 9 .z) [] [] [] [slF encI 1 (.slice (some ⟨b, off, none⟩) xs.length cap) xs] (by kernel_rfl) (by kernel_rfl) rfl (by simp) (by simp) ?_
  intro N
  refine ⟨_, yd_index (i := k) rfl (by omega) rfl rfl rfl rfl, ?_⟩
  refine ⟨_, yd_load1 (slF encI 1 (.slice (some ⟨b, off, none⟩) xs.length cap) xs) (by simp) (slF_at hx (j := 0) rfl) rfl rfl rfl, ?_⟩
  refine ⟨_, yd_index (i := j) rfl (by omega) rfl rfl rfl rfl, ?_⟩
  refine ⟨_, yd_load1 (slF encI 1 (.slice (some ⟨b, off, none⟩) xs.length cap) xs) (by simp) (slF_at hy (j := 0) rfl) rfl rfl rfl, ?_⟩
  refine ojs_call [] [] rfl rfl rfl rfl rfl rfl rfl (by simp) (fun _ => refFits_c x y) (by simp) (.inl rfl) ?_
  rintro e cs F1 _ ⟨rfl, rfl⟩
  refine ⟨⟨(by repeat' (first | exact trivial | refine ⟨Or.inl rfl, ?_⟩ | refine ⟨Or.inr ⟨rfl, Nat.le_of_ble_eq_true rfl, _, rfl, rfl, rfl⟩, ?_⟩)), by simp⟩, ?_⟩
  cases hf : fitsM x y
  · rw [togB_no (by omega) hx hy hf]
    exact endR_ok [] rfl rfl ⟨rfl, rfl⟩ rfl (fun _ => ⟨rfl, rfl⟩) (by simp)
  · refine ojs_arith (z := ((j + 1 : Nat) : Int)) (by first | decide | (rw [wrap_in] <;> omega) | (dsimp only; rw [wrap_in] <;> omega)) rfl rfl rfl rfl ?_
    refine ⟨j + 1, ⟨by omega, fun i y' hi hy' => ?_⟩, (by first | omega | (dsimp only; omega)), wk_patch (by repeat' (first | exact trivial | exact Or.inl rfl | refine Or.inr ⟨?_, ?_⟩ | rfl | refine ⟨?_, ?_⟩ | exact lt_all_v)) (by repeat' (first | exact trivial | exact Or.inl rfl | refine Or.inr ⟨?_, ?_⟩ | rfl | refine ⟨?_, ?_⟩ | exact lt_all_v)) (fun f hf => hf) (by simp) D_nil⟩
    rcases Nat.lt_succ_iff_lt_or_eq.1 hi with h | rfl
    · exact hfit i y' h hy'
    · rw [hy] at hy'; cases hy'; exact hf
theorem refHolds_c (a : Option Addr) (cap : Nat) (xs : List Hd) (hl : xs.length ≤ 1000000) : Cm Tryz.prog 118 [.slice a xs.length cap] [] [slF hdL 3 (.slice a xs.length cap) xs] (rets (.bool (holdB xs))) := by
  refine cm_of (tab := tb) (ok := tbOk) [.o (.v (.slice a xs.length cap))] Tryz.func118 Tryz.ntmps118 rfl rfl (fun _ _ => rfl) ?_
  intro w0 A0
  refine cjs_loopP (γ := Nat) (fun k => k ≤ xs.length ∧ (xs.take k).all hdB = true ∧ (xs.take k).Pairwise fun a b => a.site < b.site) (fun k => [(3, .o (.v (.int .i64 k)))]) (fun _ => []) (fun _ => []) (fun k => xs.length - k) 0 ⟨Nat.zero_le _, rfl, List.Pairwise.nil⟩ (wk_patch (by repeat' (first | exact trivial | exact Or.inl rfl | refine Or.inr ⟨?_, ?_⟩ | rfl | refine ⟨?_, ?_⟩ | exact lt_all_v)) (by repeat' (first | exact trivial | exact Or.inl rfl | refine Or.inr ⟨?_, ?_⟩ | rfl | refine ⟨?_, ?_⟩ | exact lt_all_v)) (fun f hf => hf) (by simp) D_nil) ?_
  rintro k ⟨hk, hall, hri⟩
  refine brB_dec (fun h1 => ?_) (fun h1 => ?_)
  rotate_left
  · obtain rfl : k = xs.length := by omega
    rw [List.take_length] at hall hri
    refine ojs_call [] [] rfl rfl rfl rfl rfl rfl rfl (by simp) (fun _ => refModesH_c a cap xs hl) (by simp) (.inl rfl) ?_
    rintro e cs F1 _ ⟨a1, c1, rfl, rfl⟩
    have hml : (modesH xs).length = xs.length := by simp [modesH]
    have hT := refTog_c a1 c1 (modesH xs) (by omega)
    rw [hml] at hT
    have e : holdB xs = togB (modesH xs) := by simp [holdB, riseB, hri]; intro h x hx; exact List.all_eq_true.1 hall x hx
    rw [e]
    refine ojs_call [] [] rfl rfl rfl rfl rfl rfl rfl (by simp) (fun _ => hT) (by simp) (.inl rfl) ?_
    rintro e cs F1 _ ⟨rfl, rfl⟩
    exact endR_ok [] rfl rfl ⟨rfl, rfl⟩ rfl (fun _ => ⟨rfl, rfl⟩) (by simp)
  obtain ⟨x, hx⟩ := at_some (xs := xs) (k := k) (by omega)
  refine cjs_fact (slF hdL 3 (.slice a xs.length cap) xs) (by simp) (slF_neE hx) ?_
  rintro ⟨b, off, rfl⟩
  have next : (hdB x = true) → (∀ y, 0 < k → xs[k - 1]? = some y → y.site < x.site) → (xs.take (k + 1)).all hdB = true ∧ (xs.take (k + 1)).Pairwise fun a b => a.site < b.site := fun h1 h2 =>
    ⟨by rw [List.take_add_one, hx]; simp [List.all_append]; exact ⟨fun y hy => List.all_eq_true.1 hall y hy, h1⟩, rise_snoc hx hri h2⟩
  refine cjs_drawn [4] (.op 0 <| .op 1 <| .op 2 <| .op 3 <| .op 4 <| .op 5 <| .op 6 <| .op 7 <| .op 8 <| .op 9 <| .op 10 <| .op 11 <| .op 12 <| .op 13 <| .op 14 <| .op 15 <| .op 16 <| .op 17 <| .op 18 <| .op 19 <| .op 20 <| .op 21 <| .op 22 <| .op 23 .z) [] [] [] [slF hdL 3 (.slice (some ⟨b, off, none⟩) xs.length cap) xs] (by kernel_rfl) (by kernel_rfl) rfl (by simp) (by simp) ?_
  intro N
  refine ⟨_, yd_index (i := k) rfl (by omega) rfl rfl rfl rfl, ?_⟩
  refine ⟨_, yd_loadN (vs := hdL x) (slF hdL 3 (.slice (some ⟨b, off, none⟩) xs.length cap) xs) (by simp) (slF_atN hx) rfl rfl rfl, ?_⟩
  refine ojs_call [] [] rfl rfl rfl rfl rfl rfl rfl (by simp) (fun _ => refMayH_c x) (by simp) (.inl rfl) ?_
  rintro e cs F1 _ ⟨rfl, rfl⟩
  refine ⟨⟨(by repeat' (first | exact trivial | refine ⟨Or.inl rfl, ?_⟩ | refine ⟨Or.inr ⟨rfl, Nat.le_of_ble_eq_true rfl, _, rfl, rfl, rfl⟩, ?_⟩)), by simp⟩, ?_⟩
  cases hw : hdB x
  · rw [holdB_no hx (.inl hw)]
    exact endR_ok [] rfl rfl ⟨rfl, rfl⟩ rfl (fun _ => ⟨rfl, rfl⟩) (by simp)
  refine brB_dec (fun h2 => ?_) (fun h2 => ?_)
  · obtain ⟨y, hy⟩ := at_some (xs := xs) (k := k - 1) (by omega)
    refine ⟨_, yd_arith (z := ((k - 1 : Nat) : Int)) (by rw [wrap_in] <;> omega) rfl rfl rfl rfl, ?_⟩
    refine ⟨_, yd_index (i := k - 1) rfl (by omega) rfl rfl rfl rfl, ?_⟩
    refine ⟨_, yd_load1 (slF hdL 3 (.slice (some ⟨b, off, none⟩) xs.length cap) xs) (by simp) (slF_at hy (j := 0) rfl) rfl rfl rfl, ?_⟩
    refine ⟨_, yd_index (i := k) rfl (by omega) rfl rfl rfl rfl, ?_⟩
    refine ⟨_, yd_load1 (slF hdL 3 (.slice (some ⟨b, off, none⟩) xs.length cap) xs) (by simp) (slF_at hx (j := 0) rfl) rfl rfl rfl, ?_⟩
    refine brB_dec (fun h3 => ?_) (fun h3 => ?_)
    · rw [holdB_no hx (.inr ⟨y, by omega, hy, by omega⟩)]
      exact endR_ok [] rfl rfl ⟨rfl, rfl⟩ rfl (fun _ => ⟨rfl, rfl⟩) (by simp)
    · refine ojs_arith (z := ((k + 1 : Nat) : Int)) (by first | decide | (rw [wrap_in] <;> omega) | (dsimp only; rw [wrap_in] <;> omega)) rfl rfl rfl rfl ?_
      exact ⟨k + 1, ⟨by omega, next hw (fun z _ hz => by rw [hy] at hz; cases hz; omega)⟩, (by first | omega | (dsimp only; omega)), wk_patch (by repeat' (first | exact trivial | exact Or.inl rfl | refine Or.inr ⟨?_, ?_⟩ | rfl | refine ⟨?_, ?_⟩ | exact lt_all_v)) (by repeat' (first | exact trivial | exact Or.inl rfl | refine Or.inr ⟨?_, ?_⟩ | rfl | refine ⟨?_, ?_⟩ | exact lt_all_v)) (fun f hf => hf) (by simp) D_nil⟩
  · refine ojs_arith (z := ((k + 1 : Nat) : Int)) (by first | decide | (rw [wrap_in] <;> omega) | (dsimp only; rw [wrap_in] <;> omega)) rfl rfl rfl rfl ?_
    exact ⟨k + 1, ⟨by omega, next hw (fun z h0 _ => by omega)⟩, (by first | omega | (dsimp only; omega)), wk_patch (by repeat' (first | exact trivial | exact Or.inl rfl | refine Or.inr ⟨?_, ?_⟩ | rfl | refine ⟨?_, ?_⟩ | exact lt_all_v)) (by repeat' (first | exact trivial | exact Or.inl rfl | refine Or.inr ⟨?_, ?_⟩ | rfl | refine ⟨?_, ?_⟩ | exact lt_all_v)) (fun f hf => hf) (by simp) D_nil⟩
end Go.Proofs.YtmhnlkakbadkgaaGreat
