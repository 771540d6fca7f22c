/- Part 26 of the proof of LockBacks: contracts of functions that the law reaches, or the rules by which they are walked. No condition. -/
import Derived.Test.YtmhnlkakbadkgaaGreatPkay
import Derived.Test.YtmhnlkakbadkgaaGreatPkaf
namespace Go.Proofs.YtmhnlkakbadkgaaGreat
open Go.RowKit Go.Shelf
set_option maxRecDepth 100000
theorem ixI_idx {F0 : List Fact} {g : Nat} {lb : List Value} (hg : alook tb.fn g = some ()) (p : Int → Bool) {a : Option Addr} {cap : Nat} {xs : List Int} (hlen : xs.length ≤ 1099511627776) (hc : ∀ x ∈ xs, Cm Tryz.prog g (.int .i64 x :: lb) [] F0 (rets (.bool (p x)))) :
    Cm Tryz.prog 292 [.slice a xs.length cap, .func (.func g) #[] lb.toArray] [] (slF encI 1 (.slice a xs.length cap) xs :: F0) (rets (.int .i64 (idxI p xs))) := by
  refine cm_of (tab := tb) (ok := tbOk) [.o (.v (.slice a xs.length cap)), .o (.v (.func (.func g) #[] lb.toArray))] Tryz.func292 Tryz.ntmps292 rfl rfl (fun _ _ => rfl) ?_
  intro w0 A0
  refine cjs_loopP (γ := Nat) (fun k => k ≤ xs.length ∧ ∀ (j : Nat) x, j < k → xs[j]? = some x → p x = false) (fun k => [(8, .o (.v (.int .i64 k)))]) (fun _ => []) (fun _ => []) (fun k => xs.length - k) 0 ⟨Nat.zero_le _, fun j x hj => by omega⟩ (wk_patch (by repeat' (first | exact trivial | exact Or.inl rfl | refine Or.inr ⟨?_, ?_⟩ | rfl | refine ⟨?_, ?_⟩ | exact lt_all_v)) (by repeat' (first | exact trivial | exact Or.inl rfl | refine Or.inr ⟨?_, ?_⟩ | rfl | refine ⟨?_, ?_⟩ | exact lt_all_v)) (fun f hf => hf) (by simp) D_nil) ?_
  rintro k ⟨hk, hno⟩
  refine brB_dec (fun h1 => ?_) (fun h1 => ?_)
  · obtain ⟨x, hx⟩ := at_some (xs := xs) (k := k) (by omega)
    skip
    refine ojs_fact (slF encI 1 (.slice a xs.length cap) xs) (by simp) (slF_neE hx) ?_
    rintro ⟨b, off, rfl⟩
    refine ojs_index rfl (by omega) rfl rfl rfl rfl ?_
    refine ojs_load1 (slF encI 1 (.slice (some ⟨b, off, none⟩) xs.length cap) xs) (by simp) (slF_at hx (j := 0) rfl) rfl rfl rfl ?_
    have hc2 : ∀ ρ : Nm, Cm Tryz.prog g (argV ρ [] [TV.o (.v (.int .i64 x))] (lb.map PV.v)) [] F0 (rets (.bool (p x))) := fun ρ => by
      have e : argV ρ [] [TV.o (.v (.int .i64 x))] (lb.map PV.v) = .int .i64 x :: lb := (argV_lb ρ [TV.o (.v (.int .i64 x))] lb).trans rfl
      rw [e]; exact hc x (List.mem_of_getElem? hx)
    refine ojs_call [] [] rfl rfl rfl rfl hg rfl rfl (by simp) (fun ρ => hc2 ρ) (fun f hf => List.mem_cons_of_mem _ hf) (.inl rfl) ?_
    rintro e cs F1 _ ⟨rfl, rfl⟩
    cases hb : p x
    · refine ojs_arith (z := ((k + 1 : Nat) : Int)) (by first | decide | (rw [wrap_in] <;> omega) | (dsimp only; rw [wrap_in] <;> omega)) rfl rfl rfl rfl ?_
      refine ⟨k + 1, ⟨by omega, fun j y hj hy => ?_⟩, (by first | omega | (dsimp only; omega)), wk_patch (by repeat' (first | exact trivial | exact Or.inl rfl | refine Or.inr ⟨?_, ?_⟩ | rfl | refine ⟨?_, ?_⟩ | exact lt_all_v)) (by repeat' (first | exact trivial | exact Or.inl rfl | refine Or.inr ⟨?_, ?_⟩ | rfl | refine ⟨?_, ?_⟩ | exact lt_all_v)) (fun f hf => hf) (by simp) D_nil⟩
      rcases Nat.lt_succ_iff_lt_or_eq.1 hj with h | rfl
      · exact hno j y h hy
      · rw [hx] at hy; cases hy; exact hb
    · exact endR_ok [] rfl rfl ⟨rfl, rfl⟩ rfl (fun _ => ⟨by rw [idxI_atE hno hx hb]; rfl, rfl⟩) (by simp)
  · obtain rfl : k = xs.length := by omega
    exact endR_ok [] rfl rfl ⟨rfl, rfl⟩ rfl (fun _ => ⟨by rw [idxI_noneE (fun j x hj => hno j x (List.getElem?_eq_some_iff.1 hj).1 hj)]; rfl, rfl⟩) (by simp)
theorem ixI_con {F0 : List Fact} {g : Nat} {lb : List Value} (hg : alook tb.fn g = some ()) (p : Int → Bool) {a : Option Addr} {cap : Nat} {xs : List Int} (hlen : xs.length ≤ 1099511627776) (hc : ∀ x ∈ xs, Cm Tryz.prog g (.int .i64 x :: lb) [] F0 (rets (.bool (p x)))) :
    Cm Tryz.prog 252 [.slice a xs.length cap, .func (.func g) #[] lb.toArray] [] (slF encI 1 (.slice a xs.length cap) xs :: F0) (rets (.bool (xs.any p))) := by
  refine cm_of (tab := tb) (ok := tbOk) [.o (.v (.slice a xs.length cap)), .o (.v (.func (.func g) #[] lb.toArray))] Tryz.func252 Tryz.ntmps252 rfl rfl (fun _ _ => rfl) ?_
  intro w0 A0
  refine ojs_call [] [] rfl rfl rfl rfl rfl rfl rfl (by simp) (fun _ => ixI_idx hg p hlen hc) (fun f hf => hf) (.inl rfl) ?_
  rintro e cs F1 _ ⟨rfl, rfl⟩
  exact endR_ok [] rfl rfl ⟨rfl, rfl⟩ rfl (fun _ => ⟨ret_bool idxI_any, rfl⟩) (by simp)
theorem ownerThere1_c (n l s k : Int) (b : Nat) : Cm Tryz.prog 253 [.int .i64 k, .pointer (some ⟨b, 0, none⟩)] [] [blkF b [.int .i64 n, .int .i64 l, .int .i64 s] 23] (rets (.bool (!nodeB n k))) := by
  refine cm_of (tab := tb) (ok := tbOk) [.o (.v (.int .i64 k)), .o (.v (.pointer (some ⟨b, 0, none⟩)))] Tryz.func253 Tryz.ntmps253 rfl rfl (fun _ _ => rfl) ?_
  intro w0 A0
  refine brB_dec (fun _ => ?_) (fun _ => ?_)
  · repeat' (first | refine brB_dec (fun _ => ?_) (fun _ => ?_) | refine brB_split (fun _ => ?_) (fun _ => ?_) | (refine endR_ok [] rfl rfl ⟨rfl, rfl⟩ rfl (fun _ => ⟨ret_bool ?_, rfl⟩) (by simp); (rw [Bool.eq_iff_iff]; simp [nodeB] at * <;> (try dsimp only at *) <;> first | omega | (simp_all; done) | (simp_all; omega))) | fail)
  refine ojs_load1 (blkF b [.int .i64 n, .int .i64 l, .int .i64 s] 23) (by simp) (fun A w h => blk_cell (o := 0) rfl _ w h) rfl rfl rfl ?_
  repeat' (first | refine brB_dec (fun _ => ?_) (fun _ => ?_) | refine brB_split (fun _ => ?_) (fun _ => ?_) | (refine endR_ok [] rfl rfl ⟨rfl, rfl⟩ rfl (fun _ => ⟨ret_bool ?_, rfl⟩) (by simp); (rw [Bool.eq_iff_iff]; simp [nodeB] at * <;> (try dsimp only at *) <;> first | omega | (simp_all; done) | (simp_all; omega))) | fail)
theorem ownerThere_c (n l s : Int) (a : Option Addr) (cap : Nat) (xs : List Int) (hx : xs.length ≤ 1000) : Cm Tryz.prog 204 [.agg #[.int .i64 n, .int .i64 l, .int .i64 s], .slice a xs.length cap] [] [slF encI 1 (.slice a xs.length cap) xs] (rets (.bool (shapeB n l s && xs.all (nodeB n)))) := by
  refine cm_of (tab := tb) (ok := tbOk) [.g [.v (.int .i64 n), .v (.int .i64 l), .v (.int .i64 s)], .o (.v (.slice a xs.length cap))] Tryz.func204 Tryz.ntmps204 rfl rfl (fun _ _ => rfl) ?_
  intro w0 A0
  refine ojs_call [] [] rfl rfl rfl rfl rfl rfl rfl (by simp) (fun _ => siteCheck_c n l s) (by simp) (.inl rfl) ?_
  rintro e cs F1 _ ⟨rfl, rfl⟩
  unfold shapeE
  cases hs : shapeB n l s
  · exact endR_ok [] rfl rfl ⟨rfl, rfl⟩ rfl (fun _ => ⟨rfl, rfl⟩) (by simp)
  refine ojs_call (F0 := [slF encI 1 (.slice a xs.length cap) xs]) [0] [] rfl rfl rfl rfl rfl rfl rfl (by simp) (fun ρ => (ixI_con (F0 := [blkF (ρ 0) [.int .i64 n, .int .i64 l, .int .i64 s] 23]) (lb := [.pointer (some ⟨ρ 0, 0, none⟩)]) rfl (fun k => !nodeB n k) (by omega) (fun k _ => ownerThere1_c n l s k (ρ 0))).facts (fun A w h f hf => h f (by simp [lentV] at hf ⊢; exact hf.symm))) (by simp) (.inr (by rintro e cs F1 ⟨_, rfl⟩; rfl)) ?_
  rintro e cs F1 _ ⟨rfl, rfl⟩
  have e : (!xs.any fun k => !nodeB n k) = xs.all (nodeB n) := by rw [List.all_eq_not_any_not]
  rw [← e]
  cases xs.any fun k => !nodeB n k
  · exact endR_ok [] rfl rfl ⟨rfl, rfl⟩ rfl (fun _ => ⟨rfl, rfl⟩) (by simp)
  · exact endR_ok [] rfl rfl ⟨rfl, rfl⟩ rfl (fun _ => ⟨rfl, rfl⟩) (by simp)
structure Own where
  node : Int
  hop : Int
def ownL (o : Own) : List Value := [.int .i64 o.node, .int .i64 o.hop]
def hopB (n : Int) : Bool := decide (0 ≤ n) && decide (n ≤ 1099511627776)
def ownB (n l s : Int) (o : Own) : Bool := shapeB n l s && nodeB n o.node && hopB o.hop
def ownE (n l s : Int) (o : Own) : Int := bif ownB n l s o then 0 else 2
theorem ownerThere_one (n l s k : Int) (b : Nat) : Cm Tryz.prog 204 [.agg #[.int .i64 n, .int .i64 l, .int .i64 s], .slice (some ⟨b, 0, none⟩) 1 1] [] [blkF b [.int .i64 k] 3] (rets (.bool (shapeB n l s && nodeB n k))) := by
  have h := (ownerThere_c n l s (some ⟨b, 0, none⟩) 1 [k] (by simp)).facts (F0 := [blkF b [.int .i64 k] 3]) (fun A w h f hf => by
    cases List.mem_singleton.1 hf
    exact slF_blkN (enc := encI) (xs := [k]) (cells := [.int .i64 k]) (t := 3) rfl (fun _ => rfl) rfl (h _ (List.mem_singleton.2 rfl)))
  simpa using h
theorem ownerHop_c (n : Int) : Cm Tryz.prog 210 [.int .i64 n] [] [] (rets (.bool (hopB n))) := by
  refine cm_of (tab := tb) (ok := tbOk) [.o (.v (.int .i64 n))] Tryz.func210 Tryz.ntmps210 rfl rfl (fun _ _ => rfl) ?_
  intro w0 A0
  repeat' (first | refine brB_dec (fun _ => ?_) (fun _ => ?_) | refine brB_split (fun _ => ?_) (fun _ => ?_) | (refine endR_ok [] rfl rfl ⟨rfl, rfl⟩ rfl (fun _ => ⟨ret_bool ?_, rfl⟩) (by simp); (rw [Bool.eq_iff_iff]; simp [hopB] at * <;> (try dsimp only at *) <;> first | omega | (simp_all; done) | (simp_all; omega))) | fail)
theorem ownerRight_c (n l s : Int) (o : Own) : Cm Tryz.prog 172 [.agg #[.int .i64 n, .int .i64 l, .int .i64 s], .agg (ownL o).toArray] [] [] (rets (.bool (ownB n l s o))) := by
  refine cm_of (tab := tb) (ok := tbOk) [.g [.v (.int .i64 n), .v (.int .i64 l), .v (.int .i64 s)], .g [.v (.int .i64 o.node), .v (.int .i64 o.hop)]] Tryz.func172 Tryz.ntmps172 rfl rfl (fun _ _ => rfl) ?_
  intro w0 A0
  refine ojs_call [2] [] rfl rfl rfl rfl rfl rfl rfl (by simp) (fun ρ => ownerThere_one n l s o.node (ρ 2)) (by simp) (.inr (by rintro e cs F1 ⟨_, rfl⟩; rfl)) ?_
  rintro e cs F1 _ ⟨rfl, rfl⟩
  unfold ownB
  cases h : shapeB n l s && nodeB n o.node
  · exact endR_ok [] rfl rfl ⟨rfl, rfl⟩ rfl (fun _ => ⟨rfl, rfl⟩) (by simp)
  refine ojs_call [] [] rfl rfl rfl rfl rfl rfl rfl (by simp) (fun _ => ownerHop_c o.hop) (by simp) (.inl rfl) ?_
  rintro e cs F1 _ ⟨rfl, rfl⟩
  exact endR_ok [] rfl rfl ⟨rfl, rfl⟩ rfl (fun _ => ⟨rfl, rfl⟩) (by simp)
theorem ownerCheck_c (n l s : Int) (o : Own) : Cm Tryz.prog 104 [.agg #[.int .i64 n, .int .i64 l, .int .i64 s], .agg (ownL o).toArray] [] [] (rets (.int .i64 (ownE n l s o))) := by
  refine cm_of (tab := tb) (ok := tbOk) [.g [.v (.int .i64 n), .v (.int .i64 l), .v (.int .i64 s)], .g [.v (.int .i64 o.node), .v (.int .i64 o.hop)]] Tryz.func104 Tryz.ntmps104 rfl rfl (fun _ _ => rfl) ?_
  intro w0 A0
  refine ojs_call [] [] rfl rfl rfl rfl rfl rfl rfl (by simp) (fun _ => ownerRight_c n l s o) (by simp) (.inl rfl) ?_
  rintro e cs F1 _ ⟨rfl, rfl⟩
  unfold ownE
  cases h : ownB n l s o
  · exact endR_ok [] rfl rfl ⟨rfl, rfl⟩ rfl (fun _ => ⟨rfl, rfl⟩) (by simp)
  · exact endR_ok [] rfl rfl ⟨rfl, rfl⟩ rfl (fun _ => ⟨rfl, rfl⟩) (by simp)
theorem refNode_c (n l s k : Int) : Cm Tryz.prog 113 [.agg #[.int .i64 n, .int .i64 l, .int .i64 s], .int .i64 k] [] [] (rets (.bool (nodeB n k))) := by
  refine cm_of (tab := tb) (ok := tbOk) [.g [.v (.int .i64 n), .v (.int .i64 l), .v (.int .i64 s)], .o (.v (.int .i64 k))] Tryz.func113 Tryz.ntmps113 rfl rfl (fun _ _ => rfl) ?_
  intro w0 A0
  repeat' (first | refine brB_dec (fun _ => ?_) (fun _ => ?_) | refine brB_split (fun _ => ?_) (fun _ => ?_) | (refine endR_ok [] rfl rfl ⟨rfl, rfl⟩ rfl (fun _ => ⟨ret_bool ?_, rfl⟩) (by simp); (rw [Bool.eq_iff_iff]; simp [nodeB] at * <;> (try dsimp only at *) <;> first | omega | (simp_all; done) | (simp_all; omega))) | fail)
theorem refHop_c (n : Int) : Cm Tryz.prog 114 [.int .i64 n] [] [] (rets (.bool (hopB n))) := by
  refine cm_of (tab := tb) (ok := tbOk) [.o (.v (.int .i64 n))] Tryz.func114 Tryz.ntmps114 rfl rfl (fun _ _ => rfl) ?_
  intro w0 A0
  repeat' (first | refine brB_dec (fun _ => ?_) (fun _ => ?_) | refine brB_split (fun _ => ?_) (fun _ => ?_) | (refine endR_ok [] rfl rfl ⟨rfl, rfl⟩ rfl (fun _ => ⟨ret_bool ?_, rfl⟩) (by simp); (rw [Bool.eq_iff_iff]; simp [hopB] at * <;> (try dsimp only at *) <;> first | omega | (simp_all; done) | (simp_all; omega))) | fail)
theorem refOwn_c (n l s : Int) (o : Own) : Cm Tryz.prog 59 [.agg #[.int .i64 n, .int .i64 l, .int .i64 s], .agg (ownL o).toArray] [] [] (rets (.bool (ownB n l s o))) := by
  refine cm_of (tab := tb) (ok := tbOk) [.g [.v (.int .i64 n), .v (.int .i64 l), .v (.int .i64 s)], .g [.v (.int .i64 o.node), .v (.int .i64 o.hop)]] Tryz.func59 Tryz.ntmps59 rfl rfl (fun _ _ => rfl) ?_
  intro w0 A0
  refine ojs_call [] [] rfl rfl rfl rfl rfl rfl rfl (by simp) (fun _ => refShape_c n l s) (by simp) (.inl rfl) ?_
  rintro e cs F1 _ ⟨rfl, rfl⟩
  unfold ownB
  cases h : shapeB n l s
  · exact endR_ok [] rfl rfl ⟨rfl, rfl⟩ rfl (fun _ => ⟨rfl, rfl⟩) (by simp)
  refine ojs_call [] [] rfl rfl rfl rfl rfl rfl rfl (by simp) (fun _ => refNode_c n l s o.node) (by simp) (.inl rfl) ?_
  rintro e cs F1 _ ⟨rfl, rfl⟩
  cases h : nodeB n o.node
  · exact endR_ok [] rfl rfl ⟨rfl, rfl⟩ rfl (fun _ => ⟨rfl, rfl⟩) (by simp)
  refine ojs_call [] [] rfl rfl rfl rfl rfl rfl rfl (by simp) (fun _ => refHop_c o.hop) (by simp) (.inl rfl) ?_
  rintro e cs F1 _ ⟨rfl, rfl⟩
  exact endR_ok [] rfl rfl ⟨rfl, rfl⟩ rfl (fun _ => ⟨rfl, rfl⟩) (by simp)
end Go.Proofs.YtmhnlkakbadkgaaGreat
namespace Go.Proofs.YtmhnlkakbadkgaaGreat
open Go.RowKit Go.Shelf
set_option maxRecDepth 100000
theorem all_noE {α : Type} {p : α → Bool} {xs : List α} {k : Nat} {x : α} (hx : xs[k]? = some x) (hp : p x = false) : xs.all p = false := by
  rw [Bool.eq_false_iff]
  intro h
  rw [List.all_eq_true.1 h x (List.mem_of_getElem? hx)] at hp
  cases hp
theorem all_yesE {α : Type} {p : α → Bool} {xs : List α} {k : Nat} (hk : xs.length ≤ k) (h : ∀ (j : Nat) x, j < k → xs[j]? = some x → p x = true) : xs.all p = true := by
  rw [List.all_eq_true]
  intro x hx
  obtain ⟨j, hj⟩ := List.mem_iff_getElem?.1 hx
  exact h j x (by have := (List.getElem?_eq_some_iff.1 hj).1; omega) hj
theorem staL_len : ∀ x, (staL x).length = 4 := fun _ => rfl
def knownB (n l s : Int) (xs : List Sta) : Bool := shapeB n l s && decide ((xs.length : Int) = n * s) && xs.all staB
theorem sitesX_int {n l s : Int} (h : shapeB n l s = true) : ((sitesX n l s).length : Int) = n * s := by
  have hs := shapeB_is h
  unfold sitesX
  rw [if_pos h, List.length_range, Int.natCast_mul, Int.toNat_of_nonneg (by omega), Int.toNat_of_nonneg (by omega)]
theorem ixSta_idx {F0 : List Fact} {g : Nat} {lb : List Value} (hg : alook tb.fn g = some ()) (p : Sta → Bool) {a : Option Addr} {cap : Nat} {xs : List Sta} (hlen : xs.length ≤ 1099511627776) (hc : ∀ x ∈ xs, Cm Tryz.prog g (.agg (staL x).toArray :: lb) [] F0 (rets (.bool (p x)))) :
    Cm Tryz.prog 272 [.slice a xs.length cap, .func (.func g) #[] lb.toArray] [] (slF staL 4 (.slice a xs.length cap) xs :: F0) (rets (.int .i64 (idxI p xs))) := by
  refine cm_of (tab := tb) (ok := tbOk) [.o (.v (.slice a xs.length cap)), .o (.v (.func (.func g) #[] lb.toArray))] Tryz.func272 Tryz.ntmps272 rfl rfl (fun _ _ => rfl) ?_
  intro w0 A0
  refine cjs_loopP (γ := Nat) (fun k => k ≤ xs.length ∧ ∀ (j : Nat) x, j < k → xs[j]? = some x → p x = false) (fun k => [(8, .o (.v (.int .i64 k)))]) (fun _ => []) (fun _ => []) (fun k => xs.length - k) 0 ⟨Nat.zero_le _, fun j x hj => by omega⟩ (wk_patch (by repeat' (first | exact trivial | exact Or.inl rfl | refine Or.inr ⟨?_, ?_⟩ | rfl | refine ⟨?_, ?_⟩ | exact lt_all_v)) (by repeat' (first | exact trivial | exact Or.inl rfl | refine Or.inr ⟨?_, ?_⟩ | rfl | refine ⟨?_, ?_⟩ | exact lt_all_v)) (fun f hf => hf) (by simp) D_nil) ?_
  rintro k ⟨hk, hno⟩
  refine brB_dec (fun h1 => ?_) (fun h1 => ?_)
  · obtain ⟨x, hx⟩ := at_some (xs := xs) (k := k) (by omega)
    skip
    refine ojs_fact (slF staL 4 (.slice a xs.length cap) xs) (by simp) (slF_neE hx) ?_
    rintro ⟨b, off, rfl⟩
    refine ojs_index rfl (by omega) rfl rfl rfl rfl ?_
    refine ojs_loadN (vs := staL x) (slF staL 4 (.slice (some ⟨b, off, none⟩) xs.length cap) xs) (by simp) (slF_atN hx) rfl rfl rfl ?_
    have hc2 : ∀ ρ : Nm, Cm Tryz.prog g (argV ρ [] [TV.g [.v (.int .i64 x.over), .v (.bool x.pend), .v (.int .i64 x.mode), .v (.int .i64 x.prio)]] (lb.map PV.v)) [] F0 (rets (.bool (p x))) := fun ρ => by
      have e : argV ρ [] [TV.g [.v (.int .i64 x.over), .v (.bool x.pend), .v (.int .i64 x.mode), .v (.int .i64 x.prio)]] (lb.map PV.v) = .agg (staL x).toArray :: lb := (argV_lb ρ [TV.g [.v (.int .i64 x.over), .v (.bool x.pend), .v (.int .i64 x.mode), .v (.int .i64 x.prio)]] lb).trans rfl
      rw [e]; exact hc x (List.mem_of_getElem? hx)
    refine ojs_call [] [] rfl rfl rfl rfl hg rfl rfl (by simp) (fun ρ => hc2 ρ) (fun f hf => List.mem_cons_of_mem _ hf) (.inl rfl) ?_
    rintro e cs F1 _ ⟨rfl, rfl⟩
    cases hb : p x
    · refine ojs_arith (z := ((k + 1 : Nat) : Int)) (by first | decide | (rw [wrap_in] <;> omega) | (dsimp only; rw [wrap_in] <;> omega)) rfl rfl rfl rfl ?_
      refine ⟨k + 1, ⟨by omega, fun j y hj hy => ?_⟩, (by first | omega | (dsimp only; omega)), wk_patch (by repeat' (first | exact trivial | exact Or.inl rfl | refine Or.inr ⟨?_, ?_⟩ | rfl | refine ⟨?_, ?_⟩ | exact lt_all_v)) (by repeat' (first | exact trivial | exact Or.inl rfl | refine Or.inr ⟨?_, ?_⟩ | rfl | refine ⟨?_, ?_⟩ | exact lt_all_v)) (fun f hf => hf) (by simp) D_nil⟩
      rcases Nat.lt_succ_iff_lt_or_eq.1 hj with h | rfl
      · exact hno j y h hy
      · rw [hx] at hy; cases hy; exact hb
    · exact endR_ok [] rfl rfl ⟨rfl, rfl⟩ rfl (fun _ => ⟨by rw [idxI_atE hno hx hb]; rfl, rfl⟩) (by simp)
  · obtain rfl : k = xs.length := by omega
    exact endR_ok [] rfl rfl ⟨rfl, rfl⟩ rfl (fun _ => ⟨by rw [idxI_noneE (fun j x hj => hno j x (List.getElem?_eq_some_iff.1 hj).1 hj)]; rfl, rfl⟩) (by simp)
theorem ixSta_con {F0 : List Fact} {g : Nat} {lb : List Value} (hg : alook tb.fn g = some ()) (p : Sta → Bool) {a : Option Addr} {cap : Nat} {xs : List Sta} (hlen : xs.length ≤ 1099511627776) (hc : ∀ x ∈ xs, Cm Tryz.prog g (.agg (staL x).toArray :: lb) [] F0 (rets (.bool (p x)))) :
    Cm Tryz.prog 224 [.slice a xs.length cap, .func (.func g) #[] lb.toArray] [] (slF staL 4 (.slice a xs.length cap) xs :: F0) (rets (.bool (xs.any p))) := by
  refine cm_of (tab := tb) (ok := tbOk) [.o (.v (.slice a xs.length cap)), .o (.v (.func (.func g) #[] lb.toArray))] Tryz.func224 Tryz.ntmps224 rfl rfl (fun _ _ => rfl) ?_
  intro w0 A0
  refine ojs_call [] [] rfl rfl rfl rfl rfl rfl rfl (by simp) (fun _ => ixSta_idx hg p hlen hc) (fun f hf => hf) (.inl rfl) ?_
  rintro e cs F1 _ ⟨rfl, rfl⟩
  exact endR_ok [] rfl rfl ⟨rfl, rfl⟩ rfl (fun _ => ⟨ret_bool idxI_any, rfl⟩) (by simp)
theorem statRight1_c (x : Sta) : Cm Tryz.prog 225 [.agg (staL x).toArray] [] [] (rets (.bool (!staB x))) := by
  refine cm_of (tab := tb) (ok := tbOk) [.g [.v (.int .i64 x.over), .v (.bool x.pend), .v (.int .i64 x.mode), .v (.int .i64 x.prio)]] Tryz.func225 Tryz.ntmps225 rfl rfl (fun _ _ => rfl) ?_
  intro w0 A0
  refine ojs_call [] [] rfl rfl rfl rfl rfl rfl rfl (by simp) (fun _ => staCheck_c x) (by simp) (.inl rfl) ?_
  rintro e cs F1 _ ⟨rfl, rfl⟩
  unfold staE
  cases h : staB x
  · exact endR_ok [] rfl rfl ⟨rfl, rfl⟩ rfl (fun _ => ⟨rfl, rfl⟩) (by simp)
  · exact endR_ok [] rfl rfl ⟨rfl, rfl⟩ rfl (fun _ => ⟨rfl, rfl⟩) (by simp)
theorem statRight_c (n l s : Int) (a : Option Addr) (cap : Nat) (xs : List Sta) (hx : xs.length ≤ 1000000) : Cm Tryz.prog 167 [.agg #[.int .i64 n, .int .i64 l, .int .i64 s], .slice a xs.length cap] [] [slF staL 4 (.slice a xs.length cap) xs] (rets (.bool (knownB n l s xs))) := by
  refine cm_of (tab := tb) (ok := tbOk) [.g [.v (.int .i64 n), .v (.int .i64 l), .v (.int .i64 s)], .o (.v (.slice a xs.length cap))] Tryz.func167 Tryz.ntmps167 rfl rfl (fun _ _ => rfl) ?_
  intro w0 A0
  refine ojs_call [] [] rfl rfl rfl rfl rfl rfl rfl (by simp) (fun _ => sites_c n l s) (by simp) (.inl rfl) ?_
  rintro e cs F1 _ ⟨rfl, rfl⟩
  unfold knownB shapeE
  cases hs : shapeB n l s
  · exact endR_ok [] rfl rfl ⟨rfl, rfl⟩ rfl (fun _ => ⟨rfl, rfl⟩) (by simp)
  rw [← sitesX_int hs]
  refine brB_split (fun h1 => ?_) (fun h1 => ?_)
  rotate_left
  · have e : decide ((xs.length : Int) = ((sitesX n l s).length : Int)) = false := by simp at h1; simpa using h1
    rw [e]
    exact endR_ok [] rfl rfl ⟨rfl, rfl⟩ rfl (fun _ => ⟨rfl, rfl⟩) (by simp)
  have e : decide ((xs.length : Int) = ((sitesX n l s).length : Int)) = true := by simp at h1; simpa using h1
  rw [e]
  refine ojs_call [] [] rfl rfl rfl rfl rfl rfl rfl (by simp) (fun _ => ixSta_con (F0 := []) (lb := []) (a := a) (cap := cap) (xs := xs) rfl (fun x => !staB x) (by omega) (fun x _ => statRight1_c x)) (by simp) (.inl rfl) ?_
  rintro e cs F1 _ ⟨rfl, rfl⟩
  have e2 : (!xs.any fun x => !staB x) = xs.all staB := by rw [List.all_eq_not_any_not]
  rw [← e2]
  cases xs.any fun x => !staB x
  · exact endR_ok [] rfl rfl ⟨rfl, rfl⟩ rfl (fun _ => ⟨rfl, rfl⟩) (by simp)
  · exact endR_ok [] rfl rfl ⟨rfl, rfl⟩ rfl (fun _ => ⟨rfl, rfl⟩) (by simp)
theorem refKnown_c (n l s : Int) (a : Option Addr) (cap : Nat) (xs : List Sta) (hx : xs.length ≤ 1000000) : Cm Tryz.prog 60 [.agg #[.int .i64 n, .int .i64 l, .int .i64 s], .slice a xs.length cap] [] [slF staL 4 (.slice a xs.length cap) xs] (rets (.bool (knownB n l s xs))) := by
  refine cm_of (tab := tb) (ok := tbOk) [.g [.v (.int .i64 n), .v (.int .i64 l), .v (.int .i64 s)], .o (.v (.slice a xs.length cap))] Tryz.func60 Tryz.ntmps60 rfl rfl (fun _ _ => rfl) ?_
  intro w0 A0
  refine ojs_call [] [] rfl rfl rfl rfl rfl rfl rfl (by simp) (fun _ => refShape_c n l s) (by simp) (.inl rfl) ?_
  rintro e cs F1 _ ⟨rfl, rfl⟩
  unfold knownB
  cases hs : shapeB n l s
  · exact endR_ok [] rfl rfl ⟨rfl, rfl⟩ rfl (fun _ => ⟨rfl, rfl⟩) (by simp)
  have h := shapeB_is hs
  have h0 : 0 ≤ n * s := Int.mul_nonneg (by omega) (by omega)
  have h1 : n * s ≤ 64 * 4 := Int.mul_le_mul (by omega) (by omega) (by omega) (by omega)
  refine ojs_arith (wrap_in (r := n * s) (by omega) (by omega)) rfl rfl rfl rfl ?_
  refine brB_split (fun h1 => ?_) (fun h1 => ?_)
  · have e : decide ((xs.length : Int) = n * s) = false := by simp at h1; simpa using h1
    rw [e]
    exact endR_ok [] rfl rfl ⟨rfl, rfl⟩ rfl (fun _ => ⟨rfl, rfl⟩) (by simp)
  have e : decide ((xs.length : Int) = n * s) = true := by simp at h1; simpa using h1
  rw [e]
  refine cjs_loopP (γ := Nat) (fun k => k ≤ xs.length ∧ ∀ (j : Nat) x, j < k → xs[j]? = some x → staB x = true) (fun k => [(5, .o (.v (.int .i64 k)))]) (fun _ => []) (fun _ => []) (fun k => xs.length - k) 0 ⟨Nat.zero_le _, fun j x hj => by omega⟩ (wk_patch (by repeat' (first | exact trivial | exact Or.inl rfl | refine Or.inr ⟨?_, ?_⟩ | rfl | refine ⟨?_, ?_⟩ | exact lt_all_v)) (by repeat' (first | exact trivial | exact Or.inl rfl | refine Or.inr ⟨?_, ?_⟩ | rfl | refine ⟨?_, ?_⟩ | exact lt_all_v)) (fun f hf => hf) (by simp) D_nil) ?_
  rintro k ⟨hk, hyes⟩
  refine brB_dec (fun h1 => ?_) (fun h1 => ?_)
  · obtain ⟨x, hx⟩ := at_some (xs := xs) (k := k) (by omega)
    refine ojs_fact (slF staL 4 (.slice a xs.length cap) xs) (by simp) (slF_neE hx) ?_
    rintro ⟨b, off, rfl⟩
    refine ojs_index rfl (by omega) rfl rfl rfl rfl ?_
    refine ojs_loadN (vs := staL x) (slF staL 4 (.slice (some ⟨b, off, none⟩) xs.length cap) xs) (by simp) (slF_atN hx) rfl rfl rfl ?_
    refine ojs_call [] [] rfl rfl rfl rfl rfl rfl rfl (by simp) (fun _ => refSta_c x) (by simp) (.inl rfl) ?_
    rintro e cs F1 _ ⟨rfl, rfl⟩
    cases hpx : staB x
    · have hall : xs.all staB = false := all_noE hx hpx
      (rw [hall]; exact endR_ok [] rfl rfl ⟨rfl, rfl⟩ rfl (fun _ => ⟨rfl, rfl⟩) (by simp))
    · refine ojs_arith (z := ((k + 1 : Nat) : Int)) (by first | decide | (rw [wrap_in] <;> omega) | (dsimp only; rw [wrap_in] <;> omega)) rfl rfl rfl rfl ?_
      refine ⟨k + 1, ⟨by omega, fun j y hj hy => ?_⟩, (by first | omega | (dsimp only; omega)), wk_patch (by repeat' (first | exact trivial | exact Or.inl rfl | refine Or.inr ⟨?_, ?_⟩ | rfl | refine ⟨?_, ?_⟩ | exact lt_all_v)) (by repeat' (first | exact trivial | exact Or.inl rfl | refine Or.inr ⟨?_, ?_⟩ | rfl | refine ⟨?_, ?_⟩ | exact lt_all_v)) (fun f hf => hf) (by simp) D_nil⟩
      rcases Nat.lt_succ_iff_lt_or_eq.1 hj with h | rfl
      · exact hyes j y h hy
      · rw [hx] at hy; cases hy; exact hpx
  · have hall : xs.all staB = true := all_yesE (by omega) hyes
    (rw [hall]; exact endR_ok [] rfl rfl ⟨rfl, rfl⟩ rfl (fun _ => ⟨rfl, rfl⟩) (by simp))
end Go.Proofs.YtmhnlkakbadkgaaGreat
namespace Go.Proofs.YtmhnlkakbadkgaaGreat
open Go.RowKit Go.Shelf
section
variable {X : Fx} {o : Oper} {T : TE} {L : LE} {n : Nat} {F : List Fact} {D : DF} {K : KK} {k : KS}
theorem yd_sliceArr {t : TypeId} {x : Operand} {j off m e sz : Nat} (ho : o.op = .slice t x none none none) (ha : alook X.tab.ar t = some (m, e, sz)) (hx : evS T x = some (.o (.p j off))) : Yd X o T L F (.o (.s j off m m)) := by
  refine ⟨by simp [noDef, ho], fun A ρ a w h0 => ?_⟩
  obtain ⟨h1, i, h2, h3⟩ := tyA_spec (X.ok.ar _ _ ha)
  simp only at h1 h2 h3
  have e1 := h0.ev hx
  simp only [TV.den, SV.den] at e1
  have hal : X.P.arrayLen t = m := by unfold Program.arrayLen; rw [h1]
  have hel : X.P.elem t = e := by unfold Program.elem; rw [h1]
  have h4 : X.P.underlying t = some (.array (X.P.arrayLen t) (X.P.elem t)) := by rw [hal, hel]; exact h1
  have hs : (sizeOf (X.P.elem t)).run X.P w = .ok i.size w := by rw [hel]; simp [sizeOf, typeInfo, h2]
  simp only [execOp, ho, Option.map_none, e1, Sem.run_bind, run_sliceAt_array_all (ht := h4), hs, Result.andThen_ok, Sem.run_pure, TV.den, SV.den, hal, slicedAt]
  by_cases hm : m = 0
  · simp [hm]
  · simp [hm, addr_add]
theorem ojs_loadF1 {t ct : TypeId} {x : Operand} {b o' : Nat} {v : Value} {cs : List Value} (hf : blkF b cs ct ∈ F) (ho : o.op = .load t x) (hk : alook X.tab.kd t = some none) (hx : evS T x = some (.o (.v (.pointer (some ⟨b, o', none⟩))))) (hv : cs[o']? = some v) (h : optK X o T L n F D k (.o (.v v))) : OJs X o T L n F D k K :=
  ojs_load1 (blkF b cs ct) hf (fun A w h => blk_cell hv A w h) ho hk hx h
theorem ojs_loadFN {t ct : TypeId} {x : Operand} {b o' : Nat} {vs cs : List Value} (hf : blkF b cs ct ∈ F) (ho : o.op = .load t x) (hk : alook X.tab.kd t = some (some vs.length)) (hx : evS T x = some (.o (.v (.pointer (some ⟨b, o', none⟩))))) (hv : (cs.drop o').take vs.length = vs) (h : optK X o T L n F D k (.g (vs.map SV.v))) : OJs X o T L n F D k K :=
  ojs_loadN (blkF b cs ct) hf (fun A w h j u hu => by
    have hj := (List.getElem?_eq_some_iff.1 hu).1
    refine blk_cell ?_ A w h
    rw [← hv, List.getElem?_take_of_lt hj, List.getElem?_drop] at hu
    exact hu) ho hk hx h
end
end Go.Proofs.YtmhnlkakbadkgaaGreat
