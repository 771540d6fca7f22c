/- Part 39 of the proof of LockBacks: contracts of functions that the law reaches, or the rules by which they are walked. No condition. -/
import Derived.Test.YtmhnlkakbadkgaaGreatPkbl
namespace Go.Proofs.YtmhnlkakbadkgaaGreat
open Go.RowKit Go.Shelf
set_option maxRecDepth 100000
def stE (q : Slt × Nat) : List Value := [.int .i64 q.2, .agg (staL (sltStat q.1)).toArray]
theorem zip_at {α : Type} {xs : List α} {k : Nat} {x : α} (h : xs[k]? = some x) : xs.zipIdx[k]? = some (x, k) := by rw [List.getElem?_zipIdx, h]; simp
theorem zip_is {α : Type} {xs : List α} {k : Nat} {q : α × Nat} (h : xs.zipIdx[k]? = some q) : xs[k]? = some q.1 ∧ q.2 = k := by
  rw [List.getElem?_zipIdx] at h
  obtain ⟨x, h1, rfl⟩ := Option.map_eq_some_iff.1 h
  exact ⟨h1, by simp⟩
theorem stats_seq (a : Option Addr) (cap : Nat) (xs : List Slt) (b : Nat) (hl : xs.length ≤ 1000000) (hu : ∀ x ∈ xs, sltI x) : SeqC Tryz.prog 174 [.pointer (some ⟨b, 0, none⟩)] [blkF b [.slice a xs.length cap] 37, slF sltL 8 (.slice a xs.length cap) xs] stE xs.zipIdx := by
  refine seq_of (tab := tb) (ok := tbOk) [.o (.v (.pointer (some ⟨b, 0, none⟩)))] Tryz.func174 Tryz.ntmps174 rfl rfl (fun _ => rfl) ?_
  intro S
  refine cjs_scope rfl ?_
  refine ojs_load1 (S.inF (blkF b [.slice a xs.length cap] 37)) (by simp) (fun A w h => blk_cell (o := 0) rfl _ w h.2) rfl rfl rfl ?_
  refine cjs_loopX (γ := Nat) (fun k => k ≤ xs.length) (fun k => [(7, .o (.v (.int .i64 k)))]) (fun _ => []) (fun k => [S.jF k, S.inF (slF sltL 8 (.slice a xs.length cap) xs)]) (fun k => xs.length - k) 0 (Nat.zero_le _) (wk_patch (by repeat' (first | exact trivial | exact Or.inl rfl | refine Or.inr ⟨?_, ?_⟩ | rfl | refine ⟨?_, ?_⟩ | exact lt_all_v)) (by repeat' (first | exact trivial | exact Or.inl rfl | refine Or.inr ⟨?_, ?_⟩ | rfl | refine ⟨?_, ?_⟩ | exact lt_all_v)) (by simp) (by simp [It.X]) D_nil) ?_
  intro k hk
  refine brB_dec (fun h1 => ?_) (fun h1 => ?_)
  · obtain ⟨x, hx⟩ := at_some (xs := xs) (k := k) (by omega)
    refine ojs_fact (S.inF (slF sltL 8 (.slice a xs.length cap) xs)) (by simp) (fun A w h => slF_neE hx _ w h.2) ?_
    rintro ⟨b1, off, rfl⟩
    refine ojs_index rfl (by omega) rfl rfl rfl rfl ?_
    refine ojs_loadN (vs := sltL x) (S.inF (slF sltL 8 (.slice (some ⟨b1, off, none⟩) xs.length cap) xs)) (by simp) (fun A w h => slF_atN hx _ w h.2) rfl rfl rfl ?_
    refine ojs_call [] [] rfl rfl rfl rfl rfl rfl rfl (by simp) (fun _ => sltStat_c x (hu x (List.mem_of_getElem? hx))) (by simp) (.inl rfl) ?_
    rintro e cs F1 _ ⟨rfl, rfl⟩
    refine ojs_yield k [slF sltL 8 (.slice (some ⟨b1, off, none⟩) xs.length cap) xs] rfl rfl rfl rfl (zip_at hx) (fun _ => rfl) (by simp) (by simp) ?_ ?_
    · refine ojs_arith (z := ((k + 1 : Nat) : Int)) (by first | decide | (rw [wrap_in] <;> omega) | (dsimp only; rw [wrap_in] <;> omega)) rfl rfl rfl rfl ?_
      exact ⟨k + 1, by omega, (by first | omega | (dsimp only; omega)), wk_patch (by repeat' (first | exact trivial | exact Or.inl rfl | refine Or.inr ⟨?_, ?_⟩ | rfl | refine ⟨?_, ?_⟩ | exact lt_all_v)) (by repeat' (first | exact trivial | exact Or.inl rfl | refine Or.inr ⟨?_, ?_⟩ | rfl | refine ⟨?_, ?_⟩ | exact lt_all_v)) (by simp) (by simp [It.X]) D_nil⟩
    · exact endS_stop (k + 1) (by simp) (by omega) (by simp; omega) rfl rfl
  · obtain rfl : k = xs.length := by omega
    exact endS_done (by simp) rfl rfl
theorem stats_c (a : Option Addr) (cap : Nat) (xs : List Slt) (hl : xs.length ≤ 1000000) : Cm Tryz.prog 107 [.slice a xs.length cap] [] [slF sltL 8 (.slice a xs.length cap) xs] (fun e _ F1 => ∃ b a' c', e = .returned (.func (.func 174) #[] #[.pointer (some ⟨b, 0, none⟩)]) ∧ F1 = [blkF b [.slice a' xs.length c'] 37, slF sltL 8 (.slice a' xs.length c') xs]) := by
  refine cm_of (tab := tb) (ok := tbOk) [.o (.v (.slice a xs.length cap))] Tryz.func107 Tryz.ntmps107 rfl rfl (fun _ _ => rfl) ?_
  intro w0 A0
  refine ojs_callOwn rfl rfl rfl rfl rfl (fun _ => rfl) rfl rfl (cloneSlt_co a cap xs (by omega)) (by simp) ?_
  intro a1 c1
  refine endR_weak (wk_seal (j := 0) (v := .slice a1 xs.length c1) (m := xs.length) (enc := sltL) (xs := xs) (.inl rfl) sltL_len rfl rfl) ?_
  exact endR_seal [1] [slF sltL 8 (.slice a1 xs.length c1) xs] rfl rfl rfl rfl ⟨rfl, rfl⟩ rfl (fun ρ => ⟨ρ 1, a1, c1, rfl, rfl⟩) (by simp)
def viewsB (o : Nat) (kn : List Sta) (sl : List Slt) : Bool := sl.zipIdx.all fun q => decide (kn[o + q.2]? = some (sltStat q.1))
theorem viewsB_no {o k : Nat} {kn : List Sta} {sl : List Slt} {x : Slt} {y : Sta} (hx : sl[k]? = some x) (hy : kn[o + k]? = some y) (h : y ≠ sltStat x) : viewsB o kn sl = false :=
  all_noE (zip_at hx) (by simp [hy, h])
theorem viewsB_yes {o : Nat} {kn : List Sta} {sl : List Slt} (h : ∀ k x, sl[k]? = some x → kn[o + k]? = some (sltStat x)) : viewsB o kn sl = true := by
  refine all_yesE (Nat.le_refl _) fun j q _ hq => ?_
  obtain ⟨h1, h2⟩ := zip_is hq
  rw [h2]
  simp [h j q.1 h1]
set_option maxHeartbeats 2000000 in
theorem views_c (x : Lck) (p : LckS) (pl : Plc) (b o : Nat) (ho : (o : Int) = pl.me * pl.s) (hx : x.small) (hu : ∀ y ∈ x.slots, sltI y) (hk : o + x.slots.length ≤ x.known.length) : Cm Tryz.prog 50 [.pointer (some ⟨b, 0, none⟩)] [] (blkF b (undK x p pl) 94 :: lckF x p) (rets (.bool (viewsB o x.known x.slots))) := by
  unfold lckF
  have hl := hx.2.2.1
  have hl2 := hx.2.1
  refine cm_ofD (tab := tb) (ok := tbOk) [.o (.v (.pointer (some ⟨b, 0, none⟩)))] Tryz.func50 Tryz.ntmps50 rfl rfl (fun _ _ => rfl) ?_
  intro w0 A0
  refine ojs_loadF1 (cs := undK x p pl) (b := b) (ct := 94) (by simp) rfl rfl rfl rfl ?_
  refine ojs_call [] [] rfl rfl rfl rfl rfl rfl rfl (by simp) (fun _ => stats_c p.a5 p.c5 x.slots hl) (by simp) (.inl rfl) ?_
  rintro e cs F1 _ ⟨b2, a2, c2, rfl, rfl⟩
  refine cjs_range (γ := Unit) (fun k _ => ∀ j y, j < k → x.slots[j]? = some y → x.known[o + j]? = some (sltStat y)) (fun _ _ => ([(0, .c [.v (.pointer (some ⟨b, 0, none⟩))] 91), (1, .c [.v (.bool false)] 4)], [blkF b2 [.slice a2 x.slots.length c2] 37, slF sltL 8 (.slice a2 x.slots.length c2) x.slots, blkF b (undK x p pl) 94, slF staL 4 (.slice p.a4 x.known.length p.c4) x.known])) () (stats_seq a2 c2 x.slots b2 hl hu) rfl rfl rfl (fun _ => rfl) rfl (Nat.zero_le _) (fun j y hj => by omega) ?_ (by simp) ?_ ?_
  · exact wk_patch (by repeat' (first | exact trivial | exact Or.inl rfl | refine Or.inr ⟨?_, ?_⟩ | rfl | refine ⟨?_, ?_⟩ | exact lt_all_v)) (by repeat' (first | exact trivial | exact Or.inl rfl | refine Or.inr ⟨?_, ?_⟩ | rfl | refine ⟨?_, ?_⟩ | exact lt_all_v)) (by simp) (by simp) D_nil
  · rintro k q - hq hyes l1 w1 A1 M1 N1 hN1
    obtain ⟨hq1, hq2⟩ := zip_is hq
    obtain ⟨z, kq⟩ := q
    obtain rfl : kq = k := hq2
    have hkl := (List.getElem?_eq_some_iff.1 hq1).1
    obtain ⟨y, hy⟩ := at_some (xs := x.known) (k := o + kq) (by omega)
    intro w2 A2 M2 N2 hN2
    refine ⟨rfl, ?_⟩
    refine cjs_fact (slF staL 4 (.slice p.a4 x.known.length p.c4) x.known) (by simp) (slF_neE hy) ?_
    rintro ⟨b4, off4, ha⟩
    refine cjs_drawn [7] (.op 0 <| .op 1 <| .op 2 <| .op 3 <| .op 4 <| .op 5 <| .op 6 <| .op 10 <| .op 7 <| .op 8 <| .op 9 <| .op 11 .z) [0, 2] [] [] [blkF b (undK x p pl) 94, slF staL 4 (.slice p.a4 x.known.length p.c4) x.known] (by kernel_rfl) (by kernel_rfl) rfl (Nat.le_trans (Nat.le_of_eq hN2) (Nat.le_of_ble_eq_true rfl)) (by simp) ?_
    intro N
    refine ⟨_, yd_loadF1 (v := .slice (some ⟨b4, off4, none⟩) x.known.length p.c4) (cs := undK x p pl) (b := b) (ct := 94) (by simp) rfl rfl rfl (by rw [← ha]; rfl), ?_⟩
    have e0 : 0 ≤ pl.me * pl.s ∧ pl.me * pl.s ≤ 1000000 := by omega
    refine ojs_call [] [] rfl rfl rfl rfl rfl rfl rfl (by simp) (fun _ => lsite_c x p pl b kq e0 (by omega)) (by simp) (.inl rfl) ?_
    rintro e cs F1 _ ⟨rfl, rfl⟩
    refine ⟨⟨(by repeat' (first | exact trivial | refine ⟨Or.inl rfl, ?_⟩ | refine ⟨Or.inr ⟨rfl, Nat.le_of_ble_eq_true rfl, _, rfl, rfl, rfl⟩, ?_⟩)), by simp⟩, ?_⟩
    refine ⟨_, yd_index (i := o + kq) (by rw [Int.natCast_add, ho]) (by omega) rfl rfl rfl rfl, ?_⟩
    refine ⟨_, yd_loadN (vs := staL y) (slF staL 4 (.slice p.a4 x.known.length p.c4) x.known) (by simp) (fun A w h => slF_atN hy A w (by rw [← ha]; exact h)) rfl rfl rfl, ?_⟩
    refine ⟨_, yd_neF (xs := staL y) (ys := staL (sltStat z)) (r := decide (y = sltStat z)) (ks := _) flatSta okSta rfl rfl rfl (fun _ => rfl) (fun _ => rfl) (fitSta _ _), ?_⟩
    cases h : decide (y = sltStat z)
    · rw [viewsB_no hq1 hy (by simpa using h)]
      refine ⟨rfl, ?_⟩
      refine lv_of (lv_mark ret_ne rfl ?_)
      exact lv_ret (endR_ok [] rfl rfl ⟨rfl, rfl⟩ rfl (fun _ => ⟨rfl, rfl⟩) (by simp))
    · refine ⟨(), fun j w hj hw => ?_, wk_patch (by repeat' (first | exact trivial | exact Or.inl rfl | refine Or.inr ⟨?_, ?_⟩ | rfl | refine ⟨?_, ?_⟩ | exact lt_all_v)) (by repeat' (first | exact trivial | exact Or.inl rfl | refine Or.inr ⟨?_, ?_⟩ | rfl | refine ⟨?_, ?_⟩ | exact lt_all_v)) (by simp) (Nat.le_of_eq hN2) D_nil⟩
      rcases Nat.lt_succ_iff_lt_or_eq.1 hj with h2 | rfl
      · exact hyes j w h2 hw
      · rw [hq1] at hw
        cases hw
        rw [hy, of_decide_eq_true h]
  · rintro - hyes
    rw [viewsB_yes fun k x hx => hyes k x (by have := (List.getElem?_eq_some_iff.1 hx).1; simpa using this) hx]
    refine lv_of (lv_mark ret_ne rfl ?_)
    exact lv_ret (endR_ok [] rfl rfl ⟨rfl, rfl⟩ rfl (fun _ => ⟨rfl, rfl⟩) (by simp))
end Go.Proofs.YtmhnlkakbadkgaaGreat
namespace Go.Proofs.YtmhnlkakbadkgaaGreat
open Go.RowKit Go.Shelf
set_option maxRecDepth 100000
theorem own_blk {W : World} {base : Nat} {e : TypeId} {k : Nat} {v : Value} {n : Nat} {xs : List Value} (h : W.ownsRow base e k v n xs) : ∀ g, v.ownBlock = some g → base ≤ g := by
  intro g hg
  rcases h.2 with ⟨rfl, _⟩ | ⟨g', cap, cur, rfl, hb, hh, _⟩
  · simp [Value.ownBlock] at hg
  · simp only [Value.ownBlock, Option.some.injEq] at hg
    subst hg
    exact hb
set_option maxHeartbeats 2000000 in
theorem cm_ownR {α : Type} {P : Program} {g : FuncId} {args : List Value} {F0 : List Fact} {enc : α → List Value} {xs : List α} {k : Nat} {ty : TypeId} (hk : ∀ x, (enc x).length = k)
    (h : ∀ A w, (∀ b, A b → b < w.heap.size) → (∀ f ∈ F0, f.h A w) → Calls P g args.toArray w fun e w' => ∃ r, e = .returned r ∧ w'.ownsRow w.heap.size ty k r xs.length (xs.flatMap enc) ∧ Below w.heap.size w w') :
    Cm P g args [] F0 (fun e _ F1 => ∃ a c, e = .returned (.slice a xs.length c) ∧ F1 = [slF enc k (.slice a xs.length c) xs]) := by
  intro A w _ _ hA hF
  refine (h A w hA hF).mono ?_
  rintro e w' ⟨r, rfl, hown, hb⟩
  have hS := Sl.of_owns hk hown
  have hbk := own_blk hown
  obtain ⟨a, c, rfl, h2, h3⟩ := hS
  refine ⟨[], _, ⟨a, c, rfl, rfl⟩, Kp.of_below hb, rfl, fun i x c hx => by simp at hx, fun b => w.heap.size ≤ b ∧ b < w'.heap.size, fun b h => .inr h.1, fun b h => h.2, fun f hf => ?_⟩
  cases List.mem_singleton.1 hf
  refine ⟨a, c, rfl, h2, h3.imp id ?_⟩
  rintro ⟨b, off, rfl, h5, h6⟩
  exact ⟨b, off, rfl, ⟨hbk b rfl, h5⟩, h6⟩
def ownC {α : Type} (enc : α → List Value) (k : Nat) (xs : List α) : OutT := fun e _ F1 => ∃ a c, e = .returned (.slice a xs.length c) ∧ F1 = [slF enc k (.slice a xs.length c) xs]
theorem cloneJ_cm (a : Option Addr) (cap : Nat) (xs : List Int) (hlen : xs.length ≤ 1000000) : Cm Tryz.prog 52 [.slice a xs.length cap] [] [slF encI 1 (.slice a xs.length cap) xs] (ownC encI 1 xs) := cm_ownR (fun _ => rfl) fun _ w hA hF => cloneJ_any w _ xs (by omega) (slF_sl (hF _ (List.mem_singleton.2 rfl)) hA)
theorem cloneWt_cm (a : Option Addr) (cap : Nat) (xs : List Wt) (hlen : xs.length ≤ 1000000) : Cm Tryz.prog 53 [.slice a xs.length cap] [] [slF wtL 5 (.slice a xs.length cap) xs] (ownC wtL 5 xs) := cm_ownR wtL_len fun _ w hA hF => cloneWt_any w _ xs (by omega) (slF_sl (hF _ (List.mem_singleton.2 rfl)) hA)
theorem cloneHd_cm (a : Option Addr) (cap : Nat) (xs : List Hd) (hlen : xs.length ≤ 1000000) : Cm Tryz.prog 54 [.slice a xs.length cap] [] [slF hdL 3 (.slice a xs.length cap) xs] (ownC hdL 3 xs) := cm_ownR hdL_len fun _ w hA hF => cloneHd_any w _ xs (by omega) (slF_sl (hF _ (List.mem_singleton.2 rfl)) hA)
theorem cloneSta_cm (a : Option Addr) (cap : Nat) (xs : List Sta) (hlen : xs.length ≤ 1000000) : Cm Tryz.prog 55 [.slice a xs.length cap] [] [slF staL 4 (.slice a xs.length cap) xs] (ownC staL 4 xs) := cm_ownR staL_len fun _ w hA hF => cloneSta_any w _ xs (by omega) (slF_sl (hF _ (List.mem_singleton.2 rfl)) hA)
theorem cloneSlt_cm (a : Option Addr) (cap : Nat) (xs : List Slt) (hlen : xs.length ≤ 1000000) : Cm Tryz.prog 56 [.slice a xs.length cap] [] [slF sltL 8 (.slice a xs.length cap) xs] (ownC sltL 8 xs) := cm_ownR sltL_len fun _ w hA hF => cloneSlt_any w _ xs (by omega) (slF_sl (hF _ (List.mem_singleton.2 rfl)) hA)
theorem cloneTry_cm (a : Option Addr) (cap : Nat) (xs : List Try) (hlen : xs.length ≤ 1000000) : Cm Tryz.prog 57 [.slice a xs.length cap] [] [slF tryL 3 (.slice a xs.length cap) xs] (ownC tryL 3 xs) := cm_ownR tryL_len fun _ w hA hF => cloneTry_any w _ xs (by omega) (slF_sl (hF _ (List.mem_singleton.2 rfl)) hA)
def lockB (pl : Plc) (x : Lck) : Bool := placeB pl && knowsB pl x && triesB pl.s x.tries && viewsB (pl.me * pl.s).toNat x.known x.slots && carB pl.n pl.l pl.s x
theorem knows_facts {pl : Plc} {x : Lck} (hp : placeB pl = true) (hk : knowsB pl x = true) : (((pl.me * pl.s).toNat : Nat) : Int) = pl.me * pl.s ∧ (∀ y ∈ x.slots, sltI y) ∧ (pl.me * pl.s).toNat + x.slots.length ≤ x.known.length ∧ 0 ≤ pl.me * pl.s ∧ pl.me * pl.s ≤ 1000 ∧ (x.slots.length : Int) = pl.s ∧ x.slots.length ≤ 4 := by
  simp only [placeB, Bool.and_eq_true] at hp
  obtain ⟨⟨⟨⟨⟨h1, ⟨h2, _⟩⟩, _⟩, _⟩, _⟩, _⟩ := hp
  have hs := shapeB_is h1
  have hn : 0 ≤ pl.me ∧ pl.me < pl.n := by simpa [nodeB] using h2
  simp only [knowsB, knownB, slotsB, Bool.and_eq_true, decide_eq_true_eq] at hk
  obtain ⟨⟨⟨⟨_, k1⟩, _⟩, ⟨⟨_, k2⟩, k3⟩⟩, _⟩ := hk
  have e0 : 0 ≤ pl.me * pl.s := Int.mul_nonneg hn.1 (by omega)
  have e1 : pl.me * pl.s ≤ (pl.n - 1) * pl.s := Int.mul_le_mul_of_nonneg_right (by omega) (by omega)
  have e2 : (pl.n - 1) * pl.s = pl.n * pl.s - pl.s := by rw [Int.sub_mul, Int.one_mul]
  have e3 : pl.n * pl.s ≤ 64 * 4 := Int.mul_le_mul (by omega) (by omega) (by omega) (by omega)
  refine ⟨Int.toNat_of_nonneg e0, fun y hy => ?_, by omega, e0, by omega, k2, by omega⟩
  have hb := sltB_iff.1 (List.all_eq_true.1 k3 y hy)
  unfold sltI
  omega
def lockOfX (pl : Plc) (x : Lck) : OutX := fun r Ls F1 => (lockB pl x = true ∧ ∃ p' : LckS, r = .inl (.o (.p 0 0)) ∧ Ls = [.c ((undK x p' pl).map SV.v) 94] ∧ F1 = lckF x p') ∨ (lockB pl x = false ∧ r = .inr tokP ∧ Ls = [] ∧ F1 = [])
set_option maxHeartbeats 4000000 in
theorem lockOf_x (pl : Plc) (x : Lck) (p : LckS) (hx : x.small) : Cx Tryz.prog 20 [.g [.v (.int .i64 pl.n), .v (.int .i64 pl.l), .v (.int .i64 pl.s), .v (.int .i64 pl.me), .v (.int .i64 pl.lock), .v (.int .i64 pl.limit), .v (.int .i64 pl.retry), .v (.int .i64 pl.far), .v (.int .i64 pl.now), .v (.bool pl.still)], .g [.v (.bool x.tree), .v (.bool x.has), .v (.int .i64 x.tok.age), .v (.slice p.tok.a1 x.tok.seq.length p.tok.c1), .v (.slice p.tok.a2 x.tok.q.length p.tok.c2), .v (.slice p.tok.a3 x.tok.hs.length p.tok.c3), .v (.int .i64 x.tok.c.value), .v (.int .i64 x.tok.c.floor), .v (.int .u64 x.tok.c.version), .v (.int .i64 x.last), .v (.int .i64 x.own.node), .v (.int .i64 x.own.hop), .v (.slice p.a4 x.known.length p.c4), .v (.slice p.a5 x.slots.length p.c5), .v (.slice p.a6 x.tries.length p.c6)]] [] (lckF x p) (lockOfX pl x) := by
  obtain ⟨⟨hx1, hx2, hx3⟩, hx4, hx5, hx6⟩ := id hx
  have hB : lockB pl x = (placeB pl && knowsB pl x && triesB pl.s x.tries && viewsB (pl.me * pl.s).toNat x.known x.slots && carB pl.n pl.l pl.s x) := rfl
  unfold lckF lockOfX
  generalize lockB pl x = B at hB
  refine cx_of (tab := tb) (ok := tbOk) Tryz.func20 Tryz.ntmps20 rfl rfl rfl rfl ?_
  intro ρ w0 A0
  refine ojs_call [] [] rfl rfl rfl rfl rfl rfl rfl (by simp) (fun _ => lockPlace_c pl) (by simp) (.inl rfl) ?_
  rintro e cs F1 _ ⟨⟨hb, rfl⟩ | ⟨hb, rfl⟩, rfl⟩
  rotate_left
  · exact endPX_ok [] [] [] rfl ⟨rfl, rfl⟩ rfl rfl (by simp) trivial rfl (.inr ⟨by rw [hB, hb]; rfl, rfl, rfl, rfl⟩) (by simp)
  refine ojs_yd (u := .g [.f (.func 48) [.p 2 0] [], .f (.func 49) [.p 2 0] [], .f (.func 50) [.p 2 0] [], .f (.func 51) [.p 2 0] []]) (yd_buildA rfl rfl rfl rfl rfl) rfl ?_
  refine cjs_turns 5 ?_
  refine ojs_yd (yd_arrIdx (i := 0) (m := 4) rfl (by decide) rfl rfl rfl rfl rfl rfl) rfl ?_
  refine ojs_call [2] [] rfl rfl rfl rfl rfl rfl rfl (by simp) (F0 := lckF x p) (fun ρ => knows_c x p pl (ρ 2) hx) (by simp [lckF]) (.inr (by rintro e cs F1 ⟨_, rfl⟩; rfl)) ?_
  rintro e cs F1 _ ⟨rfl, rfl⟩
  refine ojs_call [] [] rfl rfl rfl rfl rfl rfl rfl (by simp) (fun _ => lockRight_c (knowsB pl x)) (by simp) (.inl rfl) ?_
  rintro e cs F1 _ ⟨⟨hb1, rfl⟩ | ⟨hb1, rfl⟩, rfl⟩
  rotate_left
  · exact endPX_ok [] [] [] rfl ⟨rfl, rfl⟩ rfl rfl (by simp) trivial rfl (.inr ⟨by rw [hB, hb1]; simp, rfl, rfl, rfl⟩) (by simp)
  refine ojs_arith (z := 1) (by first | decide | (rw [wrap_in] <;> omega) | (dsimp only; rw [wrap_in] <;> omega)) rfl rfl rfl rfl ?_
  obtain ⟨f1, f2, f3, f4, f5, f6, f7⟩ := knows_facts hb hb1
  refine ojs_yd (yd_arrIdx (i := 1) (m := 4) rfl (by decide) rfl rfl rfl rfl rfl rfl) rfl ?_
  refine ojs_call [2] [] rfl rfl rfl rfl rfl rfl rfl (by simp) (F0 := lckF x p) (fun ρ => tried_c x p pl (ρ 2) hx) (by simp [lckF]) (.inr (by rintro e cs F1 ⟨_, rfl⟩; rfl)) ?_
  rintro e cs F1 _ ⟨rfl, rfl⟩
  refine ojs_call [] [] rfl rfl rfl rfl rfl rfl rfl (by simp) (fun _ => lockRight_c (triesB pl.s x.tries)) (by simp) (.inl rfl) ?_
  rintro e cs F1 _ ⟨⟨hb2, rfl⟩ | ⟨hb2, rfl⟩, rfl⟩
  rotate_left
  · exact endPX_ok [] [] [] rfl ⟨rfl, rfl⟩ rfl rfl (by simp) trivial rfl (.inr ⟨by rw [hB, hb2]; simp, rfl, rfl, rfl⟩) (by simp)
  refine ojs_arith (z := 2) (by first | decide | (rw [wrap_in] <;> omega) | (dsimp only; rw [wrap_in] <;> omega)) rfl rfl rfl rfl ?_
  refine ojs_yd (yd_arrIdx (i := 2) (m := 4) rfl (by decide) rfl rfl rfl rfl rfl rfl) rfl ?_
  refine ojs_call [2] [] rfl rfl rfl rfl rfl rfl rfl (by simp) (F0 := lckF x p) (fun ρ => views_c x p pl (ρ 2) (pl.me * pl.s).toNat f1 hx f2 f3) (by simp [lckF]) (.inr (by rintro e cs F1 ⟨_, rfl⟩; rfl)) ?_
  rintro e cs F1 _ ⟨rfl, rfl⟩
  refine ojs_call [] [] rfl rfl rfl rfl rfl rfl rfl (by simp) (fun _ => lockRight_c (viewsB (pl.me * pl.s).toNat x.known x.slots)) (by simp) (.inl rfl) ?_
  rintro e cs F1 _ ⟨⟨hb3, rfl⟩ | ⟨hb3, rfl⟩, rfl⟩
  rotate_left
  · exact endPX_ok [] [] [] rfl ⟨rfl, rfl⟩ rfl rfl (by simp) trivial rfl (.inr ⟨by rw [hB, hb3]; simp, rfl, rfl, rfl⟩) (by simp)
  refine ojs_arith (z := 3) (by first | decide | (rw [wrap_in] <;> omega) | (dsimp only; rw [wrap_in] <;> omega)) rfl rfl rfl rfl ?_
  refine ojs_yd (yd_arrIdx (i := 3) (m := 4) rfl (by decide) rfl rfl rfl rfl rfl rfl) rfl ?_
  refine ojs_call [2] [] rfl rfl rfl rfl rfl rfl rfl (by simp) (F0 := lckF x p) (fun ρ => carried_c x p pl (ρ 2) hx) (by simp [lckF]) (.inr (by rintro e cs F1 ⟨_, rfl⟩; rfl)) ?_
  rintro e cs F1 _ ⟨rfl, rfl⟩
  refine ojs_call [] [] rfl rfl rfl rfl rfl rfl rfl (by simp) (fun _ => lockRight_c (carB pl.n pl.l pl.s x)) (by simp) (.inl rfl) ?_
  rintro e cs F1 _ ⟨⟨hb4, rfl⟩ | ⟨hb4, rfl⟩, rfl⟩
  rotate_left
  · exact endPX_ok [] [] [] rfl ⟨rfl, rfl⟩ rfl rfl (by simp) trivial rfl (.inr ⟨by rw [hB, hb4]; simp, rfl, rfl, rfl⟩) (by simp)
  refine ojs_arith (z := 4) (by first | decide | (rw [wrap_in] <;> omega) | (dsimp only; rw [wrap_in] <;> omega)) rfl rfl rfl rfl ?_
  refine cjs_drawn [6, 10, 14, 19, 24, 29] (.op 0 <| .op 1 <| .op 2 <| .op 3 <| .op 4 <| .op 5 <| .op 7 <| .op 8 <| .op 9 <| .op 11 <| .op 12 <| .op 13 <| .op 6 <| .op 10 <| .op 14 <| .op 15 <| .op 16 <| .op 17 <| .op 18 <| .op 19 <| .op 20 <| .op 21 <| .op 22 <| .op 23 <| .op 24 <| .op 25 <| .op 26 <| .op 27 <| .op 28 <| .op 29 .z) [1] [] [] [] (by kernel_rfl) (by kernel_rfl) rfl (by simp) (by simp) ?_
  intro N
  refine ojs_call [] [] rfl rfl rfl rfl rfl rfl rfl (by simp) (fun _ => cloneJ_cm p.tok.a1 p.tok.c1 x.tok.seq hx1) (by simp) (.inl rfl) ?_
  rintro e cs F1 _ ⟨a1, c1, rfl, rfl⟩
  refine ⟨⟨(by repeat' (first | exact trivial | refine ⟨Or.inl rfl, ?_⟩ | refine ⟨Or.inr ⟨rfl, Nat.le_of_ble_eq_true rfl, _, rfl, rfl, rfl⟩, ?_⟩)), by simp⟩, ?_⟩
  refine ojs_call [] [] rfl rfl rfl rfl rfl rfl rfl (by simp) (fun _ => cloneWt_cm p.tok.a2 p.tok.c2 x.tok.q hx2) (by simp) (.inl rfl) ?_
  rintro e cs F1 _ ⟨a2, c2, rfl, rfl⟩
  refine ⟨⟨(by repeat' (first | exact trivial | refine ⟨Or.inl rfl, ?_⟩ | refine ⟨Or.inr ⟨rfl, Nat.le_of_ble_eq_true rfl, _, rfl, rfl, rfl⟩, ?_⟩)), by simp⟩, ?_⟩
  refine ojs_call [] [] rfl rfl rfl rfl rfl rfl rfl (by simp) (fun _ => cloneHd_cm p.tok.a3 p.tok.c3 x.tok.hs hx3) (by simp) (.inl rfl) ?_
  rintro e cs F1 _ ⟨a3, c3, rfl, rfl⟩
  refine ⟨⟨(by repeat' (first | exact trivial | refine ⟨Or.inl rfl, ?_⟩ | refine ⟨Or.inr ⟨rfl, Nat.le_of_ble_eq_true rfl, _, rfl, rfl, rfl⟩, ?_⟩)), by simp⟩, ?_⟩
  refine ⟨⟨(by repeat' (first | exact trivial | refine ⟨Or.inl rfl, ?_⟩ | refine ⟨Or.inr ⟨rfl, Nat.le_of_ble_eq_true rfl, _, rfl, rfl, rfl⟩, ?_⟩)), by simp⟩, ?_⟩
  refine ⟨⟨(by repeat' (first | exact trivial | refine ⟨Or.inl rfl, ?_⟩ | refine ⟨Or.inr ⟨rfl, Nat.le_of_ble_eq_true rfl, _, rfl, rfl, rfl⟩, ?_⟩)), by simp⟩, ?_⟩
  refine ⟨⟨(by repeat' (first | exact trivial | refine ⟨Or.inl rfl, ?_⟩ | refine ⟨Or.inr ⟨rfl, Nat.le_of_ble_eq_true rfl, _, rfl, rfl, rfl⟩, ?_⟩)), by simp⟩, ?_⟩
  refine cjs_weak (σ := ⟨[(5, .o (.p 2 0)), (3, .o (.p 1 0))], [(2, .c [.v (.bool x.tree), .v (.bool x.has), .v (.int .i64 x.tok.age), .v (.slice a1 x.tok.seq.length c1), .v (.slice a2 x.tok.q.length c2), .v (.slice a3 x.tok.hs.length c3), .v (.int .i64 x.tok.c.value), .v (.int .i64 x.tok.c.floor), .v (.int .u64 x.tok.c.version), .v (.int .i64 x.last), .v (.int .i64 x.own.node), .v (.int .i64 x.own.hop), .v (.slice p.a4 x.known.length p.c4), .v (.slice p.a5 x.slots.length p.c5), .v (.slice p.a6 x.tries.length p.c6), .v (.int .i64 pl.n), .v (.int .i64 pl.l), .v (.int .i64 pl.s), .v (.int .i64 pl.me), .v (.int .i64 pl.lock), .v (.int .i64 pl.limit), .v (.int .i64 pl.retry), .v (.int .i64 pl.far), .v (.int .i64 pl.now), .v (.bool pl.still), .v (.slice none 0 0)] 94), (1, .c [.v (.bool x.tree), .v (.bool x.has), .v (.int .i64 x.tok.age), .v (.slice p.tok.a1 x.tok.seq.length p.tok.c1), .v (.slice p.tok.a2 x.tok.q.length p.tok.c2), .v (.slice p.tok.a3 x.tok.hs.length p.tok.c3), .v (.int .i64 x.tok.c.value), .v (.int .i64 x.tok.c.floor), .v (.int .u64 x.tok.c.version), .v (.int .i64 x.last), .v (.int .i64 x.own.node), .v (.int .i64 x.own.hop), .v (.slice p.a4 x.known.length p.c4), .v (.slice p.a5 x.slots.length p.c5), .v (.slice p.a6 x.tries.length p.c6)] 40)], 3, [slF encI 1 (.slice a1 x.tok.seq.length c1) x.tok.seq, slF wtL 5 (.slice a2 x.tok.q.length c2) x.tok.q, slF hdL 3 (.slice a3 x.tok.hs.length c3) x.tok.hs, slF staL 4 (.slice p.a4 x.known.length p.c4) x.known, slF sltL 8 (.slice p.a5 x.slots.length p.c5) x.slots, slF tryL 3 (.slice p.a6 x.tries.length p.c6) x.tries], fun _ => []⟩) (wk_patch (by repeat' (first | exact trivial | exact Or.inl rfl | refine Or.inr ⟨?_, ?_⟩ | rfl | refine ⟨?_, ?_⟩ | exact lt_all_v)) (by repeat' (first | exact trivial | exact Or.inl rfl | refine Or.inr ⟨?_, ?_⟩ | rfl | refine ⟨?_, ?_⟩ | exact lt_all_v)) (by simp) (by simp) D_nil) ?_
  refine cjs_drawn [5, 8, 11, 15, 19, 23] (.op 0 <| .op 1 <| .op 2 <| .op 3 <| .op 4 <| .op 6 <| .op 7 <| .op 9 <| .op 10 <| .op 5 <| .op 8 <| .op 11 <| .op 12 <| .op 13 <| .op 14 <| .op 15 <| .op 16 <| .op 17 <| .op 18 <| .op 19 <| .op 20 <| .op 21 <| .op 22 <| .op 23 .z) [1] [] [] [] (by kernel_rfl) (by kernel_rfl) rfl (by simp) (by simp) ?_
  intro N
  refine ojs_call [] [] rfl rfl rfl rfl rfl rfl rfl (by simp) (fun _ => cloneSta_cm p.a4 p.c4 x.known hx4) (by simp) (.inl rfl) ?_
  rintro e cs F1 _ ⟨a4, c4, rfl, rfl⟩
  refine ⟨⟨(by repeat' (first | exact trivial | refine ⟨Or.inl rfl, ?_⟩ | refine ⟨Or.inr ⟨rfl, Nat.le_of_ble_eq_true rfl, _, rfl, rfl, rfl⟩, ?_⟩)), by simp⟩, ?_⟩
  refine ojs_call [] [] rfl rfl rfl rfl rfl rfl rfl (by simp) (fun _ => cloneSlt_cm p.a5 p.c5 x.slots hx5) (by simp) (.inl rfl) ?_
  rintro e cs F1 _ ⟨a5, c5, rfl, rfl⟩
  refine ⟨⟨(by repeat' (first | exact trivial | refine ⟨Or.inl rfl, ?_⟩ | refine ⟨Or.inr ⟨rfl, Nat.le_of_ble_eq_true rfl, _, rfl, rfl, rfl⟩, ?_⟩)), by simp⟩, ?_⟩
  refine ojs_call [] [] rfl rfl rfl rfl rfl rfl rfl (by simp) (fun _ => cloneTry_cm p.a6 p.c6 x.tries hx6) (by simp) (.inl rfl) ?_
  rintro e cs F1 _ ⟨a6, c6, rfl, rfl⟩
  refine ⟨⟨(by repeat' (first | exact trivial | refine ⟨Or.inl rfl, ?_⟩ | refine ⟨Or.inr ⟨rfl, Nat.le_of_ble_eq_true rfl, _, rfl, rfl, rfl⟩, ?_⟩)), by simp⟩, ?_⟩
  refine ⟨⟨(by repeat' (first | exact trivial | refine ⟨Or.inl rfl, ?_⟩ | refine ⟨Or.inr ⟨rfl, Nat.le_of_ble_eq_true rfl, _, rfl, rfl, rfl⟩, ?_⟩)), by simp⟩, ?_⟩
  refine ⟨⟨(by repeat' (first | exact trivial | refine ⟨Or.inl rfl, ?_⟩ | refine ⟨Or.inr ⟨rfl, Nat.le_of_ble_eq_true rfl, _, rfl, rfl, rfl⟩, ?_⟩)), by simp⟩, ?_⟩
  refine ⟨⟨(by repeat' (first | exact trivial | refine ⟨Or.inl rfl, ?_⟩ | refine ⟨Or.inr ⟨rfl, Nat.le_of_ble_eq_true rfl, _, rfl, rfl, rfl⟩, ?_⟩)), by simp⟩, ?_⟩
  refine endX_ok [2] (.o (.p 0 0)) [.c ((undK x ⟨⟨a1, c1, a2, c2, a3, c3⟩, a4, c4, a5, c5, a6, c6⟩ pl).map SV.v) 94] (lckF x ⟨⟨a1, c1, a2, c2, a3, c3⟩, a4, c4, a5, c5, a6, c6⟩) rfl rfl rfl rfl ⟨rfl, rfl⟩ rfl rfl (by simp) ⟨rfl, trivial⟩ rfl rfl (.inl ⟨by rw [hB, hb, hb1, hb2, hb3, hb4]; rfl, _, rfl, rfl, rfl⟩) (by simp [lckF])
end Go.Proofs.YtmhnlkakbadkgaaGreat
