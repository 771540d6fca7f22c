/- Part 40 of the proof of LockBacks: contracts of functions that the law reaches, or the rules by which they are walked. No condition. -/
import Derived.Test.YtmhnlkakbadkgaaGreatPkbi
import Derived.Test.YtmhnlkakbadkgaaGreatPkbm
namespace Go.Proofs.YtmhnlkakbadkgaaGreat
open Go.RowKit Go.Shelf
set_option maxRecDepth 100000
theorem refRight_bool {pl : Plc} {x : Lck} : lockB pl x = (placeB pl && ownB pl.n pl.l pl.s x.own && knownB pl.n pl.l pl.s x.known && slotsB pl.n pl.l pl.s x.slots && triesB pl.s x.tries && viewsB (pl.me * pl.s).toNat x.known x.slots && carB pl.n pl.l pl.s x) := by
  unfold lockB knowsB
  cases placeB pl <;> cases ownB pl.n pl.l pl.s x.own <;> cases knownB pl.n pl.l pl.s x.known <;> cases slotsB pl.n pl.l pl.s x.slots <;> simp
set_option maxHeartbeats 4000000 in
theorem refRight22_c (pl : Plc) (x : Lck) (p : LckS) (hx : x.small) : Cm Tryz.prog 22 [.agg (plcL pl).toArray, .agg (lckV x p).toArray] [] (lckF x p) (rets (.bool (lockB pl x))) := by
  obtain ⟨hx0, hx4, hx5, hx6⟩ := id hx
  have hB := refRight_bool (pl := pl) (x := x)
  have hkf := knows_facts (pl := pl) (x := x)
  have hZ : carB pl.n pl.l pl.s x = bif !x.has && decide (x.last = 0) then decide (x.tok = tok0) else decide (0 < x.last) && decide (x.tok.age = x.last) && tokB pl.n pl.l pl.s x.tok := rfl
  generalize lockB pl x = B at hB
  generalize carB pl.n pl.l pl.s x = Z at hB hZ
  obtain ⟨t0, a4, c4, a5, c5, a6, c6⟩ := p
  unfold lckF
  dsimp only
  refine cm_of (tab := tb) (ok := tbOk) [.g [.v (.int .i64 pl.n), .v (.int .i64 pl.l), .v (.int .i64 pl.s), .v (.int .i64 pl.me), .v (.int .i64 pl.lock), .v (.int .i64 pl.limit), .v (.int .i64 pl.retry), .v (.int .i64 pl.far), .v (.int .i64 pl.now), .v (.bool pl.still)], .g [.v (.bool x.tree), .v (.bool x.has), .v (.int .i64 x.tok.age), .v (.slice t0.a1 x.tok.seq.length t0.c1), .v (.slice t0.a2 x.tok.q.length t0.c2), .v (.slice t0.a3 x.tok.hs.length t0.c3), .v (.int .i64 x.tok.c.value), .v (.int .i64 x.tok.c.floor), .v (.int .u64 x.tok.c.version), .v (.int .i64 x.last), .v (.int .i64 x.own.node), .v (.int .i64 x.own.hop), .v (.slice a4 x.known.length c4), .v (.slice a5 x.slots.length c5), .v (.slice a6 x.tries.length c6)]] Tryz.func22 Tryz.ntmps22 rfl rfl (fun _ _ => rfl) ?_
  intro w0 A0
  refine ojs_call [] [] rfl rfl rfl rfl rfl rfl rfl (by simp) (fun _ => refPlace_c pl) (by simp) (.inl rfl) ?_
  rintro e cs F1 _ ⟨rfl, rfl⟩
  cases hb0 : placeB pl
  · rw [hB, hb0]
    exact endR_ok [] rfl rfl ⟨rfl, rfl⟩ rfl (fun _ => ⟨rfl, rfl⟩) (by simp)
  refine ojs_call [] [] rfl rfl rfl rfl rfl rfl rfl (by simp) (fun _ => refOwn_c pl.n pl.l pl.s x.own) (by simp) (.inl rfl) ?_
  rintro e cs F1 _ ⟨rfl, rfl⟩
  cases hb1 : ownB pl.n pl.l pl.s x.own
  · rw [hB, hb0, hb1]
    exact endR_ok [] rfl rfl ⟨rfl, rfl⟩ rfl (fun _ => ⟨rfl, rfl⟩) (by simp)
  refine ojs_call [] [] rfl rfl rfl rfl rfl rfl rfl (by simp) (fun _ => refKnown_c pl.n pl.l pl.s a4 c4 x.known hx4) (by simp) (.inl rfl) ?_
  rintro e cs F1 _ ⟨rfl, rfl⟩
  cases hb2 : knownB pl.n pl.l pl.s x.known
  · rw [hB, hb0, hb1, hb2]
    exact endR_ok [] rfl rfl ⟨rfl, rfl⟩ rfl (fun _ => ⟨rfl, rfl⟩) (by simp)
  refine ojs_call [] [] rfl rfl rfl rfl rfl rfl rfl (by simp) (fun _ => refSlots_c pl.n pl.l pl.s a5 c5 x.slots hx5) (by simp) (.inl rfl) ?_
  rintro e cs F1 _ ⟨rfl, rfl⟩
  cases hb3 : slotsB pl.n pl.l pl.s x.slots
  · rw [hB, hb0, hb1, hb2, hb3]
    exact endR_ok [] rfl rfl ⟨rfl, rfl⟩ rfl (fun _ => ⟨rfl, rfl⟩) (by simp)
  refine ojs_call [] [] rfl rfl rfl rfl rfl rfl rfl (by simp) (fun _ => refTries_c pl.n pl.l pl.s a6 c6 x.tries hx6) (by simp) (.inl rfl) ?_
  rintro e cs F1 _ ⟨rfl, rfl⟩
  rw [show (decide ((x.tries.length : Int) = pl.s) && x.tries.all tryB) = triesB pl.s x.tries from rfl]
  cases hb4 : triesB pl.s x.tries
  · rw [hB, hb0, hb1, hb2, hb3, hb4]
    exact endR_ok [] rfl rfl ⟨rfl, rfl⟩ rfl (fun _ => ⟨rfl, rfl⟩) (by simp)
  obtain ⟨f1, f2, f3, f4, f5, f6, f7⟩ := hkf hb0 (by unfold knowsB; rw [hb1, hb2, hb3]; rfl)
  rw [hb0, hb1, hb2, hb3, hb4] at hB
  have hBv : B = (viewsB (pl.me * pl.s).toNat x.known x.slots && Z) := by rw [hB]; simp
  generalize (pl.me * pl.s).toNat = o at f1 f3 hBv
  refine cjs_loopP (γ := Nat) (fun k => k ≤ x.slots.length ∧ ∀ j y, j < k → x.slots[j]? = some y → x.known[o + j]? = some (sltStat y)) (fun k => [(6, .o (.v (.int .i64 k)))]) (fun _ => []) (fun _ => []) (fun k => x.slots.length - k) 0 ⟨Nat.zero_le _, fun j y hj => by omega⟩ (wk_patch (by repeat' (first | exact trivial | exact Or.inl rfl | refine Or.inr ⟨?_, ?_⟩ | rfl | refine ⟨?_, ?_⟩ | exact lt_all_v)) (by repeat' (first | exact trivial | exact Or.inl rfl | refine Or.inr ⟨?_, ?_⟩ | rfl | refine ⟨?_, ?_⟩ | exact lt_all_v)) (fun f hf => hf) (by simp) D_nil) ?_
  rintro k ⟨hk, hyes⟩
  refine brB_dec (fun h1 => ?_) (fun h1 => ?_)
  · 
    have hkl : k < x.slots.length := by omega
    obtain ⟨y, hy⟩ := at_some (xs := x.slots) (k := k) hkl
    obtain ⟨z, hz⟩ := at_some (xs := x.known) (k := o + k) (by omega)
    have hyI := f2 y (List.mem_of_getElem? hy)
    refine cjs_fact (slF staL 4 (.slice a4 x.known.length c4) x.known) (by simp) (slF_neE hz) ?_
    rintro ⟨b4, off4, rfl⟩
    refine cjs_fact (slF sltL 8 (.slice a5 x.slots.length c5) x.slots) (by simp) (slF_neE hy) ?_
    rintro ⟨b5, off5, rfl⟩
    refine cjs_drawn [16] (.op 0 <| .op 1 <| .op 2 <| .op 3 <| .op 4 <| .op 5 <| .op 6 <| .op 7 <| .op 8 <| .op 9 <| .op 10 <| .op 11 <| .op 12 <| .op 13 <| .op 14 <| .op 15 <| .op 16 <| .op 17 .z) [0, 1, 2] [] [] [slF staL 4 (.slice (some ⟨b4, off4, none⟩) x.known.length c4) x.known, slF sltL 8 (.slice (some ⟨b5, off5, none⟩) x.slots.length c5) x.slots] (by kernel_rfl) (by kernel_rfl) rfl (by simp) (by simp) ?_
    intro N
    refine ⟨_, yd_arith (z := pl.me * pl.s) (by rw [wrap_in] <;> omega) rfl rfl rfl rfl, ?_⟩
    refine ⟨_, yd_arith (z := pl.me * pl.s + k) (by rw [wrap_in] <;> omega) rfl rfl rfl rfl, ?_⟩
    refine ⟨_, yd_index (i := o + k) (by rw [Int.natCast_add, f1]) (by omega) rfl rfl rfl rfl, ?_⟩
    refine ⟨_, yd_loadN (vs := staL z) (slF staL 4 (.slice (some ⟨b4, off4, none⟩) x.known.length c4) x.known) (by simp) (slF_atN hz) rfl rfl rfl, ?_⟩
    refine ⟨_, yd_index (i := k) rfl hkl rfl rfl rfl rfl, ?_⟩
    refine ⟨_, yd_loadN (vs := sltL y) (slF sltL 8 (.slice (some ⟨b5, off5, none⟩) x.slots.length c5) x.slots) (by simp) (slF_atN hy) rfl rfl rfl, ?_⟩
    refine ojs_call [] [] rfl rfl rfl rfl rfl rfl rfl (by simp) (fun _ => refSltStat_c y (by unfold sltI at hyI; omega)) (by simp) (.inl rfl) ?_
    rintro e cs F1 _ ⟨rfl, rfl⟩
    refine ⟨⟨(by repeat' (first | exact trivial | refine ⟨Or.inl rfl, ?_⟩ | refine ⟨Or.inr ⟨rfl, Nat.le_of_ble_eq_true rfl, _, rfl, rfl, rfl⟩, ?_⟩)), by simp⟩, ?_⟩
    refine ⟨_, yd_neF (xs := staL z) (ys := staL (sltStat y)) (r := decide (z = sltStat y)) (ks := _) flatSta okSta rfl rfl rfl (fun _ => rfl) (fun _ => rfl) (fitSta _ _), ?_⟩
    cases h : decide (z = sltStat y)
    · rw [hBv, viewsB_no hy hz (by simpa using h)]
      exact endR_ok [] rfl rfl ⟨rfl, rfl⟩ rfl (fun _ => ⟨rfl, rfl⟩) (by simp)
    · refine ojs_arith (z := ((k + 1 : Nat) : Int)) (by first | decide | (rw [wrap_in] <;> omega) | (dsimp only; rw [wrap_in] <;> omega)) rfl rfl rfl rfl ?_
      refine ⟨k + 1, ⟨by omega, fun j w hj hw => ?_⟩, (by first | omega | (dsimp only; omega)), wk_patch (by repeat' (first | exact trivial | exact Or.inl rfl | refine Or.inr ⟨?_, ?_⟩ | rfl | refine ⟨?_, ?_⟩ | exact lt_all_v)) (by repeat' (first | exact trivial | exact Or.inl rfl | refine Or.inr ⟨?_, ?_⟩ | rfl | refine ⟨?_, ?_⟩ | exact lt_all_v)) (fun f hf => hf) (by simp) D_nil⟩
      rcases Nat.lt_succ_iff_lt_or_eq.1 hj with h2 | rfl
      · exact hyes j w h2 hw
      · rw [hy] at hw
        cases hw
        rw [hz, of_decide_eq_true h]
  · have hv : viewsB o x.known x.slots = true := viewsB_yes fun k y hy => hyes k y (by have := (List.getElem?_eq_some_iff.1 hy).1; omega) hy
    have hBZ : B = Z := by rw [hBv, hv]; rfl
    rw [hBZ]
    clear hB hBv hBZ
    cases hh : x.has
    · rw [hh] at hZ
      conv => whnf
      refine brB_split (fun h1 => ?_) (fun h1 => ?_)
      · have e1 : decide (x.last = 0) = true := by simpa using h1
        rw [e1] at hZ
        conv => whnf
        refine ojs_call [] [] rfl rfl rfl rfl rfl rfl rfl (by simp) (fun _ => tokZ_c (refTokSame_c x.tok tok0 t0 sls0 hx0 tok0_small)) (by simp) (.inl rfl) ?_
        rintro e cs F1 _ ⟨rfl, rfl⟩
        rw [show Z = decide (x.tok = tok0) by rw [hZ]; rfl]
        exact endR_ok [] rfl rfl ⟨rfl, rfl⟩ rfl (fun _ => ⟨rfl, rfl⟩) (by simp)
      · have e1 : decide (x.last = 0) = false := by simpa using h1
        rw [e1] at hZ
        replace hZ : Z = (decide (0 < x.last) && decide (x.tok.age = x.last) && tokB pl.n pl.l pl.s x.tok) := hZ
        conv => whnf
        refine ojs_call [] [] rfl rfl rfl rfl rfl rfl rfl (by simp) (fun _ => refTok_c pl.n pl.l pl.s x.tok t0 hx0) (by simp) (.inl rfl) ?_
        rintro e cs F1 _ ⟨rfl, rfl⟩
        cases ht : tokB pl.n pl.l pl.s x.tok
        · rw [ht] at hZ
          rw [hZ]
          have e : (decide (0 < x.last) && decide (x.tok.age = x.last) && false) = false := by simp
          first | rw [e] | (dsimp only [Bool.not_true, Bool.not_false, Bool.true_and, Bool.false_and, cond_true, cond_false]; rw [e])
          exact endR_ok [] rfl rfl ⟨rfl, rfl⟩ rfl (fun _ => ⟨rfl, rfl⟩) (by simp)
        rw [ht] at hZ
        conv => whnf
        refine brB_split (fun h2 => ?_) (fun h2 => ?_)
        rotate_left
        · have e2 : decide (x.tok.age = x.last) = false := by simp at h2; simpa using h2
          have e : Z = false := by rw [hZ, e2]; simp
          rw [e]
          exact endR_ok [] rfl rfl ⟨rfl, rfl⟩ rfl (fun _ => ⟨rfl, rfl⟩) (by simp)
        have e2 : decide (x.tok.age = x.last) = true := by simp at h2; simpa using h2
        rw [show Z = decide (0 < x.last) by rw [hZ, e2]; simp]
        exact endR_ok [] rfl rfl ⟨rfl, rfl⟩ rfl (fun _ => ⟨rfl, rfl⟩) (by simp)
    · rw [hh] at hZ
      replace hZ : Z = (decide (0 < x.last) && decide (x.tok.age = x.last) && tokB pl.n pl.l pl.s x.tok) := hZ
      conv => whnf
      refine ojs_call [] [] rfl rfl rfl rfl rfl rfl rfl (by simp) (fun _ => refTok_c pl.n pl.l pl.s x.tok t0 hx0) (by simp) (.inl rfl) ?_
      rintro e cs F1 _ ⟨rfl, rfl⟩
      cases ht : tokB pl.n pl.l pl.s x.tok
      · rw [ht] at hZ
        rw [hZ]
        have e : (decide (0 < x.last) && decide (x.tok.age = x.last) && false) = false := by simp
        first | rw [e] | (dsimp only [Bool.not_true, Bool.not_false, Bool.true_and, Bool.false_and, cond_true, cond_false]; rw [e])
        exact endR_ok [] rfl rfl ⟨rfl, rfl⟩ rfl (fun _ => ⟨rfl, rfl⟩) (by simp)
      rw [ht] at hZ
      conv => whnf
      refine brB_split (fun h2 => ?_) (fun h2 => ?_)
      rotate_left
      · have e2 : decide (x.tok.age = x.last) = false := by simp at h2; simpa using h2
        have e : Z = false := by rw [hZ, e2]; simp
        rw [e]
        exact endR_ok [] rfl rfl ⟨rfl, rfl⟩ rfl (fun _ => ⟨rfl, rfl⟩) (by simp)
      have e2 : decide (x.tok.age = x.last) = true := by simp at h2; simpa using h2
      rw [show Z = decide (0 < x.last) by rw [hZ, e2]; simp]
      exact endR_ok [] rfl rfl ⟨rfl, rfl⟩ rfl (fun _ => ⟨rfl, rfl⟩) (by simp)
end Go.Proofs.YtmhnlkakbadkgaaGreat
