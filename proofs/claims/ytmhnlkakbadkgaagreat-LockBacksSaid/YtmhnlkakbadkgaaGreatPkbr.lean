/- Part 44 of the proof of LockBacks: contracts of functions that the law reaches, or the rules by which they are walked. No condition. -/
import Derived.Test.YtmhnlkakbadkgaaGreatPkbq
import Derived.Test.YtmhnlkakbadkgaaGreatPkbi
namespace Go.Proofs.YtmhnlkakbadkgaaGreat
open Go.RowKit Go.Shelf
set_option maxRecDepth 100000
def workL (pl : Plc) (x : Lck) (p : LckS) : List Value := [.int .i64 pl.n, .int .i64 pl.l, .int .i64 pl.s, .int .i64 pl.me, .int .i64 pl.lock, .int .i64 pl.limit, .int .i64 pl.retry, .int .i64 pl.far, .int .i64 pl.now, .bool pl.still] ++ lckV x p ++ [.slice none 0 0]
set_option maxHeartbeats 4000000 in
theorem begun_c (pl : Plc) (x : Lck) (p : LckS) (hx : x.small) : Cm Tryz.prog 23 [.agg (plcL pl).toArray, .agg (lckV x p).toArray] [] (lckF x p) (fun e _ F1 => ∃ p', e = .returned (.agg (workL pl x p').toArray) ∧ F1 = lckF x p') := by
  have hC := refCopy22_c x p hx
  refine cm_of (tab := tb) (ok := tbOk) [.g [.v (.int .i64 pl.n), .v (.int .i64 pl.l), .v (.int .i64 pl.s), .v (.int .i64 pl.me), .v (.int .i64 pl.lock), .v (.int .i64 pl.limit), .v (.int .i64 pl.retry), .v (.int .i64 pl.far), .v (.int .i64 pl.now), .v (.bool pl.still)], .g [.v (.bool x.tree), .v (.bool x.has), .v (.int .i64 x.tok.age), .v (.slice p.tok.a1 x.tok.seq.length p.tok.c1), .v (.slice p.tok.a2 x.tok.q.length p.tok.c2), .v (.slice p.tok.a3 x.tok.hs.length p.tok.c3), .v (.int .i64 x.tok.c.value), .v (.int .i64 x.tok.c.floor), .v (.int .u64 x.tok.c.version), .v (.int .i64 x.last), .v (.int .i64 x.own.node), .v (.int .i64 x.own.hop), .v (.slice p.a4 x.known.length p.c4), .v (.slice p.a5 x.slots.length p.c5), .v (.slice p.a6 x.tries.length p.c6)]] Tryz.func23 Tryz.ntmps23 rfl rfl (fun _ _ => rfl) ?_
  intro w0 A0
  refine cjs_drawn [2, 4] (.op 0 <| .op 1 <| .op 2 <| .op 3 <| .op 4 .z) [0, 1] [] [] [] (by kernel_rfl) (by kernel_rfl) rfl (by simp) (by simp) ?_
  intro N
  refine ojs_call [] [] rfl rfl rfl rfl rfl rfl rfl (by simp) (fun _ => hC) (fun f hf => hf) (.inl rfl) ?_
  rintro e cs F1 _ ⟨p', rfl, rfl⟩
  refine ⟨⟨(by repeat' (first | exact trivial | refine ⟨Or.inl rfl, ?_⟩ | refine ⟨Or.inr ⟨rfl, Nat.le_of_ble_eq_true rfl, _, rfl, rfl, rfl⟩, ?_⟩)), by simp⟩, ?_⟩
  refine ⟨_, yd_build rfl rfl rfl rfl, ?_⟩
  refine ⟨⟨(by repeat' (first | exact trivial | refine ⟨Or.inl rfl, ?_⟩ | refine ⟨Or.inr ⟨rfl, Nat.le_of_ble_eq_true rfl, _, rfl, rfl, rfl⟩, ?_⟩)), by simp⟩, ?_⟩
  exact endR_ok (lckF x p') rfl rfl ⟨rfl, rfl⟩ rfl (fun _ => ⟨p', rfl, rfl⟩) (fun f hf => by simp [hf])
set_option maxHeartbeats 4000000 in
theorem refBack22_c (pl : Plc) (x : Lck) (p : LckS) (hop : Int) (hx : x.small) : Cm Tryz.prog 8 [.agg (plcL pl).toArray, .agg (lckV x p).toArray, .int .i64 hop] [] (lckF x p) (backO .i64 (backX pl x hop)) := by
  have hR := refRight22_c pl x p hx
  have hG := begun_c pl x p hx
  refine cm_of (tab := tb) (ok := tbOk) [.g [.v (.int .i64 pl.n), .v (.int .i64 pl.l), .v (.int .i64 pl.s), .v (.int .i64 pl.me), .v (.int .i64 pl.lock), .v (.int .i64 pl.limit), .v (.int .i64 pl.retry), .v (.int .i64 pl.far), .v (.int .i64 pl.now), .v (.bool pl.still)], .g [.v (.bool x.tree), .v (.bool x.has), .v (.int .i64 x.tok.age), .v (.slice p.tok.a1 x.tok.seq.length p.tok.c1), .v (.slice p.tok.a2 x.tok.q.length p.tok.c2), .v (.slice p.tok.a3 x.tok.hs.length p.tok.c3), .v (.int .i64 x.tok.c.value), .v (.int .i64 x.tok.c.floor), .v (.int .u64 x.tok.c.version), .v (.int .i64 x.last), .v (.int .i64 x.own.node), .v (.int .i64 x.own.hop), .v (.slice p.a4 x.known.length p.c4), .v (.slice p.a5 x.slots.length p.c5), .v (.slice p.a6 x.tries.length p.c6)], .o (.v (.int .i64 hop))] Tryz.func8 Tryz.ntmps8 rfl rfl (fun _ _ => rfl) ?_
  intro w0 A0
  refine ojs_call [] [] rfl rfl rfl rfl rfl rfl rfl (by simp) (fun _ => hR) (fun f hf => hf) (.inl rfl) ?_
  rintro e cs F1 _ ⟨rfl, rfl⟩
  cases hB : lockB pl x
  · rw [show backX pl x hop = (lck0, false, 2) by unfold backX; rw [hB]; rfl]
    refine endR_facts (lckF lck0 lckS0) (fun A w _ f hf => lck0_facts f hf) ?_
    exact endR_ok (lckF lck0 lckS0) rfl rfl ⟨rfl, rfl⟩ rfl (fun _ => ⟨lckS0, rfl, rfl⟩) (fun f hf => by simp [hf])
  refine ojs_call [] [] rfl rfl rfl rfl rfl rfl rfl (by simp) (fun _ => hG) (fun f hf => hf) (.inl rfl) ?_
  rintro e cs F1 _ ⟨p', rfl, rfl⟩
  conv => whnf
  refine brB_split (fun hh => ?_) (fun hh => ?_)
  · 
    rw [show backX pl x hop = (x, false, 0) by unfold backX; rw [hB, show bakP x hop = false by unfold bakP; rw [hh]; rfl]; rfl]
    exact endR_ok (lckF x p') rfl rfl ⟨rfl, rfl⟩ rfl (fun _ => ⟨p', rfl, rfl⟩) (fun f hf => by simp [hf])
  conv => whnf
  refine brB_split (fun h1 => ?_) (fun h1 => ?_)
  · have e1 : decide (hop = x.last) = false := by simpa using h1
    rw [show backX pl x hop = (x, false, 0) by unfold backX; rw [hB, show bakP x hop = false by unfold bakP; rw [e1]; simp]; rfl]
    exact endR_ok (lckF x p') rfl rfl ⟨rfl, rfl⟩ rfl (fun _ => ⟨p', rfl, rfl⟩) (fun f hf => by simp [hf])
  have e1 : decide (hop = x.last) = true := by simpa using h1
  conv => whnf
  refine brB_dec (fun h2 => ?_) (fun h2 => ?_)
  · have e2 : decide (1 ≤ hop) = false := by simp; omega
    rw [show backX pl x hop = (x, false, 0) by unfold backX; rw [hB, show bakP x hop = false by unfold bakP; rw [e2]; simp]; rfl]
    exact endR_ok (lckF x p') rfl rfl ⟨rfl, rfl⟩ rfl (fun _ => ⟨p', rfl, rfl⟩) (fun f hf => by simp [hf])
  have e2 : decide (1 ≤ hop) = true := by simp; omega
  conv => whnf
  refine brB_dec (fun h3 => ?_) (fun h3 => ?_)
  · have e3 : decide (hop ≤ 1099511627775) = false := by simp; omega
    rw [show backX pl x hop = (x, false, 0) by unfold backX; rw [hB, show bakP x hop = false by unfold bakP; rw [e3]; simp]; rfl]
    exact endR_ok (lckF x p') rfl rfl ⟨rfl, rfl⟩ rfl (fun _ => ⟨p', rfl, rfl⟩) (fun f hf => by simp [hf])
  have e3 : decide (hop ≤ 1099511627775) = true := by simp; omega
  rw [show backX pl x hop = (bakX pl x hop, true, 0) by unfold backX; rw [hB, show bakP x hop = true by unfold bakP; rw [hh, e1, e2, e3]; rfl]; rfl]
  refine cjs_weak (σ := ⟨[(2, .o (.v (.int .i64 hop))), (3, .o (.p 0 0)), (6, .o (.p 2 0)), (9, .o (.p 3 0))], [(3, .c [.v (.int .i64 pl.n), .v (.int .i64 pl.l), .v (.int .i64 pl.s), .v (.int .i64 pl.me), .v (.int .i64 pl.lock), .v (.int .i64 pl.limit), .v (.int .i64 pl.retry), .v (.int .i64 pl.far), .v (.int .i64 pl.now), .v (.bool pl.still), .v (.bool x.tree), .v (.bool x.has), .v (.int .i64 x.tok.age), .v (.slice p'.tok.a1 x.tok.seq.length p'.tok.c1), .v (.slice p'.tok.a2 x.tok.q.length p'.tok.c2), .v (.slice p'.tok.a3 x.tok.hs.length p'.tok.c3), .v (.int .i64 x.tok.c.value), .v (.int .i64 x.tok.c.floor), .v (.int .u64 x.tok.c.version), .v (.int .i64 x.last), .v (.int .i64 x.own.node), .v (.int .i64 x.own.hop), .v (.slice p'.a4 x.known.length p'.c4), .v (.slice p'.a5 x.slots.length p'.c5), .v (.slice p'.a6 x.tries.length p'.c6), .v (.slice none 0 0)] 98), (2, .c ((lckV lck0 lckS0).map SV.v) 40), (0, .c [.v (.int .i64 pl.n), .v (.int .i64 pl.l), .v (.int .i64 pl.s), .v (.int .i64 pl.me), .v (.int .i64 pl.lock), .v (.int .i64 pl.limit), .v (.int .i64 pl.retry), .v (.int .i64 pl.far), .v (.int .i64 pl.now), .v (.bool pl.still)] 25)], 4, lckF x p', fun _ => []⟩) (wk_patch (by repeat' (first | exact trivial | exact Or.inl rfl | refine Or.inr ⟨?_, ?_⟩ | rfl | refine ⟨?_, ?_⟩ | exact lt_all_v)) (by repeat' (first | exact trivial | exact Or.inl rfl | refine Or.inr ⟨?_, ?_⟩ | rfl | refine ⟨?_, ?_⟩ | exact lt_all_v)) (fun f hf => by simp [hf]) (by simp) D_nil) ?_
  refine cjs_drawn [11, 14, 18, 21] (.op 0 <| .op 1 <| .op 2 <| .op 3 <| .op 4 <| .op 5 <| .op 6 <| .op 7 <| .op 8 <| .op 9 <| .op 10 <| .op 11 <| .op 12 <| .op 13 <| .op 14 <| .op 15 <| .op 16 <| .op 17 <| .op 18 <| .op 19 <| .op 20 <| .op 21 .z) [0] [] [] [] (by kernel_rfl) (by kernel_rfl) rfl (by simp) (by simp) ?_
  intro N
  refine ⟨_, yd_arith (z := hop + 1) (by rw [wrap_in] <;> omega) rfl rfl rfl rfl, ?_⟩
  refine ⟨_, yd_arith (z := hop + 1) (by rw [wrap_in] <;> omega) rfl rfl rfl rfl, ?_⟩
  refine ⟨_, yd_arith (z := hop + 1) (by rw [wrap_in] <;> omega) rfl rfl rfl rfl, ?_⟩
  refine ⟨_, yd_build rfl rfl rfl rfl, ?_⟩
  refine ⟨⟨(by repeat' (first | exact trivial | refine ⟨Or.inl rfl, ?_⟩ | refine ⟨Or.inr ⟨rfl, Nat.le_of_ble_eq_true rfl, _, rfl, rfl, rfl⟩, ?_⟩)), by simp⟩, ?_⟩
  refine ⟨⟨(by repeat' (first | exact trivial | refine ⟨Or.inl rfl, ?_⟩ | refine ⟨Or.inr ⟨rfl, Nat.le_of_ble_eq_true rfl, _, rfl, rfl, rfl⟩, ?_⟩)), by simp⟩, ?_⟩
  refine ⟨⟨(by repeat' (first | exact trivial | refine ⟨Or.inl rfl, ?_⟩ | refine ⟨Or.inr ⟨rfl, Nat.le_of_ble_eq_true rfl, _, rfl, rfl, rfl⟩, ?_⟩)), by simp⟩, ?_⟩
  refine ⟨⟨(by repeat' (first | exact trivial | refine ⟨Or.inl rfl, ?_⟩ | refine ⟨Or.inr ⟨rfl, Nat.le_of_ble_eq_true rfl, _, rfl, rfl, rfl⟩, ?_⟩)), by simp⟩, ?_⟩
  exact endR_ok (lckF x p') rfl rfl ⟨rfl, rfl⟩ rfl (fun _ => ⟨p', rfl, rfl⟩) (fun f hf => hf)
def fewB (x : Lck) : Bool := decide (x.tok.seq.length ≤ 300) && decide (x.tok.q.length ≤ 300) && decide (x.tok.hs.length ≤ 300) && decide (x.known.length ≤ 300) && decide (x.slots.length ≤ 300) && decide (x.tries.length ≤ 300)
theorem few_c (x : Lck) (p : LckS) : Cm Tryz.prog 4 [.agg (lckV x p).toArray] [] [] (rets (.bool (fewB x))) := by
  refine cm_of (tab := tb) (ok := tbOk) [.g [.v (.bool x.tree), .v (.bool x.has), .v (.int .i64 x.tok.age), .v (.slice p.tok.a1 x.tok.seq.length p.tok.c1), .v (.slice p.tok.a2 x.tok.q.length p.tok.c2), .v (.slice p.tok.a3 x.tok.hs.length p.tok.c3), .v (.int .i64 x.tok.c.value), .v (.int .i64 x.tok.c.floor), .v (.int .u64 x.tok.c.version), .v (.int .i64 x.last), .v (.int .i64 x.own.node), .v (.int .i64 x.own.hop), .v (.slice p.a4 x.known.length p.c4), .v (.slice p.a5 x.slots.length p.c5), .v (.slice p.a6 x.tries.length p.c6)]] Tryz.func4 Tryz.ntmps4 rfl rfl (fun _ _ => rfl) ?_
  intro w0 A0
  conv => whnf
  refine brB_dec (fun h1 => ?_) (fun h1 => ?_)
  rotate_left
  · rw [show fewB x = false by unfold fewB; simp; omega]
    exact endR_ok [] rfl rfl ⟨rfl, rfl⟩ rfl (fun _ => ⟨rfl, rfl⟩) (by simp)
  conv => whnf
  refine brB_dec (fun h2 => ?_) (fun h2 => ?_)
  rotate_left
  · rw [show fewB x = false by unfold fewB; simp; omega]
    exact endR_ok [] rfl rfl ⟨rfl, rfl⟩ rfl (fun _ => ⟨rfl, rfl⟩) (by simp)
  conv => whnf
  refine brB_dec (fun h3 => ?_) (fun h3 => ?_)
  rotate_left
  · rw [show fewB x = false by unfold fewB; simp; omega]
    exact endR_ok [] rfl rfl ⟨rfl, rfl⟩ rfl (fun _ => ⟨rfl, rfl⟩) (by simp)
  conv => whnf
  refine brB_dec (fun h4 => ?_) (fun h4 => ?_)
  rotate_left
  · rw [show fewB x = false by unfold fewB; simp; omega]
    exact endR_ok [] rfl rfl ⟨rfl, rfl⟩ rfl (fun _ => ⟨rfl, rfl⟩) (by simp)
  conv => whnf
  refine brB_dec (fun h5 => ?_) (fun h5 => ?_)
  rotate_left
  · rw [show fewB x = false by unfold fewB; simp; omega]
    exact endR_ok [] rfl rfl ⟨rfl, rfl⟩ rfl (fun _ => ⟨rfl, rfl⟩) (by simp)
  have e : fewB x = decide ((x.tries.length : Int) ≤ 300) := by
    unfold fewB
    rw [Bool.eq_iff_iff]
    simp
    omega
  rw [e]
  exact endR_ok [] rfl rfl ⟨rfl, rfl⟩ rfl (fun _ => ⟨rfl, rfl⟩) (by simp)
end Go.Proofs.YtmhnlkakbadkgaaGreat
namespace Go.Proofs.YtmhnlkakbadkgaaGreat
open Go.RowKit Go.Shelf
set_option maxRecDepth 100000
theorem flatOwn : flatK Tryz.prog 9 35 = some [4, 4] := by kernel_rfl
theorem okOwn : eqOk Tryz.prog 35 = true := by kernel_rfl
theorem fitOwn (x y : Own) : fitL [4, 4] (ownL x) (ownL y) = some (decide (x = y)) := by
  obtain ⟨a, b⟩ := x
  obtain ⟨d, e⟩ := y
  have h : fitL [4, 4] (ownL ⟨a, b⟩) (ownL ⟨d, e⟩) = some (a == d && (b == e && true)) := rfl
  rw [h]
  congr 1
  rw [Bool.eq_iff_iff]
  simp
set_option maxHeartbeats 2000000 in
theorem refSameLck_c (x y : Lck) (p r : LckS) (hx : x.small) (hy : y.small) : Cm Tryz.prog 9 [.agg (lckV x p).toArray, .agg (lckV y r).toArray] [] (lckF x p ++ lckF y r) (rets (.bool (decide (x = y)))) := by
  obtain ⟨hx0, hx4, hx5, hx6⟩ := hx
  obtain ⟨hy0, hy4, hy5, hy6⟩ := hy
  unfold lckF
  obtain ⟨tr, ha, tk, la, ow, kn, sl, ti⟩ := x
  obtain ⟨tr', ha', tk', la', ow', kn', sl', ti'⟩ := y
  dsimp only at hx0 hx4 hx5 hx6 hy0 hy4 hy5 hy6
  obtain ⟨p0, a4, c4, a5, c5, a6, c6⟩ := p
  obtain ⟨r0, b4, d4, b5, d5, b6, d6⟩ := r
  refine cm_of (tab := tb) (ok := tbOk) [.g [.v (.bool tr), .v (.bool ha), .v (.int .i64 tk.age), .v (.slice p0.a1 tk.seq.length p0.c1), .v (.slice p0.a2 tk.q.length p0.c2), .v (.slice p0.a3 tk.hs.length p0.c3), .v (.int .i64 tk.c.value), .v (.int .i64 tk.c.floor), .v (.int .u64 tk.c.version), .v (.int .i64 la), .v (.int .i64 ow.node), .v (.int .i64 ow.hop), .v (.slice a4 kn.length c4), .v (.slice a5 sl.length c5), .v (.slice a6 ti.length c6)], .g [.v (.bool tr'), .v (.bool ha'), .v (.int .i64 tk'.age), .v (.slice r0.a1 tk'.seq.length r0.c1), .v (.slice r0.a2 tk'.q.length r0.c2), .v (.slice r0.a3 tk'.hs.length r0.c3), .v (.int .i64 tk'.c.value), .v (.int .i64 tk'.c.floor), .v (.int .u64 tk'.c.version), .v (.int .i64 la'), .v (.int .i64 ow'.node), .v (.int .i64 ow'.hop), .v (.slice b4 kn'.length d4), .v (.slice b5 sl'.length d5), .v (.slice b6 ti'.length d6)]] Tryz.func9 Tryz.ntmps9 rfl rfl (fun _ _ => rfl) ?_
  intro w0 A0
  obtain ⟨Z, hZ⟩ : ∃ Z : Bool, Z = decide ((⟨tr, ha, tk, la, ow, kn, sl, ti⟩ : Lck) = ⟨tr', ha', tk', la', ow', kn', sl', ti'⟩) := ⟨_, rfl⟩
  rw [← hZ]
  simp only [Lck.mk.injEq] at hZ
  conv => whnf
  refine ojs_yd (yd_boolEq (by kernel_rfl) rfl rfl rfl rfl) rfl ?_
  cases h1 : (tr == tr')
  · rw [show Z = false by rw [hZ]; simp at h1; simp [h1]]
    exact endR_ok [] rfl rfl ⟨rfl, rfl⟩ rfl (fun _ => ⟨rfl, rfl⟩) (by simp)
  conv => whnf
  refine ojs_yd (yd_boolEq (by kernel_rfl) rfl rfl rfl rfl) rfl ?_
  cases h2 : (ha == ha')
  · rw [show Z = false by rw [hZ]; simp at h2; simp [h2]]
    exact endR_ok [] rfl rfl ⟨rfl, rfl⟩ rfl (fun _ => ⟨rfl, rfl⟩) (by simp)
  conv => whnf
  refine brB_split (fun h3 => ?_) (fun h3 => ?_)
  rotate_left
  · have h3 : la ≠ la' := by simpa using h3
    rw [show Z = false by rw [hZ]; simp [h3]]
    exact endR_ok [] rfl rfl ⟨rfl, rfl⟩ rfl (fun _ => ⟨rfl, rfl⟩) (by simp)
  have h3 : la = la' := by simpa using h3
  conv => whnf
  refine ojs_yd (yd_eqF (xs := ownL ow) (ys := ownL ow') (r := decide (ow = ow')) (ks := [4, 4]) flatOwn okOwn rfl rfl rfl (fun _ => rfl) (fun _ => rfl) (fitOwn _ _)) rfl ?_
  cases h4 : decide (ow = ow')
  · rw [show Z = false by simp at h4; rw [hZ]; simp [h4]]
    exact endR_ok [] rfl rfl ⟨rfl, rfl⟩ rfl (fun _ => ⟨rfl, rfl⟩) (by simp)
  conv => whnf
  refine ojs_call [] [] rfl rfl rfl rfl rfl rfl rfl (by simp) (fun _ => refTokSame_c tk tk' p0 r0 hx0 hy0) (by simp [tokF]) (.inl rfl) ?_
  rintro e cs F1 _ ⟨rfl, rfl⟩
  cases h5 : decide (tk = tk')
  · rw [show Z = false by simp at h5; rw [hZ]; simp [h5]]
    exact endR_ok [] rfl rfl ⟨rfl, rfl⟩ rfl (fun _ => ⟨rfl, rfl⟩) (by simp)
  conv => whnf
  refine ojs_call [] [] rfl rfl rfl rfl rfl rfl rfl (by simp) (fun _ => refSameSta_c a4 b4 c4 d4 kn kn' hx4 hy4) (by simp) (.inl rfl) ?_
  rintro e cs F1 _ ⟨rfl, rfl⟩
  cases h6 : decide (kn = kn')
  · rw [show Z = false by simp at h6; rw [hZ]; simp [h6]]
    exact endR_ok [] rfl rfl ⟨rfl, rfl⟩ rfl (fun _ => ⟨rfl, rfl⟩) (by simp)
  conv => whnf
  refine ojs_call [] [] rfl rfl rfl rfl rfl rfl rfl (by simp) (fun _ => refSameSlt_c a5 b5 c5 d5 sl sl' hx5 hy5) (by simp) (.inl rfl) ?_
  rintro e cs F1 _ ⟨rfl, rfl⟩
  cases h7 : decide (sl = sl')
  · rw [show Z = false by simp at h7; rw [hZ]; simp [h7]]
    exact endR_ok [] rfl rfl ⟨rfl, rfl⟩ rfl (fun _ => ⟨rfl, rfl⟩) (by simp)
  conv => whnf
  refine ojs_call [] [] rfl rfl rfl rfl rfl rfl rfl (by simp) (fun _ => refSameTry_c a6 b6 c6 d6 ti ti' hx6 hy6) (by simp) (.inl rfl) ?_
  rintro e cs F1 _ ⟨rfl, rfl⟩
  rw [show Z = decide (ti = ti') by simp at h1 h2 h4 h5 h6 h7; rw [hZ]; simp [h1, h2, h3, h4, h5, h6, h7]]
  exact endR_ok [] rfl rfl ⟨rfl, rfl⟩ rfl (fun _ => ⟨rfl, rfl⟩) (by simp)
end Go.Proofs.YtmhnlkakbadkgaaGreat
