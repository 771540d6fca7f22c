/- Part 46 of the proof of LockBacks: contracts of functions that the law reaches, or the rules by which they are walked. No condition. -/
import Derived.Test.YtmhnlkakbadkgaaGreatPkbr
import Derived.Test.YtmhnlkakbadkgaaGreatPkbs
import Derived.Test.YtmhnlkakbadkgaaGreatPkaa
import Derived.ProofKit
import Derived.Lib.SmallJoins
import Derived.Deep.Slices
import Derived.Test.YtmhnlkakbadkgaaGreatPkbi
import Derived.Test.YtmhnlkakbadkgaaGreatRows
namespace Go.Proofs.YtmhnlkakbadkgaaGreat
open Go.RowKit Go.Shelf
set_option maxRecDepth 100000
theorem num_c (z : Int) : Cm Tryz.prog 10 [.int .i64 z] [] [] (rets (.int .i64 z)) := by
  refine cm_of (tab := tb) (ok := tbOk) [.o (.v (.int .i64 z))] Tryz.func10 Tryz.ntmps10 rfl rfl (fun _ _ => rfl) ?_
  intro w0 A0
  exact endR_ok [] rfl rfl ⟨rfl, rfl⟩ rfl (fun _ => ⟨rfl, rfl⟩) (by simp)
theorem same_refl (x : Lck) (p r : LckS) (hx : x.small) : Cm Tryz.prog 9 [.agg (lckV x p).toArray, .agg (lckV x r).toArray] [] (lckF x p ++ lckF x r) (rets (.bool true)) := by
  have := refSameLck_c x x p r hx hx
  rwa [decide_eq_true (rfl : x = x)] at this
theorem few_small {x : Lck} (h : fewB x = true) : x.small := by
  unfold fewB at h
  simp at h
  refine ⟨⟨?_, ?_, ?_⟩, ?_, ?_, ?_⟩ <;> omega
theorem back_small {pl : Plc} {x : Lck} {hop : Int} (h : x.small) : (backX pl x hop).1.small := by
  unfold backX
  cases lockB pl x
  · exact ⟨tok0_small, by simp [lck0], by simp [lck0], by simp [lck0]⟩
  · cases bakP x hop
    · exact h
    · exact h
theorem flatRep : flatK Tryz.prog 9 54 = some [0, 4] := by kernel_rfl
theorem okRep : eqOk Tryz.prog 54 = true := by kernel_rfl
theorem fitRep (b : Bool) (n : Int) : fitL [0, 4] [.bool b, .int .i64 n] [.bool b, .int .i64 n] = some true := by
  have h : fitL [0, 4] [.bool b, .int .i64 n] [.bool b, .int .i64 n] = some (b == b && (n == n && true)) := rfl
  rw [h]
  simp
set_option maxHeartbeats 4000000 in
theorem lawBacks_c (pl : Plc) (x : Lck) (p : LckS) (hop : Int) : Cm Tryz.prog 3 [.agg (plcL pl ++ lckV x p).toArray, .int .i64 hop] [] (lckF x p) (rets (.bool true)) := by
  have hF := few_c x p
  have hW := worksC
  refine cm_of (tab := tb) (ok := tbOk) [.g [.v (.int .i64 pl.n), .v (.int .i64 pl.l), .v (.int .i64 pl.s), .v (.int .i64 pl.me), .v (.int .i64 pl.lock), .v (.int .i64 pl.limit), .v (.int .i64 pl.retry), .v (.int .i64 pl.far), .v (.int .i64 pl.now), .v (.bool pl.still), .v (.bool x.tree), .v (.bool x.has), .v (.int .i64 x.tok.age), .v (.slice p.tok.a1 x.tok.seq.length p.tok.c1), .v (.slice p.tok.a2 x.tok.q.length p.tok.c2), .v (.slice p.tok.a3 x.tok.hs.length p.tok.c3), .v (.int .i64 x.tok.c.value), .v (.int .i64 x.tok.c.floor), .v (.int .u64 x.tok.c.version), .v (.int .i64 x.last), .v (.int .i64 x.own.node), .v (.int .i64 x.own.hop), .v (.slice p.a4 x.known.length p.c4), .v (.slice p.a5 x.slots.length p.c5), .v (.slice p.a6 x.tries.length p.c6)], .o (.v (.int .i64 hop))] Tryz.func3 Tryz.ntmps3 rfl rfl (fun _ _ => rfl) ?_
  intro w0 A0
  refine ojs_call [] [] rfl rfl rfl rfl rfl rfl rfl (by simp) (fun _ => hF) (by simp) (.inl rfl) ?_
  rintro e cs F1 _ ⟨rfl, rfl⟩
  cases hf : fewB x
  · refine ojs_call [] [] rfl rfl rfl rfl rfl rfl rfl (by simp) (fun _ => hW) (by simp) (.inl rfl) ?_
    rintro e cs F1 _ ⟨rfl, rfl⟩
    exact endR_ok [] rfl rfl ⟨rfl, rfl⟩ rfl (fun _ => ⟨rfl, rfl⟩) (by simp)
  have hx := few_small hf
  have hs := back_small (pl := pl) (hop := hop) hx
  refine ojs_call [] [] rfl rfl rfl rfl rfl rfl rfl (by simp) (fun _ => refCopy22_c x p hx) (fun f hf => hf) (.inl rfl) ?_
  rintro e cs F1 _ ⟨p1, rfl, rfl⟩
  have hB := fun p => lockBack_c pl x p hop hx
  have hR := fun p => refBack22_c pl x p hop hx
  generalize backX pl x hop = r at hB hR hs
  obtain ⟨y, b, z⟩ := r
  dsimp only at hs
  refine ojs_call [] [] rfl rfl rfl rfl rfl rfl rfl (by simp) (F0 := lckF x p) (fun _ => hB p) (fun f hf => List.mem_append_right (lckF x p1) hf) (.inl rfl) ?_
  rintro e cs F1 _ ⟨p2, rfl, rfl⟩
  refine ojs_call [] [] rfl rfl rfl rfl rfl rfl rfl (by simp) (F0 := lckF x p1) (fun _ => hR p1) (fun f hf => List.mem_append_right (lckF y p2) (List.mem_append_left (lckF x p) hf)) (.inl rfl) ?_
  rintro e cs F1 _ ⟨p3, rfl, rfl⟩
  refine cjs_drawn [2, 10, 17, 29, 32] (.op 0 <| .op 1 <| .op 2 <| .op 3 <| .op 4 <| .op 5 <| .op 6 <| .op 7 <| .op 8 <| .op 9 <| .op 11 <| .op 10 <| .op 12 <| .op 13 <| .op 14 <| .op 15 <| .op 16 <| .op 18 <| .op 19 <| .op 20 <| .op 21 <| .op 22 <| .op 17 <| .op 23 <| .op 24 <| .op 25 <| .op 26 <| .op 27 <| .op 28 <| .op 29 <| .op 30 <| .op 31 <| .op 32 <| .op 33 <| .op 34 .z) [0, 1, 2, 3] [] [] [] (by kernel_rfl) (by kernel_rfl) rfl (by simp) (by simp) ?_
  intro N
  refine ojs_call [] [] rfl rfl rfl rfl rfl rfl rfl (by simp) (F0 := lckF y p2 ++ lckF y p3) (fun _ => same_refl y p2 p3 hs) (fun f hf => by rcases List.mem_append.1 hf with h | h <;> simp [h]) (.inl rfl) ?_
  rintro e cs F1 _ ⟨rfl, rfl⟩
  refine ⟨⟨(by repeat' (first | exact trivial | refine ⟨Or.inl rfl, ?_⟩ | refine ⟨Or.inr ⟨rfl, Nat.le_of_ble_eq_true rfl, _, rfl, rfl, rfl⟩, ?_⟩)), by simp⟩, ?_⟩
  refine ⟨_, yd_boolEq (by kernel_rfl) rfl rfl rfl rfl, ?_⟩
  rw [show (b == b) = true by cases b <;> rfl]
  refine ojs_call [] [] rfl rfl rfl rfl rfl rfl rfl (by simp) (fun _ => num_c z) (by simp) (.inl rfl) ?_
  rintro e cs F1 _ ⟨rfl, rfl⟩
  refine ⟨⟨(by repeat' (first | exact trivial | refine ⟨Or.inl rfl, ?_⟩ | refine ⟨Or.inr ⟨rfl, Nat.le_of_ble_eq_true rfl, _, rfl, rfl, rfl⟩, ?_⟩)), by simp⟩, ?_⟩
  conv => whnf
  refine brB_true (by simp) ?_
  refine ⟨_, yd_build rfl rfl rfl rfl, ?_⟩
  refine ojs_call [] [] rfl rfl rfl rfl rfl rfl rfl (by simp) (fun _ => report_c x p) (by simp) (.inl rfl) ?_
  rintro e cs F1 _ ⟨rfl, rfl⟩
  refine ⟨⟨(by repeat' (first | exact trivial | refine ⟨Or.inl rfl, ?_⟩ | refine ⟨Or.inr ⟨rfl, Nat.le_of_ble_eq_true rfl, _, rfl, rfl, rfl⟩, ?_⟩)), by simp⟩, ?_⟩
  refine ⟨_, yd_eqF (xs := [.bool x.has, .int .i64 x.last]) (ys := [.bool x.has, .int .i64 x.last]) (r := true) (ks := _) flatRep okRep rfl rfl rfl (fun _ => rfl) (fun _ => rfl) (fitRep _ _), ?_⟩
  refine ojs_call [] [] rfl rfl rfl rfl rfl rfl rfl (by simp) (F0 := lckF x p ++ lckF x p1) (fun _ => same_refl x p p1 hx) (fun f hf => by rcases List.mem_append.1 hf with h | h <;> simp [h]) (.inl rfl) ?_
  rintro e cs F1 _ ⟨rfl, rfl⟩
  refine ⟨⟨(by repeat' (first | exact trivial | refine ⟨Or.inl rfl, ?_⟩ | refine ⟨Or.inr ⟨rfl, Nat.le_of_ble_eq_true rfl, _, rfl, rfl, rfl⟩, ?_⟩)), by simp⟩, ?_⟩
  refine ojs_call [] [] rfl rfl rfl rfl rfl rfl rfl (by simp) (fun _ => hW) (by simp) (.inl rfl) ?_
  rintro e cs F1 _ ⟨rfl, rfl⟩
  refine ⟨⟨(by repeat' (first | exact trivial | refine ⟨Or.inl rfl, ?_⟩ | refine ⟨Or.inr ⟨rfl, Nat.le_of_ble_eq_true rfl, _, rfl, rfl, rfl⟩, ?_⟩)), by simp⟩, ?_⟩
  exact endR_ok [] rfl rfl ⟨rfl, rfl⟩ rfl (fun _ => ⟨rfl, rfl⟩) (by simp)
end Go.Proofs.YtmhnlkakbadkgaaGreat
namespace Go.Proofs.YtmhnlkakbadkgaaGreat
open Go.ChangeShapes Go.WideShapes Go.ChangeAt Go.RowKit Go.Joins Go.Deep
theorem add_none (b off n : Nat) : Addr.add ⟨b, off, none⟩ n = ⟨b, off + n, none⟩ := by
  unfold Addr.add
  split
  · rename_i h; subst h; rfl
  · rfl
theorem range_at {α : Type} {n i : Nat} {f : Nat → α} {x : α} (h : ((List.range n).map f)[i]? = some x) : i < n ∧ x = f i := by
  simp only [List.getElem?_map, Option.map_eq_some_iff] at h
  obtain ⟨j, h1, h2⟩ := h
  obtain ⟨hj, h3⟩ := List.getElem?_eq_some_iff.1 h1
  simp at h3 hj
  exact ⟨hj, by rw [← h2, ← h3]⟩
theorem open_sl {H α : Type} [Inhabited α] {enc : TypeId × Value → H} {P : Program} {W : World} {t e : TypeId} {fuel : Nat} {v : Value} {x : DataW H × List MemPlace} (en : α → List Value) (k : Nat) (ht : P.underlying t = some (.slice e)) (hk : P.cellsOf e = k) (hpos : 0 < k) (hlen : ∀ a, (en a).length = k)
    (hel : ∀ n cs y, DataW.trod enc P W 0 (fun _ => true) true n e cs = some y → ∃ z, cs = en z)
    (h : DataW.trod enc P W 0 (fun _ => true) true fuel t [v] = some x) : ∃ xs, Sl en k W v xs := by
  subst hk
  rcases open_slice ht h with ⟨hcs, _⟩ | ⟨a, len, cap, m, n, D, Pl, hcs, _, hl, _, hm, _, hx⟩
  · simp only [List.cons.injEq, and_true] at hcs
    subst hcs
    exact ⟨[], Sl.nil _ _ _⟩
  · simp only [List.cons.injEq, and_true] at hcs
    subst hcs
    simp only [if_true] at hm
    obtain ⟨f, hf⟩ := choose_lt (n := len) (p := fun i z => W.cells? 0 (a.add (i * P.cellsOf e)) (P.cellsOf e) = some (en z)) (fun i hi => by
      obtain ⟨cs', h1, h2⟩ := hx i (by omega)
      obtain ⟨z, rfl⟩ := hel _ _ _ h2
      exact ⟨z, h1⟩)
    refine ⟨(List.range len).map f, some a, cap, by simp, ⟨by simpa using hl, fun h => by cases h⟩, ?_⟩
    by_cases h0 : len = 0
    · exact .inl (by subst h0; rfl)
    · right
      obtain ⟨b, off, spot⟩ := a
      have hb : b < W.heap.size := by
        have := World.cells?_block (hf 0 (by omega)) hpos
        simpa [Addr.add] using this
      have hs : spot = none := by
        have h1 := (World.cells?_some (hf 0 (by omega))).2.2 0 hpos
        rw [List.getElem?_eq_getElem (by rw [hlen]; exact hpos)] at h1
        have h2 := World.cell?_spot h1
        simpa [Addr.add] using h2
      subst hs
      have hc : ∀ i, i < len → ∀ j u, (en (f i))[j]? = some u → W.cell? ⟨b, off + i * P.cellsOf e + j, none⟩ = some u := fun i hi j u hu => by
        have h1 := (World.cells?_some (hf i hi))
        have hj : j < P.cellsOf e := by rw [← hlen (f i)]; exact (List.getElem?_eq_some_iff.1 hu).1
        have h2 := h1.2.2 j hj
        rw [add_none, add_none, hu] at h2
        exact h2
      refine ⟨b, off, rfl, hb, fun i z hz j u hu => ?_⟩
      obtain ⟨hi, rfl⟩ := range_at hz
      exact hc i hi j u hu
end Go.Proofs.YtmhnlkakbadkgaaGreat
namespace Go.Proofs.YtmhnlkakbadkgaaGreat
open Go.ChangeShapes Go.WideShapes Go.ChangeAt Go.RowKit Go.Joins Go.Deep Go.Shelf
set_option maxRecDepth 100000
theorem Tryz.own : ownKnob Tryz.prog.godebug = none := by kernel_rfl
theorem Tryz.laidOut : laidOutB Tryz.prog = true := by kernel_rfl
theorem Tryz.cellsI : Tryz.prog.cellsOf 2 = 1 := by kernel_rfl
theorem Tryz.cellsN : Tryz.prog.cellsOf 3 = 1 := by kernel_rfl
theorem Tryz.cellsB : Tryz.prog.cellsOf 4 = 1 := by kernel_rfl
theorem Tryz.cellsU : Tryz.prog.cellsOf 29 = 1 := by kernel_rfl
theorem Tryz.cellsMo : Tryz.prog.cellsOf 63 = 1 := by kernel_rfl
theorem Tryz.cellsSt : Tryz.prog.cellsOf 85 = 1 := by kernel_rfl
theorem Tryz.cellsSh : Tryz.prog.cellsOf 23 = 3 := by kernel_rfl
theorem Tryz.cellsCtr : Tryz.prog.cellsOf 31 = 3 := by kernel_rfl
theorem Tryz.cellsSta : Tryz.prog.cellsOf 72 = 4 := by kernel_rfl
theorem Tryz.cellsSlt : Tryz.prog.cellsOf 87 = 8 := by kernel_rfl
theorem Tryz.cellsHd : Tryz.prog.cellsOf 140 = 3 := by kernel_rfl
theorem Tryz.cellsWt : Tryz.prog.cellsOf 137 = 5 := by kernel_rfl
theorem Tryz.cellsTry : Tryz.prog.cellsOf 114 = 3 := by kernel_rfl
theorem Tryz.cellsOwn : Tryz.prog.cellsOf 35 = 2 := by kernel_rfl
theorem Tryz.cellsLI : Tryz.prog.cellsOf 26 = 1 := by kernel_rfl
theorem Tryz.cellsLW : Tryz.prog.cellsOf 27 = 1 := by kernel_rfl
theorem Tryz.cellsLH : Tryz.prog.cellsOf 28 = 1 := by kernel_rfl
theorem Tryz.cellsLS : Tryz.prog.cellsOf 36 = 1 := by kernel_rfl
theorem Tryz.cellsLL : Tryz.prog.cellsOf 37 = 1 := by kernel_rfl
theorem Tryz.cellsLT : Tryz.prog.cellsOf 38 = 1 := by kernel_rfl
theorem Tryz.cellsTok : Tryz.prog.cellsOf 33 = 7 := by kernel_rfl
theorem Tryz.cellsPlc : Tryz.prog.cellsOf 25 = 10 := by kernel_rfl
theorem Tryz.cellsLck : Tryz.prog.cellsOf 40 = 15 := by kernel_rfl
theorem Tryz.cellsAt : Tryz.prog.cellsOf 42 = 25 := by kernel_rfl
theorem trod_fld {H : Type} {enc : TypeId × Value → H} {P : Program} {w : World} {base : Nat} {spare : Nat → Bool} {held : Bool} {fuel : Nat} {t : TypeId} {cs : List Value} {x : DataW H × List MemPlace} {fs : Array Field} (ht : P.underlying t = some (.struct fs)) {i : Nat} {f : Field} (hf0 : fs.toList[i]? = some f) (h : DataW.trod enc P w base spare held fuel t cs = some x) :
    ∃ n y, DataW.trod enc P w base spare held n f.type ((cs.drop f.offset).take (P.cellsOf f.type)) = some y := by
  have hf : fs[i]? = some f := by simpa using hf0
  obtain ⟨xs, n, _, _, _, hl, hi⟩ := DataW.trod_struct ht h
  have h1 := hi i f hf
  have hlt : i < xs.length := by rw [hl]; exact (Array.getElem?_eq_some_iff.1 hf).1
  rw [List.getElem?_eq_getElem hlt] at h1
  exact ⟨n, _, h1⟩
theorem trod_len {H : Type} {enc : TypeId × Value → H} {P : Program} {w : World} {base : Nat} {spare : Nat → Bool} {held : Bool} {fuel : Nat} {t : TypeId} {cs : List Value} {x : DataW H × List MemPlace} {fs : Array Field} (ht : P.underlying t = some (.struct fs)) (h : DataW.trod enc P w base spare held fuel t cs = some x) : cs.length = P.cellsOf t := by
  obtain ⟨_, _, _, _, h1, _⟩ := DataW.trod_struct ht h
  exact h1
theorem open_ctrC {H : Type} {enc : TypeId × Value → H} {W : World} {n : Nat} {cs : List Value} {y : DataW H × List MemPlace} (h : DataW.trod enc Tryz.prog W 0 (fun _ => true) true n 31 cs = some y) : ∃ z : Ctr, cs = ctrL z := by
  have hl := trod_len Tryz.underlying31 h
  rw [Tryz.cellsCtr] at hl
  match cs, hl with
  | [c0, c1, c2], _ =>
    obtain ⟨n0, y0, h0⟩ := trod_fld Tryz.underlying31 (i := 0) rfl h
    simp only [Tryz.cellsI] at h0
    obtain ⟨x0, e0, _, _⟩ := DataW.trod_int Tryz.underlying2 h0
    simp at e0
    obtain ⟨n1, y1, h1⟩ := trod_fld Tryz.underlying31 (i := 1) rfl h
    simp only [Tryz.cellsI] at h1
    obtain ⟨x1, e1, _, _⟩ := DataW.trod_int Tryz.underlying2 h1
    simp at e1
    obtain ⟨n2, y2, h2⟩ := trod_fld Tryz.underlying31 (i := 2) rfl h
    simp only [Tryz.cellsU] at h2
    obtain ⟨x2, e2, _, _⟩ := DataW.trod_int Tryz.underlying29 h2
    simp at e2
    subst e0
    subst e1
    subst e2
    exact ⟨⟨x0, x1, x2⟩, rfl⟩
theorem open_staC {H : Type} {enc : TypeId × Value → H} {W : World} {n : Nat} {cs : List Value} {y : DataW H × List MemPlace} (h : DataW.trod enc Tryz.prog W 0 (fun _ => true) true n 72 cs = some y) : ∃ z : Sta, cs = staL z := by
  have hl := trod_len Tryz.underlying72 h
  rw [Tryz.cellsSta] at hl
  match cs, hl with
  | [c0, c1, c2, c3], _ =>
    obtain ⟨n0, y0, h0⟩ := trod_fld Tryz.underlying72 (i := 0) rfl h
    simp only [Tryz.cellsI] at h0
    obtain ⟨x0, e0, _, _⟩ := DataW.trod_int Tryz.underlying2 h0
    simp at e0
    obtain ⟨n1, y1, h1⟩ := trod_fld Tryz.underlying72 (i := 1) rfl h
    simp only [Tryz.cellsB] at h1
    obtain ⟨x1, e1, _⟩ := DataW.trod_bool Tryz.underlying4 h1
    simp at e1
    obtain ⟨n2, y2, h2⟩ := trod_fld Tryz.underlying72 (i := 2) rfl h
    simp only [Tryz.cellsMo] at h2
    obtain ⟨x2, e2, _, _⟩ := DataW.trod_int Tryz.underlying63 h2
    simp at e2
    obtain ⟨n3, y3, h3⟩ := trod_fld Tryz.underlying72 (i := 3) rfl h
    simp only [Tryz.cellsN] at h3
    obtain ⟨x3, e3, _, _⟩ := DataW.trod_int Tryz.underlying3 h3
    simp at e3
    subst e0
    subst e1
    subst e2
    subst e3
    exact ⟨⟨x0, x1, x2, x3⟩, rfl⟩
theorem open_sltC {H : Type} {enc : TypeId × Value → H} {W : World} {n : Nat} {cs : List Value} {y : DataW H × List MemPlace} (h : DataW.trod enc Tryz.prog W 0 (fun _ => true) true n 87 cs = some y) : ∃ z : Slt, cs = sltL z := by
  have hl := trod_len Tryz.underlying87 h
  rw [Tryz.cellsSlt] at hl
  match cs, hl with
  | [c0, c1, c2, c3, c4, c5, c6, c7], _ =>
    obtain ⟨n0, y0, h0⟩ := trod_fld Tryz.underlying87 (i := 0) rfl h
    simp only [Tryz.cellsI] at h0
    obtain ⟨x0, e0, _, _⟩ := DataW.trod_int Tryz.underlying2 h0
    simp at e0
    obtain ⟨n1, y1, h1⟩ := trod_fld Tryz.underlying87 (i := 1) rfl h
    simp only [Tryz.cellsSt] at h1
    obtain ⟨x1, e1, _, _⟩ := DataW.trod_int Tryz.underlying85 h1
    simp at e1
    obtain ⟨n2, y2, h2⟩ := trod_fld Tryz.underlying87 (i := 2) rfl h
    simp only [Tryz.cellsMo] at h2
    obtain ⟨x2, e2, _, _⟩ := DataW.trod_int Tryz.underlying63 h2
    simp at e2
    obtain ⟨n3, y3, h3⟩ := trod_fld Tryz.underlying87 (i := 3) rfl h
    simp only [Tryz.cellsN] at h3
    obtain ⟨x3, e3, _, _⟩ := DataW.trod_int Tryz.underlying3 h3
    simp at e3
    obtain ⟨n4, y4, h4⟩ := trod_fld Tryz.underlying87 (i := 4) rfl h
    simp only [Tryz.cellsI] at h4
    obtain ⟨x4, e4, _, _⟩ := DataW.trod_int Tryz.underlying2 h4
    simp at e4
    obtain ⟨n5, y5, h5⟩ := trod_fld Tryz.underlying87 (i := 5) rfl h
    simp only [Tryz.cellsCtr] at h5
    obtain ⟨x5, e5⟩ := open_ctrC h5
    simp [ctrL] at e5
    subst e0
    subst e1
    subst e2
    subst e3
    subst e4
    obtain ⟨rfl, rfl, rfl⟩ := e5
    exact ⟨⟨x0, x1, x2, x3, x4, x5⟩, rfl⟩
theorem open_hdC {H : Type} {enc : TypeId × Value → H} {W : World} {n : Nat} {cs : List Value} {y : DataW H × List MemPlace} (h : DataW.trod enc Tryz.prog W 0 (fun _ => true) true n 140 cs = some y) : ∃ z : Hd, cs = hdL z := by
  have hl := trod_len Tryz.underlying140 h
  rw [Tryz.cellsHd] at hl
  match cs, hl with
  | [c0, c1, c2], _ =>
    obtain ⟨n0, y0, h0⟩ := trod_fld Tryz.underlying140 (i := 0) rfl h
    simp only [Tryz.cellsN] at h0
    obtain ⟨x0, e0, _, _⟩ := DataW.trod_int Tryz.underlying3 h0
    simp at e0
    obtain ⟨n1, y1, h1⟩ := trod_fld Tryz.underlying140 (i := 1) rfl h
    simp only [Tryz.cellsI] at h1
    obtain ⟨x1, e1, _, _⟩ := DataW.trod_int Tryz.underlying2 h1
    simp at e1
    obtain ⟨n2, y2, h2⟩ := trod_fld Tryz.underlying140 (i := 2) rfl h
    simp only [Tryz.cellsMo] at h2
    obtain ⟨x2, e2, _, _⟩ := DataW.trod_int Tryz.underlying63 h2
    simp at e2
    subst e0
    subst e1
    subst e2
    exact ⟨⟨x0, x1, x2⟩, rfl⟩
theorem open_wtC {H : Type} {enc : TypeId × Value → H} {W : World} {n : Nat} {cs : List Value} {y : DataW H × List MemPlace} (h : DataW.trod enc Tryz.prog W 0 (fun _ => true) true n 137 cs = some y) : ∃ z : Wt, cs = wtL z := by
  have hl := trod_len Tryz.underlying137 h
  rw [Tryz.cellsWt] at hl
  match cs, hl with
  | [c0, c1, c2, c3, c4], _ =>
    obtain ⟨n0, y0, h0⟩ := trod_fld Tryz.underlying137 (i := 0) rfl h
    simp only [Tryz.cellsN] at h0
    obtain ⟨x0, e0, _, _⟩ := DataW.trod_int Tryz.underlying3 h0
    simp at e0
    obtain ⟨n1, y1, h1⟩ := trod_fld Tryz.underlying137 (i := 1) rfl h
    simp only [Tryz.cellsI] at h1
    obtain ⟨x1, e1, _, _⟩ := DataW.trod_int Tryz.underlying2 h1
    simp at e1
    obtain ⟨n2, y2, h2⟩ := trod_fld Tryz.underlying137 (i := 2) rfl h
    simp only [Tryz.cellsMo] at h2
    obtain ⟨x2, e2, _, _⟩ := DataW.trod_int Tryz.underlying63 h2
    simp at e2
    obtain ⟨n3, y3, h3⟩ := trod_fld Tryz.underlying137 (i := 3) rfl h
    simp only [Tryz.cellsN] at h3
    obtain ⟨x3, e3, _, _⟩ := DataW.trod_int Tryz.underlying3 h3
    simp at e3
    obtain ⟨n4, y4, h4⟩ := trod_fld Tryz.underlying137 (i := 4) rfl h
    simp only [Tryz.cellsN] at h4
    obtain ⟨x4, e4, _, _⟩ := DataW.trod_int Tryz.underlying3 h4
    simp at e4
    subst e0
    subst e1
    subst e2
    subst e3
    subst e4
    exact ⟨⟨x0, x1, x2, x3, x4⟩, rfl⟩
theorem open_tryC {H : Type} {enc : TypeId × Value → H} {W : World} {n : Nat} {cs : List Value} {y : DataW H × List MemPlace} (h : DataW.trod enc Tryz.prog W 0 (fun _ => true) true n 114 cs = some y) : ∃ z : Try, cs = tryL z := by
  have hl := trod_len Tryz.underlying114 h
  rw [Tryz.cellsTry] at hl
  match cs, hl with
  | [c0, c1, c2], _ =>
    obtain ⟨n0, y0, h0⟩ := trod_fld Tryz.underlying114 (i := 0) rfl h
    simp only [Tryz.cellsI] at h0
    obtain ⟨x0, e0, _, _⟩ := DataW.trod_int Tryz.underlying2 h0
    simp at e0
    obtain ⟨n1, y1, h1⟩ := trod_fld Tryz.underlying114 (i := 1) rfl h
    simp only [Tryz.cellsI] at h1
    obtain ⟨x1, e1, _, _⟩ := DataW.trod_int Tryz.underlying2 h1
    simp at e1
    obtain ⟨n2, y2, h2⟩ := trod_fld Tryz.underlying114 (i := 2) rfl h
    simp only [Tryz.cellsI] at h2
    obtain ⟨x2, e2, _, _⟩ := DataW.trod_int Tryz.underlying2 h2
    simp at e2
    subst e0
    subst e1
    subst e2
    exact ⟨⟨x0, x1, x2⟩, rfl⟩
theorem open_ownC {H : Type} {enc : TypeId × Value → H} {W : World} {n : Nat} {cs : List Value} {y : DataW H × List MemPlace} (h : DataW.trod enc Tryz.prog W 0 (fun _ => true) true n 35 cs = some y) : ∃ z : Own, cs = ownL z := by
  have hl := trod_len Tryz.underlying35 h
  rw [Tryz.cellsOwn] at hl
  match cs, hl with
  | [c0, c1], _ =>
    obtain ⟨n0, y0, h0⟩ := trod_fld Tryz.underlying35 (i := 0) rfl h
    simp only [Tryz.cellsN] at h0
    obtain ⟨x0, e0, _, _⟩ := DataW.trod_int Tryz.underlying3 h0
    simp at e0
    obtain ⟨n1, y1, h1⟩ := trod_fld Tryz.underlying35 (i := 1) rfl h
    simp only [Tryz.cellsI] at h1
    obtain ⟨x1, e1, _, _⟩ := DataW.trod_int Tryz.underlying2 h1
    simp at e1
    subst e0
    subst e1
    exact ⟨⟨x0, x1⟩, rfl⟩
theorem open_shapeC {H : Type} {enc : TypeId × Value → H} {W : World} {n : Nat} {cs : List Value} {y : DataW H × List MemPlace} (h : DataW.trod enc Tryz.prog W 0 (fun _ => true) true n 23 cs = some y) : ∃ n l s : Int, cs = [.int .i64 n, .int .i64 l, .int .i64 s] := by
  have hl := trod_len Tryz.underlying23 h
  rw [Tryz.cellsSh] at hl
  match cs, hl with
  | [c0, c1, c2], _ =>
    obtain ⟨n0, y0, h0⟩ := trod_fld Tryz.underlying23 (i := 0) rfl h
    simp only [Tryz.cellsN] at h0
    obtain ⟨x0, e0, _, _⟩ := DataW.trod_int Tryz.underlying3 h0
    simp at e0
    obtain ⟨n1, y1, h1⟩ := trod_fld Tryz.underlying23 (i := 1) rfl h
    simp only [Tryz.cellsN] at h1
    obtain ⟨x1, e1, _, _⟩ := DataW.trod_int Tryz.underlying3 h1
    simp at e1
    obtain ⟨n2, y2, h2⟩ := trod_fld Tryz.underlying23 (i := 2) rfl h
    simp only [Tryz.cellsN] at h2
    obtain ⟨x2, e2, _, _⟩ := DataW.trod_int Tryz.underlying3 h2
    simp at e2
    subst e0
    subst e1
    subst e2
    exact ⟨x0, x1, x2, rfl⟩
theorem open_plcC {H : Type} {enc : TypeId × Value → H} {W : World} {n : Nat} {cs : List Value} {y : DataW H × List MemPlace} (h : DataW.trod enc Tryz.prog W 0 (fun _ => true) true n 25 cs = some y) : ∃ z : Plc, cs = plcL z := by
  have hl := trod_len Tryz.underlying25 h
  rw [Tryz.cellsPlc] at hl
  match cs, hl with
  | [c0, c1, c2, c3, c4, c5, c6, c7, c8, c9], _ =>
    obtain ⟨n0, y0, h0⟩ := trod_fld Tryz.underlying25 (i := 0) rfl h
    simp only [Tryz.cellsSh] at h0
    obtain ⟨nS, lS, sS, e0⟩ := open_shapeC h0
    simp at e0
    obtain ⟨n1, y1, h1⟩ := trod_fld Tryz.underlying25 (i := 1) rfl h
    simp only [Tryz.cellsN] at h1
    obtain ⟨x1, e1, _, _⟩ := DataW.trod_int Tryz.underlying3 h1
    simp at e1
    obtain ⟨n2, y2, h2⟩ := trod_fld Tryz.underlying25 (i := 2) rfl h
    simp only [Tryz.cellsN] at h2
    obtain ⟨x2, e2, _, _⟩ := DataW.trod_int Tryz.underlying3 h2
    simp at e2
    obtain ⟨n3, y3, h3⟩ := trod_fld Tryz.underlying25 (i := 3) rfl h
    simp only [Tryz.cellsN] at h3
    obtain ⟨x3, e3, _, _⟩ := DataW.trod_int Tryz.underlying3 h3
    simp at e3
    obtain ⟨n4, y4, h4⟩ := trod_fld Tryz.underlying25 (i := 4) rfl h
    simp only [Tryz.cellsI] at h4
    obtain ⟨x4, e4, _, _⟩ := DataW.trod_int Tryz.underlying2 h4
    simp at e4
    obtain ⟨n5, y5, h5⟩ := trod_fld Tryz.underlying25 (i := 5) rfl h
    simp only [Tryz.cellsI] at h5
    obtain ⟨x5, e5, _, _⟩ := DataW.trod_int Tryz.underlying2 h5
    simp at e5
    obtain ⟨n6, y6, h6⟩ := trod_fld Tryz.underlying25 (i := 6) rfl h
    simp only [Tryz.cellsI] at h6
    obtain ⟨x6, e6, _, _⟩ := DataW.trod_int Tryz.underlying2 h6
    simp at e6
    obtain ⟨n7, y7, h7⟩ := trod_fld Tryz.underlying25 (i := 7) rfl h
    simp only [Tryz.cellsB] at h7
    obtain ⟨x7, e7, _⟩ := DataW.trod_bool Tryz.underlying4 h7
    simp at e7
    obtain ⟨rfl, rfl, rfl⟩ := e0
    subst e1
    subst e2
    subst e3
    subst e4
    subst e5
    subst e6
    subst e7
    exact ⟨⟨nS, lS, sS, x1, x2, x3, x4, x5, x6, x7⟩, rfl⟩
theorem open_intC {H : Type} {enc : TypeId × Value → H} {W : World} {n : Nat} {cs : List Value} {y : DataW H × List MemPlace} (h : DataW.trod enc Tryz.prog W 0 (fun _ => true) true n 2 cs = some y) : ∃ z : Int, cs = encI z := by
  obtain ⟨x, e, _, _⟩ := DataW.trod_int Tryz.underlying2 h
  exact ⟨x, e⟩
instance : Inhabited Wt := ⟨⟨0, 0, 0, 0, 0⟩⟩
instance : Inhabited Hd := ⟨⟨0, 0, 0⟩⟩
instance : Inhabited Sta := ⟨⟨0, false, 0, 0⟩⟩
instance : Inhabited Slt := ⟨⟨0, 0, 0, 0, 0, ⟨0, 0, 0⟩⟩⟩
instance : Inhabited Try := ⟨⟨0, 0, 0⟩⟩
theorem open_tokC {H : Type} {enc : TypeId × Value → H} {W : World} {n : Nat} {cs : List Value} {y : DataW H × List MemPlace} (h : DataW.trod enc Tryz.prog W 0 (fun _ => true) true n 33 cs = some y) : ∃ (x : Tok) (p : Sls), cs = tokV x p ∧ Sl encI 1 W (.slice p.a1 x.seq.length p.c1) x.seq ∧ Sl wtL 5 W (.slice p.a2 x.q.length p.c2) x.q ∧ Sl hdL 3 W (.slice p.a3 x.hs.length p.c3) x.hs := by
  have hl := trod_len Tryz.underlying33 h
  rw [Tryz.cellsTok] at hl
  match cs, hl with
  | [c0, c1, c2, c3, c4, c5, c6], _ =>
    obtain ⟨n0, y0, h0⟩ := trod_fld Tryz.underlying33 (i := 0) rfl h
    simp only [Tryz.cellsI] at h0
    obtain ⟨x0, e0, _, _⟩ := DataW.trod_int Tryz.underlying2 h0
    simp at e0
    obtain ⟨n1, y1, h1⟩ := trod_fld Tryz.underlying33 (i := 1) rfl h
    simp only [Tryz.cellsLI] at h1
    obtain ⟨x1, hS1⟩ := open_sl encI 1 Tryz.underlying26 Tryz.cellsI (by decide) (fun _ => rfl) (fun n cs y hy => open_intC hy) (v := c1) h1
    obtain ⟨n2, y2, h2⟩ := trod_fld Tryz.underlying33 (i := 2) rfl h
    simp only [Tryz.cellsLW] at h2
    obtain ⟨x2, hS2⟩ := open_sl wtL 5 Tryz.underlying27 Tryz.cellsWt (by decide) wtL_len (fun n cs y hy => open_wtC hy) (v := c2) h2
    obtain ⟨n3, y3, h3⟩ := trod_fld Tryz.underlying33 (i := 3) rfl h
    simp only [Tryz.cellsLH] at h3
    obtain ⟨x3, hS3⟩ := open_sl hdL 3 Tryz.underlying28 Tryz.cellsHd (by decide) hdL_len (fun n cs y hy => open_hdC hy) (v := c3) h3
    obtain ⟨n4, y4, h4⟩ := trod_fld Tryz.underlying33 (i := 4) rfl h
    simp only [Tryz.cellsCtr] at h4
    obtain ⟨x4, e4⟩ := open_ctrC h4
    simp [ctrL] at e4
    subst e0
    obtain ⟨a1, q1, rfl⟩ := hS1.shape
    obtain ⟨a2, q2, rfl⟩ := hS2.shape
    obtain ⟨a3, q3, rfl⟩ := hS3.shape
    obtain ⟨rfl, rfl, rfl⟩ := e4
    exact ⟨⟨x0, x1, x2, x3, x4⟩, ⟨a1, q1, a2, q2, a3, q3⟩, rfl, hS1, hS2, hS3⟩
theorem open_lckC {H : Type} {enc : TypeId × Value → H} {W : World} {n : Nat} {cs : List Value} {y : DataW H × List MemPlace} (h : DataW.trod enc Tryz.prog W 0 (fun _ => true) true n 40 cs = some y) : ∃ (x : Lck) (p : LckS), cs = lckV x p ∧ ∀ f ∈ lckF x p, f.h (fun b => b < W.heap.size) W := by
  have hl := trod_len Tryz.underlying40 h
  rw [Tryz.cellsLck] at hl
  match cs, hl with
  | [c0, c1, c2, c3, c4, c5, c6, c7, c8, c9, c10, c11, c12, c13, c14], _ =>
    obtain ⟨n0, y0, h0⟩ := trod_fld Tryz.underlying40 (i := 0) rfl h
    simp only [Tryz.cellsB] at h0
    obtain ⟨x0, e0, _⟩ := DataW.trod_bool Tryz.underlying4 h0
    simp at e0
    obtain ⟨n1, y1, h1⟩ := trod_fld Tryz.underlying40 (i := 1) rfl h
    simp only [Tryz.cellsB] at h1
    obtain ⟨x1, e1, _⟩ := DataW.trod_bool Tryz.underlying4 h1
    simp at e1
    obtain ⟨n2, y2, h2⟩ := trod_fld Tryz.underlying40 (i := 2) rfl h
    simp only [Tryz.cellsTok] at h2
    obtain ⟨x2, p2, e2, g1, g2, g3⟩ := open_tokC h2
    simp [tokV] at e2
    obtain ⟨n3, y3, h3⟩ := trod_fld Tryz.underlying40 (i := 3) rfl h
    simp only [Tryz.cellsI] at h3
    obtain ⟨x3, e3, _, _⟩ := DataW.trod_int Tryz.underlying2 h3
    simp at e3
    obtain ⟨n4, y4, h4⟩ := trod_fld Tryz.underlying40 (i := 4) rfl h
    simp only [Tryz.cellsOwn] at h4
    obtain ⟨x4, e4⟩ := open_ownC h4
    simp [ownL] at e4
    obtain ⟨n5, y5, h5⟩ := trod_fld Tryz.underlying40 (i := 5) rfl h
    simp only [Tryz.cellsLS] at h5
    obtain ⟨x5, hS5⟩ := open_sl staL 4 Tryz.underlying36 Tryz.cellsSta (by decide) staL_len (fun n cs y hy => open_staC hy) (v := c12) h5
    obtain ⟨n6, y6, h6⟩ := trod_fld Tryz.underlying40 (i := 6) rfl h
    simp only [Tryz.cellsLL] at h6
    obtain ⟨x6, hS6⟩ := open_sl sltL 8 Tryz.underlying37 Tryz.cellsSlt (by decide) sltL_len (fun n cs y hy => open_sltC hy) (v := c13) h6
    obtain ⟨n7, y7, h7⟩ := trod_fld Tryz.underlying40 (i := 7) rfl h
    simp only [Tryz.cellsLT] at h7
    obtain ⟨x7, hS7⟩ := open_sl tryL 3 Tryz.underlying38 Tryz.cellsTry (by decide) tryL_len (fun n cs y hy => open_tryC hy) (v := c14) h7
    subst e0
    subst e1
    obtain ⟨rfl, rfl, rfl, rfl, rfl, rfl, rfl⟩ := e2
    subst e3
    obtain ⟨rfl, rfl⟩ := e4
    obtain ⟨a5, q5, rfl⟩ := hS5.shape
    obtain ⟨a6, q6, rfl⟩ := hS6.shape
    obtain ⟨a7, q7, rfl⟩ := hS7.shape
    exact ⟨⟨x0, x1, x2, x3, x4, x5, x6, x7⟩, ⟨p2, a5, q5, a6, q6, a7, q7⟩, rfl, fun f hf => by
      simp only [lckF, List.mem_cons, List.not_mem_nil, or_false] at hf
      rcases hf with rfl | rfl | rfl | rfl | rfl | rfl
      · exact slF_of_sl g1
      · exact slF_of_sl g2
      · exact slF_of_sl g3
      · exact slF_of_sl hS5
      · exact slF_of_sl hS6
      · exact slF_of_sl hS7⟩
theorem open_at {H : Type} {enc : TypeId × Value → H} {W : World} {base : Nat} {v : Value} {d : DataW H} {p : List MemPlace} (hv : Value.okWide Tryz.prog W .any base 42 v)
    (h : DataW.Trod enc Tryz.prog W 0 (fun _ => true) true 42 v d p) : ∃ (pl : Plc) (x : Lck) (q : LckS), v = .agg (plcL pl ++ lckV x q).toArray ∧ ∀ f ∈ lckF x q, f.h (fun b => b < W.heap.size) W := by
  obtain ⟨cs, rfl, hsz⟩ := okWide_struct Tryz.underlying42 hv
  rw [Tryz.cellsAt] at hsz
  obtain ⟨l⟩ := cs
  have hsz : l.length = 25 := by simpa using hsz
  obtain ⟨fuel, hf⟩ := h
  have h : DataW.trod enc Tryz.prog W 0 (fun _ => true) true fuel 42 l = some (d, p) := hf
  obtain ⟨n0, y0, h0⟩ := trod_fld Tryz.underlying42 (i := 0) rfl h
  obtain ⟨n1, y1, h1⟩ := trod_fld Tryz.underlying42 (i := 1) rfl h
  simp only [Tryz.cellsPlc] at h0
  simp only [Tryz.cellsLck] at h1
  obtain ⟨pl, e0⟩ := open_plcC h0
  obtain ⟨x, q, e1, hF⟩ := open_lckC h1
  refine ⟨pl, x, q, ?_, hF⟩
  have e : l = l.take 10 ++ (l.drop 10).take 15 := by
    conv => lhs; rw [← List.take_append_drop 10 l]
    congr 1
    rw [List.take_of_length_le]
    simp [hsz]
  have e0' : l.take 10 = plcL pl := by simpa using e0
  rw [e, e0', e1]
end Go.Proofs.YtmhnlkakbadkgaaGreat
