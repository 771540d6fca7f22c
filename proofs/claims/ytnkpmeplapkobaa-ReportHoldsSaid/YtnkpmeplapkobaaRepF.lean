/- Reports: Missing's collecting. -/
import Derived.Test.YtnkpmeplapkobaaRepE
import Derived.Test.YtnkpmeplapkobaaLib2
import Derived.Deep.Light
namespace Go.Proofs.Ytnkpmeplapkobaa
open Go.RowKit Go.Shelf

/-- A tally's rows, all outside of the blocks from lo up to hi. -/
def Rows2F (lo hi : Nat) (w : World) (v : Value) (t : List (List (Bool × Int))) : Prop :=
  ∃ vs : List Value, SlF lo hi (encV id) 1 w v vs ∧ vs.length = t.length ∧ ∀ (i : Nat) (u : Value) (xs : List (Bool × Int)), vs[i]? = some u → t[i]? = some xs → SlF lo hi encR 2 w u xs
theorem Rows2F.rows {lo hi : Nat} {w : World} {v : Value} {t : List (List (Bool × Int))} (h : Rows2F lo hi w v t) : Rows2 w v t := by
  obtain ⟨vs, h1, h2, h3⟩ := h
  exact ⟨vs, h1.sl, h2, fun i u xs hu hx => (h3 i u xs hu hx).sl⟩
theorem Rows2F.rnd {lo hi : Nat} {w w' : World} {v : Value} {t : List (List (Bool × Int))} (h : Rows2F lo hi w v t) (hr : Rnd lo hi w w') : Rows2F lo hi w' v t := by
  obtain ⟨vs, h1, h2, h3⟩ := h
  exact ⟨vs, h1.rnd hr, h2, fun i u xs hu hx => (h3 i u xs hu hx).rnd hr⟩
theorem Rows2.outside {hi : Nat} {w : World} {v : Value} {t : List (List (Bool × Int))} (h : Rows2 w v t) : Rows2F w.heap.size hi w v t := by
  obtain ⟨vs, h1, h2, h3⟩ := h
  exact ⟨vs, h1.outside, h2, fun i u xs hu hx => (h3 i u xs hu hx).outside⟩

theorem clear_any (w : World) : Calls Try.prog 29 #[] w fun e w' => e = .returned (.tuple #[]) ∧ w' = w := by
  go_enter Try.func29, Try.ntmps29
  go_wp2
  go_end0
  exact ⟨rfl, rfl⟩

/-- What the collecting leaves: the missing nodes in block L, of a tally; none else. -/
def ColPost (w : World) (L : Nat) (xs : List Nat) (e : Ending) (w' : World) : Prop :=
  e = .returned (.tuple #[]) ∧ ∃ sw, w'.heap[L]? = some (.cells #[sw] 29 (0, 0)) ∧ w'.ownsRow w.heap.size 3 1 sw xs.length ((natI xs).flatMap encI) ∧ Rnd L (L + 1 + 1) w w'

set_option maxRecDepth 100000 in
set_option maxHeartbeats 2000000 in
theorem collect_bad (n l s : Int) (w : World) (v : Value) (t : List (List (Bool × Int))) (Z : Nat) (hv : Rows2 w v t) (hlen : ∀ r ∈ t, r.length ≤ 1099511627776) (ht : tallyB n l s t = false)
    (q0 : w.heap[Z]? = some (.cells #[.int .i64 n, .int .i64 l, .int .i64 s] 23 (0, 0))) (q1 : w.heap[Z + 1]? = some (.cells #[v] 26 (0, 0))) (q2 : w.heap[Z + 1 + 1]? = some (.cells #[.slice none 0 0] 29 (0, 0))) (q3 : w.heap[Z + 1 + 1 + 1]? = some (.cells #[.int .i64 0] 45 (0, 0))) :
    Calls Try.prog 27 #[.pointer (some ⟨Z + 1 + 1 + 1, 0, none⟩), .pointer (some ⟨Z, 0, none⟩), .pointer (some ⟨Z + 1, 0, none⟩), .pointer (some ⟨Z + 1 + 1, 0, none⟩)] w (ColPost w (Z + 1 + 1) []) := by
  obtain ⟨a, cap, rfl⟩ := hv.shape
  have KO := Lib.hid (fun (W : World) (h : Rows2 W (.slice a t.length cap) t) => of_any n l s W _ t h hlen)
  have HV := Lib.hid hv
  have HT := Lib.hid ht
  have p0 := cells3 q0
  have p1 := cells1 q1
  have Q2 := Lib.hid q2
  have Q3 := Lib.hid q3
  clear hv ht q0 q1 q2 q3 hlen
  go_enter_defers Try.func27, Try.ntmps27
  go_wp2_with fail
  refine (KO.out w HV.out).mono ?_
  rintro e W1 ⟨⟨h, _⟩ | ⟨_, rfl⟩, hB⟩
  · rw [HT.out] at h; cases h
  · refine leaves_cons (f := 28) (args := #[.pointer (some ⟨Z + 1 + 1 + 1, 0, none⟩), .func (.func 29) #[] #[]]) (by simp) (by simp [go_sem]) ?_
    have Q3w := blk_keep Q3.out hB
    have Q2w := blk_keep Q2.out hB
    refine (caught_up (Z + 1 + 1 + 1) 29 #[] 2 [] W1 (fun w' => w' = W1) (enters_of Try.func29 (by kernel_rfl) rfl) (clear_any W1) (fun w' h => by rw [h]; exact ⟨_, Q3w⟩)).mono ?_
    rintro e u' w'' ⟨rfl, rfl, w1, rfl, rfl⟩
    have key : ColPost w (Z + 1 + 1) [] (.returned (.tuple #[])) (w1.setCell ⟨Z + 1 + 1 + 1, 0, none⟩ (.int .i64 2)) :=
      ⟨rfl, _, blk_set_other _ Q2w (by dsimp only; omega), World.ownsRow_nil _ _ _ _, (Rnd.of_below hB).setCell (p := ⟨_, _, _⟩) (.inl (by dsimp only; omega)) _⟩
    simpa [Leaves, settle, results, Try.results27] using key

/-- What the collecting's rounds keep. -/
def RelC (V : World) (Z U : Nat) (done : List Nat) (wr : World) : Prop :=
  ∃ sw, wr.heap[Z + 1 + 1]? = some (.cells #[sw] 29 (0, 0)) ∧ wr.ownsRow (U + 1) 3 1 sw done.length ((natI done).flatMap encI) ∧ Rnd (Z + 1 + 1) (Z + 1 + 1 + 1) V wr
theorem relC_yes {V X W' : World} {Z U k : Nat} {done : List Nat} {sw sw' : Value} {o : Obj} (hV : V.heap.size = U + 1) (hUZ : Z + 1 + 1 + 1 < U) (qL : X.heap[Z + 1 + 1]? = some (.cells #[sw] 29 (0, 0)))
    (own : X.ownsRow (U + 1) 3 1 sw done.length ((natI done).flatMap encI)) (hR : Rnd (Z + 1 + 1) (Z + 1 + 1 + 1) V X)
    (hown : W'.ownsRow (U + 1) 3 1 sw' (done.length + 1) ((natI done).flatMap encI ++ [.int .i64 (k : Int)])) (hg : (X.alloc o).grownBy W' sw.ownBlock) :
    RelC V Z U (done ++ [k]) (W'.setCell ⟨Z + 1 + 1, 0, none⟩ sw') := by
  have hr := own_blk own
  have q1 := (hg.block (Z + 1 + 1) (lt_of_block (blk_old o qL)) (fun e => by have := hr _ e.symm; omega)).trans (blk_old o qL)
  refine ⟨sw', ?_, ?_, ((hR.alloc o).grown hg (fun g e => .inl (by have := hr g e; omega))).setCell (p := ⟨_, _, _⟩) (.inl (by dsimp only; omega)) _⟩
  · have := blk_set (i := 0) sw' q1
    simpa using this
  · rw [List.length_append, List.length_singleton]
    unfold natI at hown ⊢
    rw [List.map_append, List.flatMap_append]
    exact ownsRow_setCell_below hown (a := ⟨_, _, _⟩) (by dsimp only; omega) _

set_option maxRecDepth 100000 in
set_option maxHeartbeats 4000000 in
theorem collect_ok (n l s : Int) (w : World) (v : Value) (t : List (List (Bool × Int))) (Z : Nat) (hv : Rows2 w v t) (hlen : ∀ r ∈ t, r.length ≤ 1099511627776) (ht : tallyB n l s t = true) (hvZ : Rows2F (Z + 1 + 1) (Z + 1 + 1 + 1) w v t)
    (q0 : w.heap[Z]? = some (.cells #[.int .i64 n, .int .i64 l, .int .i64 s] 23 (0, 0))) (q1 : w.heap[Z + 1]? = some (.cells #[v] 26 (0, 0))) (q2 : w.heap[Z + 1 + 1]? = some (.cells #[.slice none 0 0] 29 (0, 0))) (q3 : w.heap[Z + 1 + 1 + 1]? = some (.cells #[.int .i64 0] 45 (0, 0))) :
    Calls Try.prog 27 #[.pointer (some ⟨Z + 1 + 1 + 1, 0, none⟩), .pointer (some ⟨Z, 0, none⟩), .pointer (some ⟨Z + 1, 0, none⟩), .pointer (some ⟨Z + 1 + 1, 0, none⟩)] w (ColPost w (Z + 1 + 1) (missN 0 t)) := by
  obtain ⟨a, cap, rfl⟩ := hv.shape
  have KO := Lib.hid (fun (W : World) (h : Rows2 W (.slice a t.length cap) t) => of_any n l s W _ t h hlen)
  have HV := Lib.hid hv
  have HT := Lib.hid ht
  have HVZ := Lib.hid hvZ
  have ht64 := (tally_bd ht).1
  obtain ⟨i0, hi0, hz0, hz1, hz2⟩ := info_parts Try.infoN
  have J0 := Lib.hid hi0
  have Y0 := Lib.hid hz0
  have Y1 := Lib.hid hz1
  have Y2 := Lib.hid hz2
  have p0 := cells3 q0
  have p1 := cells1 q1
  have Q1 := Lib.hid q1
  have Q2 := Lib.hid q2
  have Q3 := Lib.hid q3
  clear hv ht q0 q1 q2 q3 hlen hvZ hi0 hz0 hz1 hz2
  go_enter_defers Try.func27, Try.ntmps27
  go_wp2_with fail
  refine (KO.out w HV.out).mono ?_
  rintro e W1 ⟨⟨_, rfl⟩ | ⟨h, _⟩, hB⟩
  rotate_left
  · rw [HT.out] at h; cases h
  have Q1 := Lib.hid (blk_keep Q1.out hB)
  have Q2 := Lib.hid (blk_keep Q2.out hB)
  have Q3 := Lib.hid (blk_keep Q3.out hB)
  have HVZ := Lib.hid (HVZ.out.rnd (Rnd.of_below hB))
  have RB := Lib.hid (Rnd.of_below (lo := Z + 1 + 1) (hi := Z + 1 + 1 + 1) hB)
  have hz11 : Z + 1 < W1.heap.size := by have := lt_of_block Q3.out; omega
  have p1 := cells1 Q1.out
  have hz1' := lt_of_block Q3.out
  have hwz := hB.size
  clear hB KO HV p0
  go_wp2_with fail
  obtain ⟨V, hV⟩ : ∃ V, V = W1.alloc (.cells #[.slice a t.length cap, .int .i64 n, .int .i64 l, .int .i64 s] 74) := ⟨_, rfl⟩
  obtain ⟨U, hU⟩ : ∃ U, U = W1.heap.size := ⟨_, rfl⟩
  rw [← hV, ← hU]
  have hg : Below W1.heap.size W1 V := by rw [hV]; (repeat (first | (with_reducible exact Below.refl _ _) | (with_reducible assumption) | (with_reducible refine below_drewN ?_ _) | (with_reducible refine Below.drew ?_) | ((with_reducible refine Below.alloc ?_ ?_ _); rotate_left; focus (first | (with_reducible exact Nat.le_refl _) | omega | (simp; done) | (simp; omega))) | ((with_reducible refine Below.setCell (p := ⟨_, _, _⟩) ?_ ?_ _); rotate_left; focus (first | (with_reducible exact Nat.le_refl _) | omega | (simp; done) | (simp; omega)))))
  have QU := Lib.hid (show V.heap[U]? = some (.cells #[.slice a t.length cap, .int .i64 n, .int .i64 l, .int .i64 s] 74 (0, 0)) by rw [hV, hU]; exact blk_new _ _)
  have hVs : V.heap.size = U + 1 := by rw [hV, hU]; simp
  have Q2 := Lib.hid (blk_keep Q2.out hg)
  have Q3 := Lib.hid (blk_keep Q3.out hg)
  have HVZ := Lib.hid (HVZ.out.rnd (Rnd.of_below hg))
  have RV := Lib.hid (RB.out.below hg)
  have HVs := Lib.hid hVs
  have hUZ : Z + 1 + 1 + 1 < U := by omega
  have hwU : w.heap.size ≤ U := by omega
  clear hV hU hg hVs p1 RB hz1' hwz hz11
  go_loopg [12] (t.length) (fun g v12 wr => ∃ (k : Nat) (done : List Nat), g + k = t.length ∧ v12 = .int .i64 k ∧ missN 0 t = done ++ missN k (t.drop k) ∧ RelC V Z U done wr)
  case atStart => exact ⟨0, [], rfl, rfl, by simp, _, Q2.out, World.ownsRow_nil _ _ _ _, Rnd.refl _ _ _⟩
  case round =>
    obtain ⟨k, done, hk, rfl, hrun, sw, qL, own, hR⟩ := hrel
    have HK := Lib.hid hk
    have HRUN := Lib.hid hrun
    have OWN := Lib.hid own
    have QL := Lib.hid qL
    have RR := Lib.hid hR
    have hsb := Lib.hid (own_blk own)
    have hdl := Lib.hid (show done.length ≤ 100 by
      have h1 := congrArg List.length hrun
      rw [List.length_append] at h1
      have := missN_len (t := t) (i := 0); omega)
    have pU := cells4b (hR.keep QU.out (.inr (by omega)))
    have pL := cells1 qL
    clear hrun own qL hk
    by_cases hlt : k < t.length
    · obtain ⟨r, hx⟩ := at_some hlt
      have HM := Lib.hid (missN_at hx)
      have MS := Lib.hid (missing_any t k r wr _ (HVZ.out.rnd hR).rows hx)
      have i0' : (0 : Int) ≤ (k : Int) := by omega
      clear hR
      go_wp2_with fail
      refine MS.out.mono ?_
      rintro e W2 ⟨rfl, hB2⟩
      have QL2 := Lib.hid (blk_keep QL.out hB2)
      have OWN2 := Lib.hid (owns_below OWN.out hB2)
      have RR2 := Lib.hid (RR.out.below hB2)
      have pL := cells1 QL2.out
      have lL := lt_of_block QL2.out
      have hUW : U + 1 ≤ W2.heap.size := by have h1 := RR2.out.size; have h2 := HVs.out; omega
      clear hB2 MS pU
      cases r with
      | nil =>
        have HFin := Lib.hid (show missN 0 t = (done ++ [k]) ++ missN (k + 1) (t.drop (k + 1)) by rw [HRUN.out, HM.out]; simp)
        have HNEWS := Lib.hid (news1 W2 3 (.int .i64 (k : Int)))
        go_wp2_with (at_builtin; refine wpList_append_own _ rfl _ _ 29 rfl (U + 1) 3 i0 (.int .i64 0) 1 8 Try.underlying29 J0.out Y0.out Y1.out Y2.out rfl (by decide) sw done.length _ rfl (OWN2.out.alloc _) ⟨W2.heap.size, 0, none⟩ 1 1 [.int .i64 (k : Int)] rfl rfl HNEWS.out (by simp [Value.oneCell']) (by have := hdl.out; unfold maxLen; omega) (by have := hdl.out; omega) (by simp; omega) ?_; intro v' W8 hown8 hgrow8 _; obtain ⟨g8, cap8, rfl⟩ := ownsRow_succ hown8; have b8 := cells1 ((hgrow8.block (Z + 1 + 1) (by simp; omega) (fun e => by have := hsb.out _ e.symm; omega)).trans (blk_old _ QL2.out)); have O8 := Lib.hid hown8; have G8 := Lib.hid hgrow8; clear hown8 hgrow8)
        go_roundg (gk - 1)
        case measure => have := HK.out; omega
        case rel => exact ⟨k + 1, _, by have := HK.out; omega, by go_num, HFin.out, relC_yes HVs.out hUZ QL2.out OWN2.out RR2.out O8.out G8.out⟩
      | cons x r =>
        have HFin := Lib.hid (show missN 0 t = done ++ missN (k + 1) (t.drop (k + 1)) by rw [HRUN.out, HM.out]; simp)
        go_wp2
        go_roundg (gk - 1)
        case measure => have := HK.out; omega
        case rel => exact ⟨k + 1, done, by have := HK.out; omega, by go_num, HFin.out, sw, QL2.out, OWN2.out, RR2.out⟩
    · obtain rfl : k = t.length := by have := HK.out; omega
      have HF := Lib.hid (show missN 0 t = done by have := HRUN.out; rw [List.drop_length, missN, List.append_nil] at this; exact this)
      clear hR
      go_wp2_with fail
      refine leaves_cons (f := 28) (args := #[.pointer (some ⟨Z + 1 + 1 + 1, 0, none⟩), .func (.func 29) #[] #[]]) (by simp) (by simp [go_sem]) ?_
      refine (caught_idle _ _ _ _).mono ?_
      rintro e u' w'' ⟨rfl, rfl, rfl⟩
      have key : ColPost w (Z + 1 + 1) (missN 0 t) (.returned (.tuple #[])) w'' :=
        ⟨rfl, sw, QL.out, by rw [HF.out]; exact owns_base OWN.out (by omega), (RV.out.trans RR.out).wider (Nat.le_refl _) (Nat.le_succ _)⟩
      simpa [Leaves, settle, results, Try.results27] using key

theorem Rows2F.lower {lo lo' hi : Nat} {w : World} {v : Value} {t : List (List (Bool × Int))} (h : Rows2F lo hi w v t) (hl : lo ≤ lo') : Rows2F lo' hi w v t := by
  obtain ⟨vs, h1, h2, h3⟩ := h
  exact ⟨vs, h1.lower hl, h2, fun i u xs hu hx => (h3 i u xs hu hx).lower hl⟩

/-- Which nodes are told of as missing. -/
def missX (n l s : Int) (t : List (List (Bool × Int))) : List Nat := if tallyB n l s t = true then missN 0 t else []

set_option maxRecDepth 100000 in
set_option maxHeartbeats 1000000 in
theorem missingSeq_any (n l s : Int) (w : World) (v : Value) (t : List (List (Bool × Int))) (hv : Rows2 w v t) (hlen : ∀ r ∈ t, r.length ≤ 1099511627776) :
    Calls Try.prog 11 #[.agg #[.int .i64 n, .int .i64 l, .int .i64 s], .agg #[v]] w fun e w' => ∃ B sw, e = .returned (.func (.func 32) #[] #[.pointer (some ⟨B, 0, none⟩)]) ∧
      w'.cell? ⟨B, 0, none⟩ = some sw ∧ Sl encI 1 w' sw (natI (missX n l s t)) ∧ Below w.heap.size w w' := by
  have HV := Lib.hid hv
  obtain ⟨a, cap, rfl⟩ := hv.shape
  have KC := Lib.hid (fun (W : World) (h0 : Below w.heap.size w W) (Z : Nat) (hZ : w.heap.size ≤ Z) q0 q1 q2 q3 => (show Calls Try.prog 27 _ W (ColPost W (Z + 1 + 1) (missX n l s t)) from by
    unfold missX
    cases ht : tallyB n l s t
    · exact collect_bad n l s W _ t Z (hv.below h0) hlen ht q0 q1 q2 q3
    · exact collect_ok n l s W _ t Z (hv.below h0) hlen ht (((hv.outside (hi := Z + 1 + 1 + 1)).rnd (Rnd.of_below h0)).lower (by omega)) q0 q1 q2 q3))
  clear hv
  go_enter Try.func11, Try.ntmps11
  go_wp2_with fail
  obtain ⟨q0, q1, q2, q3⟩ := alloc4s w (.cells #[.int .i64 n, .int .i64 l, .int .i64 s] 23) (.cells #[.slice a t.length cap] 26) (.cells #[.slice none 0 0] 29) (.cells #[.int .i64 0] 45)
  have E := below_alloc4s w (.cells #[.int .i64 n, .int .i64 l, .int .i64 s] 23) (.cells #[.slice a t.length cap] 26) (.cells #[.slice none 0 0] 29) (.cells #[.int .i64 0] 45)
  refine (KC.out _ E w.heap.size (Nat.le_refl _) q0 q1 q2 q3).mono ?_
  rintro e W1 ⟨rfl, sw, hL, own, hR⟩
  have E1 := Lib.hid (below_rnd E hR (by omega))
  have HL := Lib.hid hL
  have OW := Lib.hid (Sl.of_owns encI_len (by simpa [natI] using own) : Sl encI 1 W1 sw (natI (missX n l s t)))
  clear q0 q1 q2 q3 hL own hR E
  go_wp2_with fail
  go_ret
  exact ⟨_, sw, rfl, (cells1 HL.out).1, OW.out, E1.out⟩

end Go.Proofs.Ytnkpmeplapkobaa
