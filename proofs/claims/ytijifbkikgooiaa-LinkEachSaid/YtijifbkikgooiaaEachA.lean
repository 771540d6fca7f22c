/- Link: the iterator of link.Taken. -/
import Derived.Test.YtijifbkikgooiaaLinkZ
namespace Go.Proofs.Ytijifbkikgooiaa
open Go.RowKit Go.Shelf
attribute [local go_sem] Oper.semAt_some

/-- A link by value whose slices lie outside of the blocks from lo up to hi. -/
def LkF (lo hi : Nat) (w : World) (v : Value) (l : Lk) : Prop :=
  ∃ s1 s2, v = .agg #[.int .i64 l.inc, s1, s2] ∧ SlF lo hi encI 1 w s1 l.out ∧ SlF lo hi encP 2 w s2 l.inn
theorem LkF.reads {lo hi : Nat} {w : World} {v : Value} {l : Lk} (h : LkF lo hi w v l) : LkR w v l := by
  obtain ⟨s1, s2, hv, h1, h2⟩ := h
  exact ⟨s1, s2, hv, h1.sl, h2.sl⟩
theorem LkF.rnd {lo hi : Nat} {w w' : World} {v : Value} {l : Lk} (h : LkF lo hi w v l) (hr : Rnd lo hi w w') : LkF lo hi w' v l := by
  obtain ⟨s1, s2, hv, h1, h2⟩ := h
  exact ⟨s1, s2, hv, h1.rnd hr, h2.rnd hr⟩
theorem LkOwn.outside {lo hi : Nat} {w : World} {base : Nat} {v : Value} {l : Lk} (h : LkOwn w base v l) (hb : hi ≤ base) : LkF lo hi w v l := by
  obtain ⟨s1, s2, hv, h1, h2⟩ := h
  exact ⟨s1, s2, hv, SlF.of_owns encI_len h1 hb, SlF.of_owns encP_len h2 hb⟩
theorem LkR.outside {hi : Nat} {w : World} {v : Value} {l : Lk} (h : LkR w v l) : LkF w.heap.size hi w v l := by
  obtain ⟨s1, s2, hv, h1, h2⟩ := h
  exact ⟨s1, s2, hv, h1.outside, h2.outside⟩
/-- A block that holds a link, its slices outside of lo .. hi. -/
def BoxF (lo hi : Nat) (W : World) (A : Nat) (l : Lk) : Prop :=
  ∃ a c d c', W.heap[A]? = some (.cells #[.int .i64 l.inc, .slice a l.out.length c, .slice d l.inn.length c'] 25 (0, 0)) ∧ LkF lo hi W (.agg #[.int .i64 l.inc, .slice a l.out.length c, .slice d l.inn.length c']) l
theorem BoxF.rnd {lo hi : Nat} {W W' : World} {A : Nat} {l : Lk} (h : BoxF lo hi W A l) (hr : Rnd lo hi W W') (hA : A < lo ∨ hi ≤ A) : BoxF lo hi W' A l := by
  obtain ⟨a, c, d, c', h1, h2⟩ := h
  exact ⟨a, c, d, c', hr.keep h1 hA, h2.rnd hr⟩

theorem SlF.wider {α : Type} {lo hi hi' : Nat} {enc : α → List Value} {k : Nat} {w : World} {v : Value} {xs : List α} (h : SlF lo hi enc k w v xs) (hh : hi' ≤ hi) : SlF lo hi' enc k w v xs := by
  obtain ⟨a, cap, hv, hc, h⟩ := h
  refine ⟨a, cap, hv, hc, ?_⟩
  rcases h with h | ⟨b, off, ha, hlt, hb, hcell⟩
  · exact .inl h
  · exact .inr ⟨b, off, ha, hlt, by omega, hcell⟩
theorem boxF_set {lo A : Nat} {X : World} {l : Lk} {a d : Option Addr} {c c' : Nat} {v0 v1 v2 : Value} (hX : X.heap[A]? = some (.cells #[v0, v1, v2] 25 (0, 0)))
    (hL : LkF lo (A + 1) X (.agg #[.int .i64 l.inc, .slice a l.out.length c, .slice d l.inn.length c']) l) (hlo : lo ≤ A) :
    BoxF lo A (((X.setCell ⟨A, 0, none⟩ (.int .i64 l.inc)).setCell ⟨A, 1, none⟩ (.slice a l.out.length c)).setCell ⟨A, 2, none⟩ (.slice d l.inn.length c')) A l := by
  have hr : Rnd lo (A + 1) X (((X.setCell ⟨A, 0, none⟩ (.int .i64 l.inc)).setCell ⟨A, 1, none⟩ (.slice a l.out.length c)).setCell ⟨A, 2, none⟩ (.slice d l.inn.length c')) :=
    (((Rnd.refl _ _ X).setCell (p := ⟨A, 0, none⟩) (.inl ⟨hlo, Nat.lt_succ_self A⟩) _).setCell (p := ⟨A, 1, none⟩) (.inl ⟨hlo, Nat.lt_succ_self A⟩) _).setCell (p := ⟨A, 2, none⟩) (.inl ⟨hlo, Nat.lt_succ_self A⟩) _
  obtain ⟨s1, s2, hv, h1, h2⟩ := hL.rnd hr
  exact ⟨a, c, d, c', blk_set3 hX, s1, s2, hv, h1.wider (Nat.le_succ _), h2.wider (Nat.le_succ _)⟩
theorem below_set3 {B A : Nat} {w X : World} {x0 x1 x2 : Value} (h : Below B w X) (hA : B ≤ A) : Below B w (((X.setCell ⟨A, 0, none⟩ x0).setCell ⟨A, 1, none⟩ x1).setCell ⟨A, 2, none⟩ x2) :=
  ((h.setCell (p := ⟨A, 0, none⟩) hA _).setCell (p := ⟨A, 1, none⟩) hA _).setCell (p := ⟨A, 2, none⟩) hA _

theorem takeR_bd {l : Lk} {fr : Int} {x : Int × Int} {l' : Lk} {b : Bool} {e : Int} (h : takeR l fr x = (l', b, e)) (ho : l.out.length ≤ 1099511627776) (hi : l.inn.length ≤ 1099511627776) : l'.out.length ≤ 1099511627776 ∧ l'.inn.length ≤ 1099511627776 := by
  have := takeR_len l fr x
  rw [h] at this
  dsimp only at this
  omega
theorem takeR_cases (l : Lk) (fr : Int) (x : Int × Int) : ∃ l' b e, takeR l fr x = (l', b, e) ∧ (¬ e = 0 ∨ (e = 0 ∧ b = true) ∨ (e = 0 ∧ b = false)) := by
  obtain ⟨⟨l', b, e⟩, h⟩ : ∃ q, takeR l fr x = q := ⟨_, rfl⟩
  refine ⟨l', b, e, h, ?_⟩
  by_cases he : e = 0
  · cases b
    · exact .inr (.inr ⟨he, rfl⟩)
    · exact .inr (.inl ⟨he, rfl⟩)
  · exact .inl he

set_option maxRecDepth 100000 in
set_option maxHeartbeats 4000000 in
theorem taken_seq (n : Nat) (hn : 2 ≤ n) (lb : Array Value) (l : Lk) (fr : Int) (xs : List (Int × Int)) (ho : l.out.length ≤ 1099511627776) (hi : l.inn.length ≤ 1099511627776) (hlen : xs.length ≤ 1099511627776) (w0 : World) (hT : TknAt w0 lb l fr xs) :
    SeqP n Try.prog 34 lb (fun p : Nat × Int × Int => #[.int .i64 p.1, .agg #[.int .i64 p.2.1, .int .i64 p.2.2]]) w0 (runT fr l 0 xs) := fun lp J Jx W hW hJ hJx hY h0 => by
  obtain ⟨B1, B2, B3, sv, rfl, ⟨a1, c1, d1, e1, q1, L1⟩, ⟨q2, hS⟩, q3⟩ := hT
  have lB1 := lt_of_block q1
  have lB2 := World.block_lt_of_cell? _ _ q2
  have lB3 := World.block_lt_of_cell? _ _ q3
  dsimp only at lB2 lB3
  obtain ⟨a3, c3, rfl⟩ := hS.shape
  have HS := Lib.hid hS
  have hsz := hW.size
  have p1 := cells3 (blk_below q1 hW lB1)
  have p2 := (hW.cell (p := ⟨B2, 0, none⟩) lB2).trans q2
  have p3 := (hW.cell (p := ⟨B3, 0, none⟩) lB3).trans q3
  have L1 := Lib.hid ((L1.outside (hi := W.heap.size)).rnd (Rnd.of_below hW))
  have hn1 : 1 ≤ n := by omega
  have hB1W : B1 < W.heap.size := by omega
  have hB2W : B2 < W.heap.size := by omega
  have hB3W : B3 < W.heap.size := by omega
  have C3 := Lib.hid (fun (V : World) (h : Below w0.heap.size w0 V) => (h.cell (p := ⟨B3, 0, none⟩) lB3).trans q3)
  have LL := Lib.hid (show l.out.length ≤ 1099511627776 ∧ l.inn.length ≤ 1099511627776 from ⟨ho, hi⟩)
  clear hS q1 q2 q3
  refine callsIn_of_wp Try.func34 rfl trivial ?_ rfl
  simp only [Try.ntmps34, List.size_toArray, List.length_cons, List.length_nil, Nat.reduceAdd, Nat.reduceSub, Array.replicate_succ, Array.replicate_zero, List.push_toArray, List.append_toArray, List.nil_append, List.cons_append]
  refine wpIn_scope_w ?_
  gi_wp2
  refine wpIn_label ?_
  gi_wp2
  have LW := Lib.hid (L1.out.rnd (Rnd.of_below (lo := w0.heap.size) (hi := W.heap.size) ((Below.refl _ W).alloc (Nat.le_refl _) (.cells #[.int .i64 l.inc, .slice a1 l.out.length c1, .slice d1 l.inn.length e1] 25))))
  have bA := Lib.hid (blk_new W (.cells #[.int .i64 l.inc, .slice a1 l.out.length c1, .slice d1 l.inn.length e1] 25))
  have J0 := Lib.hid (hJ 0 W (W.alloc (.cells #[.int .i64 l.inc, .slice a1 l.out.length c1, .slice d1 l.inn.length e1] 25)) h0 (by (repeat (first | (with_reducible exact Below.refl _ _) | (with_reducible assumption) | (with_reducible refine below_drewN ?_ _) | (with_reducible refine Below.drew ?_) | ((with_reducible refine Below.alloc ?_ ?_ _); rotate_left; focus (first | (with_reducible exact Nat.le_refl _) | omega | (simp; done) | (simp; omega))) | ((with_reducible refine Below.setCell (p := ⟨_, _, _⟩) ?_ ?_ _); rotate_left; focus (first | (with_reducible exact Nat.le_refl _) | omega | (simp; done) | (simp; omega)))))))
  have hJ := Lib.hid hJ
  have hJx := Lib.hid hJx
  have hY := Lib.hid hY
  have hWW := Lib.hid hW
  clear p1 p2 p3 L1 hW h0
  gi_loopw [14] (fun i wr => ∃ (k : Nat) (done : List (Nat × Int × Int)) (lk : Lk), k ≤ xs.length ∧ i = .int .i64 k ∧ runT fr l 0 xs = done ++ runT fr lk k (xs.drop k) ∧ J done.length wr ∧ BoxF w0.heap.size W.heap.size wr W.heap.size lk ∧ (lk.out.length ≤ 1099511627776 ∧ lk.inn.length ≤ 1099511627776) ∧ Below w0.heap.size w0 wr)
    (fun i _ => xs.length - (intOf i).toNat)
  case atStart => exact ⟨0, [], l, Nat.zero_le _, rfl, by simp, J0.out, ⟨_, _, _, _, bA.out, LW.out⟩, LL.out, hWW.out.trans (Below.mono ((Below.refl _ _).alloc (Nat.le_refl _) _) hsz)⟩
  case round =>
    obtain ⟨k, done, lk, hk, rfl, hrun, hJk, ⟨a, c, d, c', bk, hL⟩, hbd, hB⟩ := hrel
    clear bA LW J0
    by_cases hlt : k < xs.length
    · obtain ⟨b, off, cap', hv, hb, hcell⟩ := HS.out.atP hlt
      cases hv
      obtain ⟨⟨x1, x2⟩, hx⟩ := at_some hlt
      have hc := hcell k _ hx
      have hc1 := (hB.cell (p := ⟨b, off + k * 2, none⟩) hb).trans hc.1
      have hc2 := (hB.cell (p := ⟨b, off + k * 2 + 1, none⟩) hb).trans hc.2
      rw [drop_at hx] at hrun
      obtain ⟨l', tb, te, ht, hcase⟩ := takeR_cases lk fr (x1, x2)
      have hbd' := Lib.hid (takeR_bd ht hbd.1 hbd.2)
      have HX := Lib.hid hx
      have hr3 := C3.out _ hB
      have bk' := cells3 bk
      have hWr : W.heap.size < wr.heap.size := lt_of_block bk
      have hbw : b < wr.heap.size := Nat.lt_of_lt_of_le hb hB.size
      have hB3w : B3 < wr.heap.size := by omega
      have i0 : (0 : Int) ≤ (k : Int) := by omega
      have kk := take_any (wr.alloc (.cells #[.int .i64 x1, .int .i64 x2] 27)) _ lk fr x1 x2 hbd.1 hbd.2 (hL.reads.below ((Below.refl _ _).alloc (Nat.le_refl _) _))
      rw [ht] at kk
      have KK := Lib.hid kk
      have HT := Lib.hid ht
      have HR := Lib.hid hrun
      have BK := Lib.hid bk
      have HJK := Lib.hid hJk
      clear hcell hc hx kk ht hrun bk hJk hL
      have HB := Lib.hid hB
      clear hB
      rcases hcase with he | ⟨rfl, rfl⟩ | ⟨rfl, rfl⟩
      · have HF := Lib.hid (show runT fr l 0 xs = done by rw [HR.out, runT_stop HT.out he, List.append_nil])
        have e1 : (te != 0) = true := by rw [bne_iff_ne]; exact he
        refine wpIn_wide.2 ?_
        go_wp2_with fail
        refine KK.out.mono ?_
        rintro e W5 ⟨r, rfl, ⟨s1, s2, rfl, o1, o2⟩, hB5⟩
        obtain ⟨a5, c5, rfl⟩ := owns_shape o1
        obtain ⟨a6, c6, rfl⟩ := owns_shape o2
        have hO := Lib.hid (show LkOwn W5 wr.heap.size _ l' from LkOwn.base ⟨_, _, rfl, o1, o2⟩ (by simp))
        have hg : Below wr.heap.size wr W5 := Below.trans (by (repeat (first | (with_reducible exact Below.refl _ _) | (with_reducible assumption) | (with_reducible refine below_drewN ?_ _) | (with_reducible refine Below.drew ?_) | ((with_reducible refine Below.alloc ?_ ?_ _); rotate_left; focus (first | (with_reducible exact Nat.le_refl _) | omega | (simp; done) | (simp; omega))) | ((with_reducible refine Below.setCell (p := ⟨_, _, _⟩) ?_ ?_ _); rotate_left; focus (first | (with_reducible exact Nat.le_refl _) | omega | (simp; done) | (simp; omega)))))) (hB5.mono (by simp))
        have q7 := cells2 (blk_below (blk_new wr (.cells #[.int .i64 x1, .int .i64 x2] 27)) hB5 (by simp))
        have qA := cells3 (blk_below BK.out hg hWr)
        have hz5 := hB5.size
        simp at hz5
        have hz6 : wr.heap.size < W5.heap.size := by omega
        have hz7 : W.heap.size < W5.heap.size := by omega
        have HG := Lib.hid hg
        clear hB5 o1 o2 hg bk' hc1 hc2 hr3 KK
        go_wp2
        rw [Exit.noGoto_normal]
        go_end0
        exact ⟨⟨_, rfl⟩, .inl (by rw [HF.out]; exact hJ.out _ _ _ HJK.out (by have := (HG.out.mono (Nat.le_of_lt hWr)); have := HG.out.size; (repeat (first | (with_reducible exact Below.refl _ _) | (with_reducible assumption) | (with_reducible refine below_drewN ?_ _) | (with_reducible refine Below.drew ?_) | ((with_reducible refine Below.alloc ?_ ?_ _); rotate_left; focus (first | (with_reducible exact Nat.le_refl _) | omega | (simp; done) | (simp; omega))) | ((with_reducible refine Below.setCell (p := ⟨_, _, _⟩) ?_ ?_ _); rotate_left; focus (first | (with_reducible exact Nat.le_refl _) | omega | (simp; done) | (simp; omega)))))))⟩
      · have HF := Lib.hid (show runT fr l 0 xs = done ++ (k, x1, x2) :: runT fr l' (k + 1) (xs.drop (k + 1)) by rw [HR.out, runT_yes HT.out])
        gi_wp2_with fail
        refine ⟨trivial, (callsIn_wide.2 KK.out).mono ?_⟩
        rintro e W5 ⟨r, rfl, ⟨s1, s2, rfl, o1, o2⟩, hB5⟩
        obtain ⟨a5, c5, rfl⟩ := owns_shape o1
        obtain ⟨a6, c6, rfl⟩ := owns_shape o2
        have hO := Lib.hid (show LkOwn W5 wr.heap.size _ l' from LkOwn.base ⟨_, _, rfl, o1, o2⟩ (by simp))
        have hg : Below wr.heap.size wr W5 := Below.trans (by (repeat (first | (with_reducible exact Below.refl _ _) | (with_reducible assumption) | (with_reducible refine below_drewN ?_ _) | (with_reducible refine Below.drew ?_) | ((with_reducible refine Below.alloc ?_ ?_ _); rotate_left; focus (first | (with_reducible exact Nat.le_refl _) | omega | (simp; done) | (simp; omega))) | ((with_reducible refine Below.setCell (p := ⟨_, _, _⟩) ?_ ?_ _); rotate_left; focus (first | (with_reducible exact Nat.le_refl _) | omega | (simp; done) | (simp; omega)))))) (hB5.mono (by simp))
        have q7 := cells2 (blk_below (blk_new wr (.cells #[.int .i64 x1, .int .i64 x2] 27)) hB5 (by simp))
        have qA := cells3 (blk_below BK.out hg hWr)
        have hz5 := hB5.size
        simp at hz5
        have hz6 : wr.heap.size < W5.heap.size := by omega
        have hz7 : W.heap.size < W5.heap.size := by omega
        have HG := Lib.hid hg
        clear hB5 o1 o2 hg bk' hc1 hc2 hr3 KK
        have HV := Lib.hid (hY.out done.length (k, x1, x2) (W5.alloc (.cells #[.int .i64 l'.inc, .slice a5 l'.out.length c5, .slice a6 l'.inn.length c6] 25)) (by rw [HF.out]; simp)
          (hJ.out _ _ _ HJK.out ((HG.out.mono (Nat.le_of_lt hWr)).alloc (by omega) _)))
        obtain ⟨fn, tmps, assign, body, hy, hR⟩ := HV.out
        dsimp only at hy
        gi_wp2
        refine hR.mono ?_
        rintro e W6 (⟨rfl, hJ6, hR6⟩ | ⟨rfl, hJx6⟩)
        · have qA6 := cells3 (hR6.keep (blk_old _ (blk_below BK.out HG.out hWr)) (.inr (Nat.le_refl _)))
          have qT6 := cells3 (hR6.keep (blk_new W5 (.cells #[.int .i64 l'.inc, .slice a5 l'.out.length c5, .slice a6 l'.inn.length c6] 25)) (.inr (by omega)))
          have hR6 := Lib.hid hR6
          have hJ6 := Lib.hid hJ6
          clear qA q7
          gi_wp2
          refine ⟨⟨k + 1, done ++ [(k, x1, x2)], l', by omega, by go_num, by rw [HF.out]; simp, ?_, boxF_set (hR6.out.keep (blk_old _ (blk_below BK.out HG.out hWr)) (.inr (Nat.le_refl _))) ?_ hsz, hbd'.out, ?_⟩, by simp [intOf]; omega⟩
          · rw [List.length_append, List.length_singleton]
            exact hJ.out _ _ _ hJ6.out (below_set3 (Below.refl _ _) (Nat.le_refl _))
          · exact ((hO.out.outside (by omega)).rnd (Rnd.of_below ((Below.refl _ _).alloc (Nat.le_refl _) _))).rnd (hR6.out.wider (Nat.le_refl _) (Nat.le_succ _))
          · refine below_set3 ?_ hsz
            have h1 := HB.out.trans (HG.out.mono HB.out.size)
            exact (h1.alloc h1.size _).trans (hR6.out.belowLo (by have := h1.size; simp; omega))
        · have hJx6 := Lib.hid hJx6
          clear qA q7
          gi_wp2
          rw [Exit.noGoto_normal]
          go_end0
          exact ⟨⟨_, rfl⟩, .inr ⟨_, hJx6.out, by omega, by rw [HF.out]; simp⟩⟩
      · have HF := Lib.hid (show runT fr l 0 xs = done ++ runT fr l' (k + 1) (xs.drop (k + 1)) by rw [HR.out, runT_no HT.out])
        refine wpIn_wide.2 ?_
        go_wp2_with fail
        refine KK.out.mono ?_
        rintro e W5 ⟨r, rfl, ⟨s1, s2, rfl, o1, o2⟩, hB5⟩
        obtain ⟨a5, c5, rfl⟩ := owns_shape o1
        obtain ⟨a6, c6, rfl⟩ := owns_shape o2
        have hO := Lib.hid (show LkOwn W5 wr.heap.size _ l' from LkOwn.base ⟨_, _, rfl, o1, o2⟩ (by simp))
        have hg : Below wr.heap.size wr W5 := Below.trans (by (repeat (first | (with_reducible exact Below.refl _ _) | (with_reducible assumption) | (with_reducible refine below_drewN ?_ _) | (with_reducible refine Below.drew ?_) | ((with_reducible refine Below.alloc ?_ ?_ _); rotate_left; focus (first | (with_reducible exact Nat.le_refl _) | omega | (simp; done) | (simp; omega))) | ((with_reducible refine Below.setCell (p := ⟨_, _, _⟩) ?_ ?_ _); rotate_left; focus (first | (with_reducible exact Nat.le_refl _) | omega | (simp; done) | (simp; omega)))))) (hB5.mono (by simp))
        have q7 := cells2 (blk_below (blk_new wr (.cells #[.int .i64 x1, .int .i64 x2] 27)) hB5 (by simp))
        have qA := cells3 (blk_below BK.out hg hWr)
        have hz5 := hB5.size
        simp at hz5
        have hz6 : wr.heap.size < W5.heap.size := by omega
        have hz7 : W.heap.size < W5.heap.size := by omega
        have HG := Lib.hid hg
        clear hB5 o1 o2 hg bk' hc1 hc2 hr3 KK
        go_wp2
        refine ⟨⟨k + 1, done, l', by omega, by go_num, HF.out, ?_, (boxF_set (blk_below BK.out HG.out hWr) ?_ hsz).rnd (Rnd.of_below ((Below.refl _ _).alloc (Nat.le_refl _) _)) (.inr (Nat.le_refl _)), hbd'.out, ?_⟩, by simp [intOf]; omega⟩
        · exact hJ.out _ _ _ HJK.out ((below_set3 (HG.out.mono (Nat.le_of_lt hWr)) (Nat.le_refl _)).alloc (by simp [World.size_setCell]; omega) _)
        · exact hO.out.outside (by omega)
        · have h1 := HB.out.trans (HG.out.mono HB.out.size)
          exact (below_set3 h1 hsz).alloc (by simp [World.size_setCell]; have := h1.size; omega) _
    · obtain rfl : k = xs.length := by omega
      rw [List.drop_length, runT, List.append_nil] at hrun
      rw [← hrun] at hJk
      have HR := Lib.hid hJk
      clear hrun hJk bk
      gi_wp2
      rw [Exit.noGoto_normal]
      go_end0
      exact ⟨⟨_, rfl⟩, .inl HR.out⟩

end Go.Proofs.Ytijifbkikgooiaa
