/- Link: LinkEach, walked. -/
import Derived.Test.YtijifbkikgooiaaEachB
namespace Go.Proofs.Ytijifbkikgooiaa
open Go.RowKit Go.Shelf
attribute [local go_sem] Oper.semAt_some

/-- What the reference's rounds keep: what is taken (its numbers in the row of block Z + 1), the link at hand (block Z + 2). -/
def RelW (w V : World) (Z : Nat) (done : List (Nat × Int × Int)) (lk : Lk) (wr : World) : Prop :=
  ∃ sw a c d c', wr.heap[Z + 1]? = some (.cells #[sw] 56 (0, 0)) ∧ wr.ownsRow (Z + 1 + 1 + 1) 3 1 sw done.length ((done.map (fun p => ((p.1 : Nat) : Int))).flatMap encI) ∧
    wr.heap[Z + 1 + 1]? = some (.cells #[.int .i64 lk.inc, .slice a lk.out.length c, .slice d lk.inn.length c'] 25 (0, 0)) ∧
    (LkOwn wr (Z + 1 + 1 + 1) (.agg #[.int .i64 lk.inc, .slice a lk.out.length c, .slice d lk.inn.length c']) lk ∨ LkR w (.agg #[.int .i64 lk.inc, .slice a lk.out.length c, .slice d lk.inn.length c']) lk) ∧
    (lk.out.length ≤ 100 ∧ lk.inn.length ≤ 100) ∧ Below w.heap.size w wr ∧ Rnd (Z + 1) (Z + 1 + 1 + 1) V wr

theorem own_blk {W : World} {base : Nat} {e : TypeId} {k : Nat} {v : Value} {n : Nat} {xs : List Value} (h : W.ownsRow base e k v n xs) : ∀ g, v.ownBlock = some g → base ≤ g := fun g hg => (own_block h g hg).1
theorem LkOwn.kept {W W' : World} {b base : Nat} {v sw : Value} {l : Lk} {n : Nat} {ys : List Value} (h : LkOwn W b v l) (hs : W.ownsRow base 3 1 sw n ys) (hg : W.grownBy W' sw.ownBlock) : LkOwn W' b v l := by
  obtain ⟨s1, s2, hv, h1, h2⟩ := h
  exact ⟨s1, s2, hv, h1.kept hg (owns_ne h1 hs (by decide)), h2.kept hg (owns_ne h2 hs (by decide))⟩
theorem news1 (X : World) (t : TypeId) (u0 : Value) : ∀ j u, [u0][j]? = some u → (X.alloc (.cells #[u0] t)).cell? ((⟨X.heap.size, 0, none⟩ : Addr).add j) = some u := by
  intro j u hj
  match j, hj with
  | 0, hj =>
    simp at hj
    subst hj
    rw [show (⟨X.heap.size, 0, none⟩ : Addr).add 0 = ⟨X.heap.size, 0, none⟩ from rfl, World.cell?_alloc_at _ _ _ _ rfl]
    rfl
  | j + 1, hj => simp at hj
theorem Try.infoN : (Try.prog.info? 3).map (fun i => (i.zero, i.size, i.bytes)) = some (some (.int .i64 0), 1, 8) := by kernel_rfl
section
variable {w V X : World} {Z : Nat} {done : List (Nat × Int × Int)} {l' : Lk} {sw v0 v1 v2 : Value} {a d : Option Addr} {c c' : Nat}
theorem relW_no (hw : w.heap.size < Z) (qW : X.heap[Z + 1]? = some (.cells #[sw] 56 (0, 0)))
    (own : X.ownsRow (Z + 1 + 1 + 1) 3 1 sw done.length ((done.map (fun p => ((p.1 : Nat) : Int))).flatMap encI)) (qN : X.heap[Z + 1 + 1]? = some (.cells #[v0, v1, v2] 25 (0, 0)))
    (hO : LkOwn X (Z + 1 + 1 + 1) (.agg #[.int .i64 l'.inc, .slice a l'.out.length c, .slice d l'.inn.length c']) l') (hbd : l'.out.length ≤ 100 ∧ l'.inn.length ≤ 100) (hE : Below w.heap.size w X) (hR : Rnd (Z + 1) (Z + 1 + 1 + 1) V X) :
    RelW w V Z done l' (((X.setCell ⟨Z + 1 + 1, 0, none⟩ (.int .i64 l'.inc)).setCell ⟨Z + 1 + 1, 1, none⟩ (.slice a l'.out.length c)).setCell ⟨Z + 1 + 1, 2, none⟩ (.slice d l'.inn.length c')) := by
  have hne : ∀ i, Z + 1 ≠ (⟨Z + 1 + 1, i, none⟩ : Addr).block := fun i => by dsimp only; omega
  refine ⟨sw, a, c, d, c', blk_set_other _ (blk_set_other _ (blk_set_other _ qW (hne 0)) (hne 1)) (hne 2), ?_, blk_set3 qN, .inl ?_, hbd, below_set3 hE (by omega), ?_⟩
  · exact ownsRow_setCell_below (ownsRow_setCell_below (ownsRow_setCell_below own (a := ⟨Z + 1 + 1, 0, none⟩) (by dsimp only; omega) _) (a := ⟨Z + 1 + 1, 1, none⟩) (by dsimp only; omega) _) (a := ⟨Z + 1 + 1, 2, none⟩) (by dsimp only; omega) _
  · exact ((hO.setCell (p := ⟨Z + 1 + 1, 0, none⟩) (by dsimp only; omega) _).setCell (p := ⟨Z + 1 + 1, 1, none⟩) (by dsimp only; omega) _).setCell (p := ⟨Z + 1 + 1, 2, none⟩) (by dsimp only; omega) _
  · exact ((hR.setCell (p := ⟨Z + 1 + 1, 0, none⟩) (.inl (by dsimp only; omega)) _).setCell (p := ⟨Z + 1 + 1, 1, none⟩) (.inl (by dsimp only; omega)) _).setCell (p := ⟨Z + 1 + 1, 2, none⟩) (.inl (by dsimp only; omega)) _
theorem relW_yes {W' : World} {k : Nat} {x1 x2 : Int} {o : Obj} {sw' : Value} (hV : V.heap.size = Z + 1 + 1 + 1) (hw : w.heap.size < Z) (h : RelW w V Z done l' X) (hsw : X.heap[Z + 1]? = some (.cells #[sw] 56 (0, 0)))
    (hown : W'.ownsRow (Z + 1 + 1 + 1) 3 1 sw' (done.length + 1) ((done.map (fun p => ((p.1 : Nat) : Int))).flatMap encI ++ [.int .i64 (k : Int)])) (hg : (X.alloc o).grownBy W' sw.ownBlock) :
    RelW w V Z (done ++ [(k, x1, x2)]) l' (W'.setCell ⟨Z + 1, 0, none⟩ sw') := by
  obtain ⟨sw0, a, c, d, c', qW, own, qN, hL, hbd, hE, hR⟩ := h
  obtain rfl : sw = sw0 := by rw [qW] at hsw; simp at hsw; exact hsw.symm
  have own1 := own.alloc o
  have hX : Below X.heap.size X (X.alloc o) := (Below.refl _ _).alloc (Nat.le_refl _) _
  have hr : ∀ g, sw.ownBlock = some g → Z + 1 + 1 + 1 ≤ g := own_blk own
  have hW1 : some (Z + 1) ≠ sw.ownBlock := fun e => by have := hr _ e.symm; omega
  have hN1 : some (Z + 1 + 1) ≠ sw.ownBlock := fun e => by have := hr _ e.symm; omega
  have qW' := (hg.block (Z + 1) (lt_of_block (blk_old o qW)) hW1).trans (blk_old o qW)
  have qN' := (hg.block (Z + 1 + 1) (lt_of_block (blk_old o qN)) hN1).trans (blk_old o qN)
  refine ⟨sw', a, c, d, c', ?_, ?_, blk_set_other _ qN' (by dsimp only; omega), ?_, hbd, ?_, ?_⟩
  · have := blk_set (i := 0) sw' qW'
    simpa using this
  · rw [List.length_append, List.length_singleton, List.map_append, List.flatMap_append]
    exact ownsRow_setCell_below hown (a := ⟨Z + 1, 0, none⟩) (by dsimp only; omega) _
  · rcases hL with hL | hL
    · exact .inl (((hL.below hX).kept own1 hg).setCell (p := ⟨Z + 1, 0, none⟩) (by dsimp only; omega) _)
    · exact .inr hL
  · exact ((hE.alloc hE.size _).grown hg (by have := hE.size; simp; omega) (fun g e => by have := hr g e; omega)).setCell (p := ⟨Z + 1, 0, none⟩) (by dsimp only; omega) _
  · exact ((hR.alloc o).grown hg (fun g e => .inl (by have := hr g e; omega))).setCell (p := ⟨Z + 1, 0, none⟩) (.inl (by dsimp only; omega)) _
end

set_option maxRecDepth 100000 in
set_option maxHeartbeats 8000000 in
theorem each_small (w : World) (fr many : Int) (v sv : Value) (l : Lk) (xs : List (Int × Int)) (ho : l.out.length ≤ 100) (hi : l.inn.length ≤ 100) (hl : LkR w v l) (hlen : xs.length ≤ 40) (hS : Sl encP 2 w sv xs) :
    Calls Try.prog 7 #[v, sv, .agg #[.int .i64 fr, .int .i64 many]] w fun e w' => e = .returned (.bool true) ∧ Below w.heap.size w w' := by
  have L0 := Lib.hid hl
  have S0 := Lib.hid hS
  have HF := Lib.hid (show (decide (l.out.length ≤ 100) && decide (l.inn.length ≤ 100)) = true by simp; omega)
  obtain ⟨s1, s2, rfl, h1, h2⟩ := hl
  obtain ⟨a0, ca0, rfl⟩ := h1.shape
  obtain ⟨d0, cb0, rfl⟩ := h2.shape
  obtain ⟨e0, cc0, rfl⟩ := hS.shape
  have h40 : ¬ 40 < xs.length := by omega
  clear h1 h2 hS
  refine calls_of_marks 8 Try.func7 rfl ?_
  simp only [Try.ntmps7, List.size_toArray, List.length_cons, List.length_nil, Nat.reduceAdd, Nat.reduceSub, Array.replicate_succ, Array.replicate_zero, List.push_toArray, List.append_toArray, List.nil_append, List.cons_append]
  go_wp2_with fail
  obtain ⟨V, hV⟩ : ∃ V, V = (((w.alloc (.cells #[.int .i64 l.inc, .slice a0 l.out.length ca0, .slice d0 l.inn.length cb0] 25)).alloc (.cells #[.slice e0 xs.length cc0] 23)).alloc (.cells #[.int .i64 fr, .int .i64 many] 58)).alloc (.cells #[.bool false] 4) := ⟨_, rfl⟩
  rw [← hV]
  have E := below_alloc4s w (.cells #[.int .i64 l.inc, .slice a0 l.out.length ca0, .slice d0 l.inn.length cb0] 25) (.cells #[.slice e0 xs.length cc0] 23) (.cells #[.int .i64 fr, .int .i64 many] 58) (.cells #[.bool false] 4)
  obtain ⟨q0, q1, q2, q3⟩ := alloc4s w (.cells #[.int .i64 l.inc, .slice a0 l.out.length ca0, .slice d0 l.inn.length cb0] 25) (.cells #[.slice e0 xs.length cc0] 23) (.cells #[.int .i64 fr, .int .i64 many] 58) (.cells #[.bool false] 4)
  rw [← hV] at E q0 q1 q2 q3
  have kk := few_any V (.int .i64 l.inc) a0 d0 l.out.length l.inn.length ca0 cb0
  rw [HF.out] at kk
  refine kk.mono ?_
  clear kk hV
  rintro e W1 ⟨rfl, hB1⟩
  have E1 := Lib.hid (E.trans (hB1.mono E.size))
  have Q0 := Lib.hid (blk_keep q0 hB1)
  have Q1 := Lib.hid (blk_keep q1 hB1)
  have Q2 := Lib.hid (blk_keep q2 hB1)
  have Q3 := Lib.hid (blk_keep q3 hB1)
  have p1 := cells1 Q1.out
  have lz := lt_of_block Q3.out
  clear q0 q1 q2 q3 hB1 E
  go_wp2_with fail
  have p2 := cells2 Q2.out
  clear p1
  go_region_held3 (fun w' => w'.cell? ⟨w.heap.size + 1 + 1, 0, none⟩ = some (.int .i64 fr) ∧ w'.cell? ⟨w.heap.size + 1 + 1, 1, none⟩ = some (.int .i64 many)) (go_keep) (fail)
  have p0 := cells3 Q0.out
  clear p2
  have h0W : w.heap.size < W1.heap.size := by omega
  go_upto_block 0 with fail
  obtain ⟨V2, hV⟩ : ∃ V, V = (((W1.alloc (.cells #[.int .i64 many] 3)).alloc (.cells #[.slice none 0 0] 56)).alloc (.cells #[.int .i64 l.inc, .slice a0 l.out.length ca0, .slice d0 l.inn.length cb0] 25)).drew := ⟨_, rfl⟩
  rw [← hV]
  obtain ⟨Z, hZ⟩ : ∃ Z, Z = W1.heap.size := ⟨_, rfl⟩
  rw [← hZ]
  have hB : Below W1.heap.size W1 V2 := by rw [hV]; (repeat (first | (with_reducible exact Below.refl _ _) | (with_reducible assumption) | (with_reducible refine below_drewN ?_ _) | (with_reducible refine Below.drew ?_) | ((with_reducible refine Below.alloc ?_ ?_ _); rotate_left; focus (first | (with_reducible exact Nat.le_refl _) | omega | (simp; done) | (simp; omega))) | ((with_reducible refine Below.setCell (p := ⟨_, _, _⟩) ?_ ?_ _); rotate_left; focus (first | (with_reducible exact Nat.le_refl _) | omega | (simp; done) | (simp; omega)))))
  have hz2 : V2.heap.size = Z + 1 + 1 + 1 := by rw [hV, hZ]; simp
  have E2 := Lib.hid (E1.out.trans (hB.mono E1.out.size))
  have Q0 := Lib.hid (blk_keep Q0.out hB)
  have Q1 := Lib.hid (blk_keep Q1.out hB)
  have Q3 := Lib.hid (blk_keep Q3.out hB)
  have QM := Lib.hid (show V2.heap[Z]? = some (.cells #[.int .i64 many] 3 (0, 0)) by rw [hV, hZ]; exact blk_old _ (blk_old _ (blk_new _ _)))
  have QW := Lib.hid (show V2.heap[Z + 1]? = some (.cells #[.slice none 0 0] 56 (0, 0)) by
    rw [hV, hZ]; have := blk_new (W1.alloc (.cells #[.int .i64 many] 3)) (.cells #[.slice none 0 0] 56); rw [World.size_alloc] at this; exact blk_old _ this)
  have QN := Lib.hid (show V2.heap[Z + 1 + 1]? = some (.cells #[.int .i64 l.inc, .slice a0 l.out.length ca0, .slice d0 l.inn.length cb0] 25 (0, 0)) by
    rw [hV, hZ]; have := blk_new ((W1.alloc (.cells #[.int .i64 many] 3)).alloc (.cells #[.slice none 0 0] 56)) (.cells #[.int .i64 l.inc, .slice a0 l.out.length ca0, .slice d0 l.inn.length cb0] 25); rw [World.size_alloc, World.size_alloc] at this; exact this)
  have hwZ : w.heap.size + 1 + 1 + 1 < Z := by omega
  have HZ := Lib.hid hz2
  clear hV hZ hB hz2 lz h0W p0 E1 Q2
  go_cut [] from 34 to 58 (fun wx => ∃ sw, wx.heap[Z + 1]? = some (.cells #[sw] 56 (0, 0)) ∧ wx.ownsRow (Z + 1 + 1 + 1) 3 1 sw (runT fr l 0 xs).length (((runT fr l 0 xs).map (fun p => ((p.1 : Nat) : Int))).flatMap encI) ∧ Below w.heap.size w wx ∧ Rnd (Z + 1) (Z + 1 + 1 + 1) V2 wx)
  case first =>
    go_wp2_with fail
    go_loopg [11] (xs.length) (fun g v11 wr => ∃ (k : Nat) (done : List (Nat × Int × Int)) (lk : Lk), g + k = xs.length ∧ v11 = .int .i64 k ∧ runT fr l 0 xs = done ++ runT fr lk k (xs.drop k) ∧ RelW w V2 Z done lk wr)
    case atStart => exact ⟨0, [], l, rfl, rfl, by simp, _, _, _, _, _, QW.out, World.ownsRow_nil _ _ _ _, QN.out, .inr L0.out, ⟨ho, hi⟩, E2.out, Rnd.refl _ _ _⟩
    case round =>
      obtain ⟨k, done, lk, hk, rfl, hrun, sw, a, c, d, c', qW, own, qN, hL, hbd, hE, hR⟩ := hrel
      have HK := Lib.hid hk
      have hRR := Lib.hid hR
      have p1 := cells1 (hR.keep Q1.out (.inl (by omega)))
      by_cases hlt : k < xs.length
      · obtain ⟨b, off, cap', hv, hb, hcell⟩ := S0.out.atP hlt
        cases hv
        obtain ⟨⟨x1, x2⟩, hx⟩ := at_some hlt
        have hc1 := (hE.cell (p := ⟨b, off + k * 2, none⟩) hb).trans (hcell k _ hx).1
        have hc2 := (hE.cell (p := ⟨b, off + k * 2 + 1, none⟩) hb).trans (hcell k _ hx).2
        rw [drop_at hx] at hrun
        obtain ⟨l', tb, te, ht, hcase⟩ := takeR_cases lk fr (x1, x2)
        have hbd' := Lib.hid (show l'.out.length ≤ 100 ∧ l'.inn.length ≤ 100 by have := takeR_len lk fr (x1, x2); rw [ht] at this; dsimp only at this; omega)
        have LR := Lib.hid (show LkR wr (.agg #[.int .i64 lk.inc, .slice a lk.out.length c, .slice d lk.inn.length c']) lk by
          rcases hL with h | h
          · exact h.reads
          · exact h.below hE)
        have KT := Lib.hid (fun (W : World) (h : LkR W (.agg #[.int .i64 lk.inc, .slice a lk.out.length c, .slice d lk.inn.length c']) lk) => by
          have := refTake_any W _ lk fr x1 x2 (by omega) (by omega) h
          rw [ht] at this
          exact this)
        have HX := Lib.hid hx
        have HT := Lib.hid ht
        have HRUN := Lib.hid hrun
        have QWr := Lib.hid qW
        have QNr := Lib.hid qN
        have OWN := Lib.hid own
        have EE := Lib.hid hE
        have n3 := cells3 qN
        have i0 : (0 : Int) ≤ (k : Int) := by omega
        have hNr : Z + 1 + 1 < wr.heap.size := lt_of_block qN
        have hWr : Z + 1 < wr.heap.size := by omega
        have hwr1 : w.heap.size + 1 < wr.heap.size := by omega
        have hbr : b < wr.heap.size := Nat.lt_of_lt_of_le hb hE.size
        have HLT := Lib.hid hlt
        clear hcell hx hk hrun qW own qN hL hE hR ht
        go_upto_region 9 with fail
        go_cut [12, 13, 14] from 34 to 58 (fun s12 s13 s14 wx => ∃ T a c d c', s12 = .pointer (some ⟨T, 0, none⟩) ∧ s13 = .bool tb ∧ s14 = .int .i64 te ∧ wx.heap[T]? = some (.cells #[.int .i64 l'.inc, .slice a l'.out.length c, .slice d l'.inn.length c'] 25 (0, 0)) ∧
          LkOwn wx wr.heap.size (.agg #[.int .i64 l'.inc, .slice a l'.out.length c, .slice d l'.inn.length c']) l' ∧ Below wr.heap.size wr wx ∧ wr.heap.size ≤ T)
        case first =>
          have m1 : ¬ wr.heap.size = Z + 1 + 1 := by omega
          have m2 : ¬ Z + 1 + 1 = wr.heap.size := by omega
          have m3 : ¬ wr.heap.size = w.heap.size + 1 := by omega
          have m4 : ¬ w.heap.size + 1 = wr.heap.size := by omega
          have m5 : ¬ wr.heap.size = b := by omega
          have m6 : ¬ b = wr.heap.size := by omega
          go_region_held3 (fun w' => w'.cell? ⟨Z + 1 + 1, 0, none⟩ = some (.int .i64 lk.inc) ∧ w'.cell? ⟨Z + 1 + 1, 1, none⟩ = some (.slice a lk.out.length c) ∧ w'.cell? ⟨Z + 1 + 1, 2, none⟩ = some (.slice d lk.inn.length c') ∧ w'.cell? ⟨w.heap.size + 1, 0, none⟩ = some (.slice (some ⟨b, off, none⟩) xs.length cc0) ∧ w'.cell? ⟨b, off + k * 2, none⟩ = some (.int .i64 x1) ∧ w'.cell? ⟨b, off + k * 2 + 1, none⟩ = some (.int .i64 x2)) (go_keep)
            (first
              | (go_at_call 25
                 refine (KT.out _ (LR.out.below ?_)).mono ?_
                 · repeat (first | (with_reducible exact Below.refl _ _) | (with_reducible assumption) | (with_reducible refine below_drewN ?_ _) | (with_reducible refine Below.drew ?_) | ((with_reducible refine Below.alloc ?_ ?_ _); rotate_left; focus (first | (with_reducible exact Nat.le_refl _) | omega | (simp; done) | (simp; omega))) | ((with_reducible refine Below.setCell (p := ⟨_, _, _⟩) ?_ ?_ _); rotate_left; focus (first | (with_reducible exact Nat.le_refl _) | omega | (simp; done) | (simp; omega))))
                 rintro e W7 ⟨r7, rfl, hO7, hB7⟩
                 have hB8 : Below wr.heap.size wr W7 := Below.trans (by repeat (first | (with_reducible exact Below.refl _ _) | (with_reducible assumption) | (with_reducible refine below_drewN ?_ _) | (with_reducible refine Below.drew ?_) | ((with_reducible refine Below.alloc ?_ ?_ _); rotate_left; focus (first | (with_reducible exact Nat.le_refl _) | omega | (simp; done) | (simp; omega))) | ((with_reducible refine Below.setCell (p := ⟨_, _, _⟩) ?_ ?_ _); rotate_left; focus (first | (with_reducible exact Nat.le_refl _) | omega | (simp; done) | (simp; omega))))) (hB7.mono (by simp))
                 (try have hZ7 := Lib.hid (blk_keep (show (wr.alloc (.cells #[.int .i64 0, .slice none 0 0, .slice none 0 0] 25)).drew.heap[wr.heap.size]? = _ from blk_new _ _) hB7))
                 obtain ⟨sa7, sb7, rfl, oa7, ob7⟩ := hO7
                 obtain ⟨a7, ca7, rfl⟩ := owns_shape oa7
                 obtain ⟨d7, cb7, rfl⟩ := owns_shape ob7
                 have cB := (bcell hB8).1
                 have cF := (bcell hB7).2
                 (try simp only [World.size_alloc] at cF)
                 (try have cC := (bcell hB7).1)
                 have hz7 := hB7.size
                 (try simp at hz7)
                 (try (have hz8 := Nat.lt_of_succ_le hz7))
                 have O7 := Lib.hid (⟨_, _, rfl, oa7, ob7⟩ : LkOwn W7 _ _ l')
                 have B8 := Lib.hid hB8
                 clear hB7 oa7 ob7 hB8))
          all_goals
            go_wp2_with fail
            go_meet
            go_light
            first
              | exact ⟨_, a7, ca7, d7, cb7, rfl, rfl, rfl, blk_new _ _, LkOwn.below (show LkOwn W7 wr.heap.size _ _ from O7.out) ((Below.refl _ _).alloc (Nat.le_refl _) _), B8.out.alloc B8.out.size _, B8.out.size⟩
              | exact ⟨_, a7, ca7, d7, cb7, rfl, rfl, rfl, blk_set3 hZ7.out, LkOwn.base (LkOwn.setCell (p := ⟨_, _, _⟩) (LkOwn.setCell (p := ⟨_, _, _⟩) (LkOwn.setCell (p := ⟨_, _, _⟩) (LkOwn.base O7.out (show wr.heap.size + 1 ≤ _ by simp)) (Nat.lt_succ_self _) _) (Nat.lt_succ_self _) _) (Nat.lt_succ_self _) _) (Nat.le_succ _), below_set3 B8.out (Nat.le_refl _), Nat.le_refl _⟩
        case rest =>
          obtain ⟨T, a7, c7, d7, c7', rfl, rfl, rfl, qT, O7, B7, hT⟩ := hcut
          have QW7 := Lib.hid (blk_keep QWr.out B7)
          have QN7 := Lib.hid (blk_keep QNr.out B7)
          have OWN7 := Lib.hid (owns_below OWN.out B7)
          have E7 := Lib.hid (EE.out.trans (B7.mono EE.out.size))
          have R7 := Lib.hid (hRR.out.below B7)
          have O8 := Lib.hid (LkOwn.base O7 (show Z + 1 + 1 + 1 ≤ wr.heap.size by omega))
          have QT := Lib.hid qT
          obtain ⟨V7, rfl⟩ : ∃ V7 : World, V7 = wc := ⟨_, rfl⟩
          clear qT O7 B7 KT LR QWr QNr OWN EE hRR n3 p1 hc1 hc2 hbd
          rcases hcase with he | ⟨rfl, rfl⟩ | ⟨rfl, rfl⟩
          · have HFin := Lib.hid (show runT fr l 0 xs = done by rw [HRUN.out, runT_stop HT.out he, List.append_nil])
            have e1 : (te != 0) = true := by rw [bne_iff_ne]; exact he
            go_wp2_with fail
            go_meet
            exact ⟨sw, QW7.out, by rw [HFin.out]; exact OWN7.out, E7.out, R7.out⟩
          · have HFin := Lib.hid (show runT fr l 0 xs = (done ++ [(k, x1, x2)]) ++ runT fr l' (k + 1) (xs.drop (k + 1)) by rw [HRUN.out, runT_yes HT.out]; simp)
            have t3 := cells3 QT.out
            have n3 := cells3 QN7.out
            have RN := Lib.hid (relW_no (w := w) (V := V2) (by omega) QW7.out OWN7.out QN7.out O8.out hbd'.out E7.out R7.out)
            go_upto_region 13 with fail
            obtain ⟨X, hX⟩ : ∃ X, X = (((V7.setCell ⟨Z + 1 + 1, 0, none⟩ (.int .i64 l'.inc)).setCell ⟨Z + 1 + 1, 1, none⟩ (.slice a7 l'.out.length c7)).setCell ⟨Z + 1 + 1, 2, none⟩ (.slice d7 l'.inn.length c7')) := ⟨_, rfl⟩
            rw [← hX] at RN ⊢
            have hr := RN.out
            obtain ⟨sw0, _, _, _, _, qX, oX, _⟩ := hr
            obtain rfl : sw = sw0 := by
              have := QW7.out
              rw [hX, blk_set_other _ (blk_set_other _ (blk_set_other _ this (by dsimp only; omega)) (by dsimp only; omega)) (by dsimp only; omega)] at qX
              simp at qX; exact qX
            have QX := Lib.hid qX
            have OX := Lib.hid oX
            have x1' := cells1 qX
            have lX := lt_of_block qX
            have HNEWS := Lib.hid (news1 X 3 (.int .i64 (k : Int)))
            obtain ⟨i0, hi0, hz0, hz1, hz2⟩ := info_parts Try.infoN
            have J0 := Lib.hid hi0
            have Y0 := Lib.hid hz0
            have Y1 := Lib.hid hz1
            have Y2 := Lib.hid hz2
            have HDL := Lib.hid (show done.length ≤ 40 by have := congrArg List.length HRUN.out; rw [List.length_append] at this; have h2 := runT_len (fr := fr) (xs := xs) (l := l) (i := 0); omega)
            have hsb := Lib.hid (own_blk oX)
            clear hX qX oX t3 n3 hi0 hz0 hz1 hz2
            go_wp2_with (at_builtin; refine wpList_append_own _ rfl _ _ 56 rfl (Z + 1 + 1 + 1) 3 i0 (.int .i64 0) 1 8 Try.underlying56 J0.out Y0.out Y1.out Y2.out rfl (by decide) sw done.length _ rfl (OX.out.alloc _) ⟨X.heap.size, 0, none⟩ 1 1 [.int .i64 (k : Int)] rfl rfl HNEWS.out (by simp [Value.oneCell']) (by have := HDL.out; unfold maxLen; omega) (by have := HDL.out; omega) (by simp; have := hNr; have := hT; omega) ?_; intro v' W8 hown8 hgrow8 _; obtain ⟨g8, cap8, rfl⟩ := ownsRow_succ hown8; have b8 := cells1 ((hgrow8.block (Z + 1) (by simp; omega) (fun e => by have := hsb.out _ e.symm; omega)).trans (blk_old _ QX.out)); have O8' := Lib.hid hown8; have G8 := Lib.hid hgrow8; clear hown8 hgrow8)
            go_roundg (gk - 1)
            case measure => have := HK.out; have := HLT.out; omega
            case rel => exact ⟨k + 1, _, l', by have := HK.out; have := HLT.out; omega, by go_num, HFin.out, relW_yes HZ.out (by omega) RN.out QX.out O8'.out G8.out⟩
          · have HFin := Lib.hid (show runT fr l 0 xs = done ++ runT fr l' (k + 1) (xs.drop (k + 1)) by rw [HRUN.out, runT_no HT.out])
            have t3 := cells3 QT.out
            have n3 := cells3 QN7.out
            have RN := Lib.hid (relW_no (w := w) (V := V2) (by omega) QW7.out OWN7.out QN7.out O8.out hbd'.out E7.out R7.out)
            go_wp2_with fail
            go_roundg (gk - 1)
            case measure => have := HK.out; have := HLT.out; omega
            case rel => exact ⟨k + 1, done, l', by have := HK.out; have := HLT.out; omega, by go_num, HFin.out, RN.out⟩
      · obtain rfl : k = xs.length := by omega
        rw [List.drop_length, runT, List.append_nil] at hrun
        have QWr := Lib.hid qW
        have OWN := Lib.hid own
        have EE := Lib.hid hE
        have HRUN := Lib.hid hrun
        clear hk hrun qW own qN hL hE hR
        go_wp2_with fail
        go_meet
        exact ⟨sw, QWr.out, by rw [HRUN.out]; exact OWN.out, EE.out, hRR.out⟩
  case rest =>
    obtain ⟨sw, qW, own, E3, R3⟩ := hcut
    have Q0c := Lib.hid (R3.keep Q0.out (.inl (by omega)))
    have Q1c := Lib.hid (R3.keep Q1.out (.inl (by omega)))
    have Q3c := Lib.hid (R3.keep Q3.out (.inl (by omega)))
    have QMc := Lib.hid (R3.keep QM.out (.inl (by omega)))
    obtain ⟨aw, cw, rfl⟩ := owns_shape own
    have c0 := cells3 Q0c.out
    have c1 := cells1 Q1c.out
    have EC := Lib.hid E3
    have QWc := Lib.hid qW
    have OWc := Lib.hid own
    clear qW own E3 R3 Q0 Q1 Q3 QM QW QN HZ E2
    go_wp2_with fail
    refine (taken_any _ _ _ l fr xs (by omega) (by omega) (L0.out.below EC.out) (by omega) (S0.out.below EC.out)).mono ?_
    rintro e W9 ⟨lb, rfl, hTk, hB9⟩
    have EC := Lib.hid (EC.out.trans (hB9.mono EC.out.size))
    have Q1c := Lib.hid (blk_keep Q1c.out hB9)
    have Q3c := Lib.hid (blk_keep Q3c.out hB9)
    have QMc := Lib.hid (blk_keep QMc.out hB9)
    have QWc := Lib.hid (blk_keep QWc.out hB9)
    have OWc := Lib.hid (owns_below OWc.out hB9)
    have HTK := Lib.hid hTk
    have heq := fun W : World => run_eql_func_nil (P := Try.prog) W Try.underlying60 (.func 34) #[] lb
    clear c0 c1 hB9 hTk Q0c
    go_wp2_with fail
    clear heq
    refine wp_loop_rounds 3 ?_
    rw [rounds_succ]
    go_wp2_with fail
    obtain ⟨Vr, hV⟩ : ∃ V, V = (W9.alloc (.cells #[.int .i64 0] 3)).alloc (.cells #[.int .i64 0] 3) := ⟨_, rfl⟩
    obtain ⟨T, hT⟩ : ∃ T, T = W9.heap.size := ⟨_, rfl⟩
    rw [← hV, ← hT]
    have hg : Below W9.heap.size W9 Vr := by rw [hV]; (repeat (first | (with_reducible exact Below.refl _ _) | (with_reducible assumption) | (with_reducible refine below_drewN ?_ _) | (with_reducible refine Below.drew ?_) | ((with_reducible refine Below.alloc ?_ ?_ _); rotate_left; focus (first | (with_reducible exact Nat.le_refl _) | omega | (simp; done) | (simp; omega))) | ((with_reducible refine Below.setCell (p := ⟨_, _, _⟩) ?_ ?_ _); rotate_left; focus (first | (with_reducible exact Nat.le_refl _) | omega | (simp; done) | (simp; omega)))))
    have QT := Lib.hid (show Vr.heap[T]? = some (.cells #[.int .i64 0] 3 (0, 0)) by rw [hV, hT]; exact (alloc2s W9 _ _).1)
    have QC := Lib.hid (show Vr.heap[T + 1]? = some (.cells #[.int .i64 0] 3 (0, 0)) by rw [hV, hT]; exact (alloc2s W9 _ _).2)
    have hz : Vr.heap.size = T + 1 + 1 := by rw [hV, hT]; simp
    have hTZ : Z + 1 < T := by rw [hT]; exact lt_of_block QWc.out
    have EC := Lib.hid (EC.out.trans (hg.mono EC.out.size))
    have Q1c := Lib.hid (blk_keep Q1c.out hg)
    have Q3c := Lib.hid (blk_keep Q3c.out hg)
    have QMc := Lib.hid (blk_keep QMc.out hg)
    have QWc := Lib.hid (blk_keep QWc.out hg)
    have HGT := Lib.hid (show ∀ g, (Value.slice aw (runT fr l 0 xs).length cw).ownBlock = some g → g < T from fun g hg' => by rw [hT]; exact (own_block OWc.out g hg').2)
    have OWc := Lib.hid (owns_below OWc.out hg)
    have HG := Lib.hid hg
    have HZR := Lib.hid hz
    have HT9 := Lib.hid hT
    clear hV hT hg hz
    refine (wpIn_wide (n := 8)).1 (wpIn_rangeQ (n := 8) rfl (enters_of Try.func34 (by kernel_rfl) rfl) (taken_seq 7 (by decide) lb l fr xs (by omega) (by omega) (by omega) W9 HTK.out) HG.out (by intro _; rfl)
      (fun k W => Rnd (T + 1) (T + 1 + 1) Vr W ∧ W.heap[T + 1]? = some (.cells #[.int .i64 (k : Int)] 3 (0, 0)) ∧ (k = 0 ∨ (k : Int) < many))
      (fun c k W => c = .exit 4 ∧ Rnd (T + 1) (T + 1 + 1) Vr W ∧ W.heap[T + 1]? = some (.cells #[.int .i64 (k : Int)] 3 (0, 0)) ∧ many ≤ (k : Int) ∧ (k = 1 ∨ ((k : Int) - 1 < many ∧ 1 < k)))
      (fun k A B ⟨h1, h2, h3⟩ hAB => ⟨h1.below_of hAB, (hAB.block _ (by rw [HZR.out]; omega)).trans h2, h3⟩)
      (fun c k A B ⟨hc, h1, h2, h3⟩ hAB => ⟨hc, h1.below_of hAB, (hAB.block _ (by rw [HZR.out]; omega)).trans h2, h3⟩)
      ⟨Rnd.refl _ _ _, QC.out, .inl rfl⟩ ?round ?done ?stop)
    case round =>
      rintro lp k ⟨i, x1, x2⟩ W K hx hzW ⟨hR, hC, hk⟩ hK
      have hlk := (List.getElem?_eq_some_iff.1 hx).1
      have hxi := runT_at hx
      dsimp only at hxi
      have hil := (List.getElem?_eq_some_iff.1 hxi).1
      obtain ⟨b, off, cap', hv, hb, hcell⟩ := S0.out.atP hil
      cases hv
      obtain ⟨g, cap, hv, hg1, hg2⟩ := OWc.out.form (by omega)
      cases hv
      have hgT := HGT.out g rfl
      have hrow : Vr.cell? ⟨g, k, none⟩ = some (.int .i64 (i : Int)) := by
        rw [OWc.out.cellAt _ (by omega)]
        rw [flat_encI, List.map_map, List.getElem?_map, hx]
        rfl
      have HC := Lib.hid (hcell i _ hxi)
      gi_wp2
      refine hK _ _ ((Below.refl _ _).alloc (Nat.le_refl _) _) ?_
      intro l' W2 hkept hz2 ⟨hR2, hC2, _⟩
      have hR2' := Lib.hid hR2
      have hC2' := Lib.hid hC2
      have b19 := cells2 (hkept.blk (blk_new W (.cells #[.int .i64 x1, .int .i64 x2] 27)))
      have bT := cells1 (hR2.keep QT.out (.inl (Nat.lt_succ_self _)))
      have bC := cells1 hC2
      have bW := cells1 (hR2.keep QWc.out (.inl (by omega)))
      have bS := cells1 (hR2.keep Q1c.out (.inl (by omega)))
      have bM := cells1 (hR2.keep QMc.out (.inl (by omega)))
      have hrow2 := (World.cell?_of_block (a := ⟨g, k, none⟩) (hR2.block g hg2 (.inl (by omega)))).trans hrow
      have hbV := Nat.lt_of_lt_of_le hb EC.out.size
      have hcx1 := (World.cell?_of_block (a := ⟨b, off + i * 2, none⟩) (hR2.block b hbV (.inl (by omega)))).trans ((EC.out.cell (p := ⟨b, off + i * 2, none⟩) hb).trans HC.out.1)
      have hcx2 := (World.cell?_of_block (a := ⟨b, off + i * 2 + 1, none⟩) (hR2.block b hbV (.inl (by omega)))).trans ((EC.out.cell (p := ⟨b, off + i * 2 + 1, none⟩) hb).trans HC.out.2)
      have i0 : (0 : Int) ≤ (i : Int) := by omega
      have k0 : (0 : Int) ≤ (k : Int) := by omega
      have kl : decide ((runT fr l 0 xs).length ≤ k) = false := by simp; omega
      have hk40 : (k : Int) < 1000 := by have := runT_len (fr := fr) (xs := xs) (l := l) (i := 0); omega
      have HX := Lib.hid hx
      have HI := Lib.hid hxi
      clear hK hkept hcell hrow hR2 hC2 hx hxi hC hR
      gi_wp2
      refine wpIn_region_quiet_round (by kernel_rfl) (by kernel_rfl) (by kernel_rfl) ?_
      repeat (gi_big_quiet_step (fail))
      refine wpQuietIn_nil ?_
      intro _ hw'
      obtain ⟨nq, hw''⟩ := hw'
      subst hw''
      have RW := Lib.hid (((Rnd.refl W9.heap.size Vr.heap.size W2).drewN nq).setCell (p := ⟨T + 1, 0, none⟩) (.inl ⟨by dsimp only; have := HT9.out; omega, by dsimp only; have := HZR.out; omega⟩) (.int .i64 ((k : Int) + 1)))
      have RI := Lib.hid ((hR2'.out.drewN nq).setCell (p := ⟨T + 1, 0, none⟩) (.inl ⟨Nat.le_refl _, Nat.lt_succ_self _⟩) (.int .i64 ((k : Int) + 1)))
      have CI := Lib.hid (show ((W2.drewN nq).setCell ⟨T + 1, 0, none⟩ (.int .i64 ((k : Int) + 1))).heap[T + 1]? = some (.cells #[.int .i64 ((k + 1 : Nat) : Int)] 3 (0, 0)) from
        Boxed.set (.int .i64 ((k : Int) + 1)) (show Boxed (W2.drewN nq) (T + 1) 3 _ from hC2'.out))
      by_cases hmn : many ≤ (k : Int) + 1
      · gi_wp2
        exact ⟨RW.out, rfl, RI.out, CI.out, by omega, by omega⟩
      · gi_wp2
        exact ⟨RW.out, RI.out, CI.out, by omega⟩
    case done =>
      rintro W ⟨hR, hC, hk⟩ hD hzD
      have bT := cells1 (hR.keep QT.out (.inl (Nat.lt_succ_self _)))
      have bC := cells1 hC
      have bW := cells1 (hR.keep QWc.out (.inl (by omega)))
      have bM := cells1 (hR.keep QMc.out (.inl (by omega)))
      go_upto_region 28 with fail
      go_cut [121] from 101 to 121 (fun s121 wx => s121 = .bool false ∧ wx = W)
      case first =>
        by_cases h1 : many ≤ 1
        · have h0 : ((runT fr l 0 xs).length : Int) ≤ 0 := by omega
          clear hk
          go_wp2_with fail
          all_goals (go_meet; exact ⟨by first | rfl | (simp; omega), rfl⟩)
        · have h0 : ((runT fr l 0 xs).length : Int) < many := by omega
          clear hk
          go_wp2_with fail
          all_goals (go_meet; exact ⟨by first | rfl | (simp; omega), rfl⟩)
      case rest =>
        obtain ⟨rfl, rfl⟩ := hcut
        obtain ⟨W, rfl⟩ : ∃ W : World, W = wc := ⟨_, rfl⟩
        have EW := Lib.hid (below_rnd EC.out hR (by omega))
        have Q1w := Lib.hid (hR.keep Q1c.out (.inl (by omega)))
        have Q3w := Lib.hid (hR.keep Q3c.out (.inl (by omega)))
        have QMw := Lib.hid (hR.keep QMc.out (.inl (by omega)))
        have QWw := Lib.hid (hR.keep QWc.out (.inl (by omega)))
        have GW := Lib.hid (below_rnd HG.out hR (by have := HT9.out; omega))
        have OWw := Lib.hid (own_rnd OWc.out hR (fun g e => .inl (by have := HGT.out g e; omega)))
        have DW := Lib.hid hD
        clear bC bM bW
        go_wp2_with fail
        rw [rounds_succ]
        go_wp2_with fail
        obtain ⟨Vs, hV⟩ : ∃ V, V = (W.alloc (.cells #[.int .i64 1] 3)).alloc (.cells #[.int .i64 0] 3) := ⟨_, rfl⟩
        obtain ⟨T', hT⟩ : ∃ T, T = W.heap.size := ⟨_, rfl⟩
        rw [← hV, ← hT]
        have hg : Below W.heap.size W Vs := by rw [hV]; (repeat (first | (with_reducible exact Below.refl _ _) | (with_reducible assumption) | (with_reducible refine below_drewN ?_ _) | (with_reducible refine Below.drew ?_) | ((with_reducible refine Below.alloc ?_ ?_ _); rotate_left; focus (first | (with_reducible exact Nat.le_refl _) | omega | (simp; done) | (simp; omega))) | ((with_reducible refine Below.setCell (p := ⟨_, _, _⟩) ?_ ?_ _); rotate_left; focus (first | (with_reducible exact Nat.le_refl _) | omega | (simp; done) | (simp; omega)))))
        have RT := Lib.hid (show Vs.heap[T']? = some (.cells #[.int .i64 1] 3 (0, 0)) by rw [hV, hT]; exact (alloc2s W _ _).1)
        have RC := Lib.hid (show Vs.heap[T' + 1]? = some (.cells #[.int .i64 0] 3 (0, 0)) by rw [hV, hT]; exact (alloc2s W _ _).2)
        have hz : Vs.heap.size = T' + 1 + 1 := by rw [hV, hT]; simp
        have ES := Lib.hid (EW.out.trans (hg.mono EW.out.size))
        have Q1s := Lib.hid (blk_keep Q1w.out hg)
        have Q3s := Lib.hid (blk_keep Q3w.out hg)
        have QWs := Lib.hid (blk_keep QWw.out hg)
        have OWs := Lib.hid (owns_below OWw.out hg)
        have DS := Lib.hid ((hg.block _ (lt_of_block DW.out)).trans DW.out)
        have GS := Lib.hid (GW.out.trans (hg.mono GW.out.size))
        have hTT' : T + 1 < T' := by rw [hT]; have := HZR.out; omega
        have HDT := Lib.hid (show Vr.heap.size < T' by rw [hT]; exact lt_of_block DW.out)
        have HZS := Lib.hid hz
        have HTs := Lib.hid hT
        clear hV hT hg hz bT hC hR hD hk hzD
        refine (wpIn_wide (n := 8)).1 (wpIn_rangeQ (n := 8) rfl (enters_of Try.func34 (by kernel_rfl) rfl) (taken_seq 7 (by decide) lb l fr xs (by omega) (by omega) (by omega) W9 HTK.out) GS.out (by intro _; rfl)
          (fun k W => Rnd (T' + 1) (T' + 1 + 1) Vs W ∧ W.heap[T' + 1]? = some (.cells #[.int .i64 (k : Int)] 3 (0, 0)))
          (fun _ _ _ => False)
          (fun k A B ⟨h1, h2⟩ hAB => ⟨h1.below_of hAB, (hAB.block _ (by rw [HZS.out]; omega)).trans h2⟩)
          (fun c k A B hc _ => hc)
          ⟨Rnd.refl _ _ _, RC.out⟩ ?round2 ?done2 ?stop2)
        case round2 =>
          rintro lp k ⟨i, x1, x2⟩ W K hx hzW ⟨hR, hC⟩ hK
          have hlk := (List.getElem?_eq_some_iff.1 hx).1
          have hxi := runT_at hx
          dsimp only at hxi
          have hil := (List.getElem?_eq_some_iff.1 hxi).1
          obtain ⟨b, off, cap', hv, hb, hcell⟩ := S0.out.atP hil
          cases hv
          obtain ⟨g, cap, hv, hg1, hg2⟩ := OWs.out.form (by omega)
          cases hv
          have hgT := HGT.out g rfl
          have hrow : Vs.cell? ⟨g, k, none⟩ = some (.int .i64 (i : Int)) := by
            rw [OWs.out.cellAt _ (by omega)]
            rw [flat_encI, List.map_map, List.getElem?_map, hx]
            rfl
          have HC := Lib.hid (hcell i _ hxi)
          gi_wp2
          refine hK _ _ ((Below.refl _ _).alloc (Nat.le_refl _) _) ?_
          intro l' W2 hkept hz2 ⟨hR2, hC2⟩
          have hR2' := Lib.hid hR2
          have hC2' := Lib.hid hC2
          have b19 := cells2 (hkept.blk (blk_new W (.cells #[.int .i64 x1, .int .i64 x2] 27)))
          have bT := cells1 (hR2.keep RT.out (.inl (Nat.lt_succ_self _)))
          have bC := cells1 hC2
          have bW := cells1 (hR2.keep QWs.out (.inl (by omega)))
          have bS := cells1 (hR2.keep Q1s.out (.inl (by omega)))
          have hrow2 := (World.cell?_of_block (a := ⟨g, k, none⟩) (hR2.block g hg2 (.inl (by omega)))).trans hrow
          have hbV := Nat.lt_of_lt_of_le hb ES.out.size
          have hcx1 := (World.cell?_of_block (a := ⟨b, off + i * 2, none⟩) (hR2.block b hbV (.inl (by omega)))).trans ((ES.out.cell (p := ⟨b, off + i * 2, none⟩) hb).trans HC.out.1)
          have hcx2 := (World.cell?_of_block (a := ⟨b, off + i * 2 + 1, none⟩) (hR2.block b hbV (.inl (by omega)))).trans ((ES.out.cell (p := ⟨b, off + i * 2 + 1, none⟩) hb).trans HC.out.2)
          have i0 : (0 : Int) ≤ (i : Int) := by omega
          have k0 : (0 : Int) ≤ (k : Int) := by omega
          have kl : decide ((runT fr l 0 xs).length ≤ k) = false := by simp; omega
          have hk40 : (k : Int) < 1000 := by have := runT_len (fr := fr) (xs := xs) (l := l) (i := 0); omega
          clear hK hkept hcell hrow hR2 hC2 hx hxi hC hR
          gi_wp2
          refine wpIn_region_quiet_round (by kernel_rfl) (by kernel_rfl) (by kernel_rfl) ?_
          repeat (gi_big_quiet_step (fail))
          refine wpQuietIn_nil ?_
          intro _ hw'
          obtain ⟨nq, hw''⟩ := hw'
          subst hw''
          have RW := Lib.hid (((Rnd.refl W9.heap.size Vs.heap.size W2).drewN nq).setCell (p := ⟨T' + 1, 0, none⟩) (.inl ⟨by dsimp only; have := HT9.out; omega, by dsimp only; have := HZS.out; omega⟩) (.int .i64 ((k : Int) + 1)))
          have RI := Lib.hid ((hR2'.out.drewN nq).setCell (p := ⟨T' + 1, 0, none⟩) (.inl ⟨Nat.le_refl _, Nat.lt_succ_self _⟩) (.int .i64 ((k : Int) + 1)))
          have CI := Lib.hid (show ((W2.drewN nq).setCell ⟨T' + 1, 0, none⟩ (.int .i64 ((k : Int) + 1))).heap[T' + 1]? = some (.cells #[.int .i64 ((k + 1 : Nat) : Int)] 3 (0, 0)) from
            Boxed.set (.int .i64 ((k : Int) + 1)) (show Boxed (W2.drewN nq) (T' + 1) 3 _ from hC2'.out))
          gi_wp2
          exact ⟨RW.out, RI.out, CI.out⟩
        case stop2 => rintro c k W _ _ ⟨⟩
        case done2 =>
          rintro W' ⟨hR, hC⟩ hD hzD
          have bT := cells1 (hR.keep RT.out (.inl (Nat.lt_succ_self _)))
          have bC := cells1 hC
          have bW := cells1 (hR.keep QWs.out (.inl (by omega)))
          have Q3t := Lib.hid (hR.keep Q3s.out (.inl (by omega)))
          have DT := Lib.hid (hR.keep DS.out (.inl (by have := HDT.out; omega)))
          have D2 := Lib.hid hD
          have ET := Lib.hid (below_rnd ES.out hR (by omega))
          have hDs : Vr.heap.size ≠ Vs.heap.size := by have := HDT.out; have := HZS.out; omega
          clear hC hR hD
          go_wp2_with fail
          rw [rounds_succ]
          go_wp2_with fail
          have hgW : Below W'.heap.size W' (W'.alloc (.cells #[.int .i64 2] 3)) := (Below.refl _ _).alloc (Nat.le_refl _) _
          refine (works_any _).mono ?_
          rintro e W3 ⟨rfl, hB3⟩
          have hg3 := hgW.trans (hB3.mono hgW.size)
          have Q3u := Lib.hid (blk_keep Q3t.out hg3)
          have DU := Lib.hid ((hg3.block _ (lt_of_block DT.out)).trans DT.out)
          have D2u := Lib.hid ((hg3.block _ (lt_of_block D2.out)).trans D2.out)
          have EU := Lib.hid (ET.out.trans (hg3.mono ET.out.size))
          have p3 := cells1 Q3u.out
          clear hg3 hB3 hgW bT bC bW
          go_wp2
          have hne1 : w.heap.size + 1 + 1 + 1 ≠ Vs.heap.size := by have := HDT.out; have := HZS.out; omega
          have hne2 : w.heap.size + 1 + 1 + 1 ≠ Vr.heap.size := by have := HZR.out; omega
          have q3 : (W3.setCell ⟨w.heap.size + 1 + 1 + 1, 0, none⟩ (.bool true)).heap[w.heap.size + 1 + 1 + 1]? = some (.cells #[.bool true] 4 (0, 0)) := Boxed.set (.bool true) (show Boxed W3 (w.heap.size + 1 + 1 + 1) 4 _ from Q3u.out)
          have k2 : (W3.setCell ⟨w.heap.size + 1 + 1 + 1, 0, none⟩ (.bool true)).heap[Vs.heap.size]? = some (.deferred (some [])) := blk_set_other _ D2u.out hne1.symm
          have k1 : ((W3.setCell ⟨w.heap.size + 1 + 1 + 1, 0, none⟩ (.bool true)).putObj Vs.heap.size (.deferred none)).heap[Vr.heap.size]? = some (.deferred (some [])) := (World.putObj_heap_other hDs).trans (blk_set_other _ DU.out hne2.symm)
          have c5 := (cells1 ((World.putObj_heap_other (o := .deferred none) hne2).trans ((World.putObj_heap_other (o := .deferred none) hne1).trans q3))).1
          refine ⟨by simp, .inl ⟨_, _, rfl, run_takeDeferred k2, ?_⟩⟩
          refine ⟨by simp, .inl ⟨_, _, rfl, run_takeDeferred k1, ?_⟩⟩
          refine ⟨.bool true, ?_, rfl, ((EU.out.setCell (p := ⟨_, _, _⟩) (by dsimp only; omega) _).trans (below_putObj _ _ (by have := HZS.out; omega))).trans (below_putObj _ _ (by have := HZR.out; omega))⟩
          simp [results, Try.results7, go_sem, c5]
    case stop =>
      rintro c k W hk0 hk1 ⟨rfl, hR, hC, hm, hk⟩ hD hzD
      have bT := cells1 (hR.keep QT.out (.inl (Nat.lt_succ_self _)))
      have bC := cells1 hC
      have bW := cells1 (hR.keep QWc.out (.inl (by omega)))
      have bM := cells1 (hR.keep QMc.out (.inl (by omega)))
      refine wpIn_wide.2 ?_
      go_upto_region 28 with fail
      go_cut [121] from 101 to 121 (fun s121 wx => s121 = .bool false ∧ wx = W)
      case first =>
        have hkl : (k : Int) ≤ ((runT fr l 0 xs).length : Int) := by omega
        by_cases h1 : many ≤ 1
        · have h0 : (k : Int) ≤ 1 := by omega
          have h0' : 1 ≤ (k : Int) := by omega
          have h2 : 1 ≤ ((runT fr l 0 xs).length : Int) := by omega
          clear hk
          go_wp2_with fail
          all_goals (go_meet; exact ⟨by first | rfl | (simp; omega), rfl⟩)
        · have h0 : (k : Int) ≤ many := by omega
          have h2 : many ≤ ((runT fr l 0 xs).length : Int) := by omega
          clear hk
          go_wp2_with fail
          all_goals (go_meet; exact ⟨by first | rfl | (simp; omega), rfl⟩)
      case rest =>
        obtain ⟨rfl, rfl⟩ := hcut
        obtain ⟨W, rfl⟩ : ∃ W : World, W = wc := ⟨_, rfl⟩
        have EW := Lib.hid (below_rnd EC.out hR (by omega))
        have Q1w := Lib.hid (hR.keep Q1c.out (.inl (by omega)))
        have Q3w := Lib.hid (hR.keep Q3c.out (.inl (by omega)))
        have QMw := Lib.hid (hR.keep QMc.out (.inl (by omega)))
        have QWw := Lib.hid (hR.keep QWc.out (.inl (by omega)))
        have GW := Lib.hid (below_rnd HG.out hR (by have := HT9.out; omega))
        have OWw := Lib.hid (own_rnd OWc.out hR (fun g e => .inl (by have := HGT.out g e; omega)))
        have DW := Lib.hid hD
        clear bC bM bW
        go_wp2_with fail
        rw [rounds_succ]
        go_wp2_with fail
        obtain ⟨Vs, hV⟩ : ∃ V, V = (W.alloc (.cells #[.int .i64 1] 3)).alloc (.cells #[.int .i64 0] 3) := ⟨_, rfl⟩
        obtain ⟨T', hT⟩ : ∃ T, T = W.heap.size := ⟨_, rfl⟩
        rw [← hV, ← hT]
        have hg : Below W.heap.size W Vs := by rw [hV]; (repeat (first | (with_reducible exact Below.refl _ _) | (with_reducible assumption) | (with_reducible refine below_drewN ?_ _) | (with_reducible refine Below.drew ?_) | ((with_reducible refine Below.alloc ?_ ?_ _); rotate_left; focus (first | (with_reducible exact Nat.le_refl _) | omega | (simp; done) | (simp; omega))) | ((with_reducible refine Below.setCell (p := ⟨_, _, _⟩) ?_ ?_ _); rotate_left; focus (first | (with_reducible exact Nat.le_refl _) | omega | (simp; done) | (simp; omega)))))
        have RT := Lib.hid (show Vs.heap[T']? = some (.cells #[.int .i64 1] 3 (0, 0)) by rw [hV, hT]; exact (alloc2s W _ _).1)
        have RC := Lib.hid (show Vs.heap[T' + 1]? = some (.cells #[.int .i64 0] 3 (0, 0)) by rw [hV, hT]; exact (alloc2s W _ _).2)
        have hz : Vs.heap.size = T' + 1 + 1 := by rw [hV, hT]; simp
        have ES := Lib.hid (EW.out.trans (hg.mono EW.out.size))
        have Q1s := Lib.hid (blk_keep Q1w.out hg)
        have Q3s := Lib.hid (blk_keep Q3w.out hg)
        have QWs := Lib.hid (blk_keep QWw.out hg)
        have OWs := Lib.hid (owns_below OWw.out hg)
        have DS := Lib.hid ((hg.block _ (lt_of_block DW.out)).trans DW.out)
        have GS := Lib.hid (GW.out.trans (hg.mono GW.out.size))
        have hTT' : T + 1 < T' := by rw [hT]; have := HZR.out; omega
        have HDT := Lib.hid (show Vr.heap.size < T' by rw [hT]; exact lt_of_block DW.out)
        have HZS := Lib.hid hz
        have HTs := Lib.hid hT
        clear hV hT hg hz bT hC hR hD hk hzD
        refine (wpIn_wide (n := 8)).1 (wpIn_rangeQ (n := 8) rfl (enters_of Try.func34 (by kernel_rfl) rfl) (taken_seq 7 (by decide) lb l fr xs (by omega) (by omega) (by omega) W9 HTK.out) GS.out (by intro _; rfl)
          (fun k W => Rnd (T' + 1) (T' + 1 + 1) Vs W ∧ W.heap[T' + 1]? = some (.cells #[.int .i64 (k : Int)] 3 (0, 0)))
          (fun _ _ _ => False)
          (fun k A B ⟨h1, h2⟩ hAB => ⟨h1.below_of hAB, (hAB.block _ (by rw [HZS.out]; omega)).trans h2⟩)
          (fun c k A B hc _ => hc)
          ⟨Rnd.refl _ _ _, RC.out⟩ ?round2 ?done2 ?stop2)
        case round2 =>
          rintro lp k ⟨i, x1, x2⟩ W K hx hzW ⟨hR, hC⟩ hK
          have hlk := (List.getElem?_eq_some_iff.1 hx).1
          have hxi := runT_at hx
          dsimp only at hxi
          have hil := (List.getElem?_eq_some_iff.1 hxi).1
          obtain ⟨b, off, cap', hv, hb, hcell⟩ := S0.out.atP hil
          cases hv
          obtain ⟨g, cap, hv, hg1, hg2⟩ := OWs.out.form (by omega)
          cases hv
          have hgT := HGT.out g rfl
          have hrow : Vs.cell? ⟨g, k, none⟩ = some (.int .i64 (i : Int)) := by
            rw [OWs.out.cellAt _ (by omega)]
            rw [flat_encI, List.map_map, List.getElem?_map, hx]
            rfl
          have HC := Lib.hid (hcell i _ hxi)
          gi_wp2
          refine hK _ _ ((Below.refl _ _).alloc (Nat.le_refl _) _) ?_
          intro l' W2 hkept hz2 ⟨hR2, hC2⟩
          have hR2' := Lib.hid hR2
          have hC2' := Lib.hid hC2
          have b19 := cells2 (hkept.blk (blk_new W (.cells #[.int .i64 x1, .int .i64 x2] 27)))
          have bT := cells1 (hR2.keep RT.out (.inl (Nat.lt_succ_self _)))
          have bC := cells1 hC2
          have bW := cells1 (hR2.keep QWs.out (.inl (by omega)))
          have bS := cells1 (hR2.keep Q1s.out (.inl (by omega)))
          have hrow2 := (World.cell?_of_block (a := ⟨g, k, none⟩) (hR2.block g hg2 (.inl (by omega)))).trans hrow
          have hbV := Nat.lt_of_lt_of_le hb ES.out.size
          have hcx1 := (World.cell?_of_block (a := ⟨b, off + i * 2, none⟩) (hR2.block b hbV (.inl (by omega)))).trans ((ES.out.cell (p := ⟨b, off + i * 2, none⟩) hb).trans HC.out.1)
          have hcx2 := (World.cell?_of_block (a := ⟨b, off + i * 2 + 1, none⟩) (hR2.block b hbV (.inl (by omega)))).trans ((ES.out.cell (p := ⟨b, off + i * 2 + 1, none⟩) hb).trans HC.out.2)
          have i0 : (0 : Int) ≤ (i : Int) := by omega
          have k0 : (0 : Int) ≤ (k : Int) := by omega
          have kl : decide ((runT fr l 0 xs).length ≤ k) = false := by simp; omega
          have hk40 : (k : Int) < 1000 := by have := runT_len (fr := fr) (xs := xs) (l := l) (i := 0); omega
          clear hK hkept hcell hrow hR2 hC2 hx hxi hC hR
          gi_wp2
          refine wpIn_region_quiet_round (by kernel_rfl) (by kernel_rfl) (by kernel_rfl) ?_
          repeat (gi_big_quiet_step (fail))
          refine wpQuietIn_nil ?_
          intro _ hw'
          obtain ⟨nq, hw''⟩ := hw'
          subst hw''
          have RW := Lib.hid (((Rnd.refl W9.heap.size Vs.heap.size W2).drewN nq).setCell (p := ⟨T' + 1, 0, none⟩) (.inl ⟨by dsimp only; have := HT9.out; omega, by dsimp only; have := HZS.out; omega⟩) (.int .i64 ((k : Int) + 1)))
          have RI := Lib.hid ((hR2'.out.drewN nq).setCell (p := ⟨T' + 1, 0, none⟩) (.inl ⟨Nat.le_refl _, Nat.lt_succ_self _⟩) (.int .i64 ((k : Int) + 1)))
          have CI := Lib.hid (show ((W2.drewN nq).setCell ⟨T' + 1, 0, none⟩ (.int .i64 ((k : Int) + 1))).heap[T' + 1]? = some (.cells #[.int .i64 ((k + 1 : Nat) : Int)] 3 (0, 0)) from
            Boxed.set (.int .i64 ((k : Int) + 1)) (show Boxed (W2.drewN nq) (T' + 1) 3 _ from hC2'.out))
          gi_wp2
          exact ⟨RW.out, RI.out, CI.out⟩
        case stop2 => rintro c k W _ _ ⟨⟩
        case done2 =>
          rintro W' ⟨hR, hC⟩ hD hzD
          have bT := cells1 (hR.keep RT.out (.inl (Nat.lt_succ_self _)))
          have bC := cells1 hC
          have bW := cells1 (hR.keep QWs.out (.inl (by omega)))
          have Q3t := Lib.hid (hR.keep Q3s.out (.inl (by omega)))
          have DT := Lib.hid (hR.keep DS.out (.inl (by have := HDT.out; omega)))
          have D2 := Lib.hid hD
          have ET := Lib.hid (below_rnd ES.out hR (by omega))
          have hDs : Vr.heap.size ≠ Vs.heap.size := by have := HDT.out; have := HZS.out; omega
          clear hC hR hD
          go_wp2_with fail
          rw [rounds_succ]
          go_wp2_with fail
          have hgW : Below W'.heap.size W' (W'.alloc (.cells #[.int .i64 2] 3)) := (Below.refl _ _).alloc (Nat.le_refl _) _
          refine (works_any _).mono ?_
          rintro e W3 ⟨rfl, hB3⟩
          have hg3 := hgW.trans (hB3.mono hgW.size)
          have Q3u := Lib.hid (blk_keep Q3t.out hg3)
          have DU := Lib.hid ((hg3.block _ (lt_of_block DT.out)).trans DT.out)
          have D2u := Lib.hid ((hg3.block _ (lt_of_block D2.out)).trans D2.out)
          have EU := Lib.hid (ET.out.trans (hg3.mono ET.out.size))
          have p3 := cells1 Q3u.out
          clear hg3 hB3 hgW bT bC bW
          go_wp2
          have hne1 : w.heap.size + 1 + 1 + 1 ≠ Vs.heap.size := by have := HDT.out; have := HZS.out; omega
          have hne2 : w.heap.size + 1 + 1 + 1 ≠ Vr.heap.size := by have := HZR.out; omega
          have q3 : (W3.setCell ⟨w.heap.size + 1 + 1 + 1, 0, none⟩ (.bool true)).heap[w.heap.size + 1 + 1 + 1]? = some (.cells #[.bool true] 4 (0, 0)) := Boxed.set (.bool true) (show Boxed W3 (w.heap.size + 1 + 1 + 1) 4 _ from Q3u.out)
          have k2 : (W3.setCell ⟨w.heap.size + 1 + 1 + 1, 0, none⟩ (.bool true)).heap[Vs.heap.size]? = some (.deferred (some [])) := blk_set_other _ D2u.out hne1.symm
          have k1 : ((W3.setCell ⟨w.heap.size + 1 + 1 + 1, 0, none⟩ (.bool true)).putObj Vs.heap.size (.deferred none)).heap[Vr.heap.size]? = some (.deferred (some [])) := (World.putObj_heap_other hDs).trans (blk_set_other _ DU.out hne2.symm)
          have c5 := (cells1 ((World.putObj_heap_other (o := .deferred none) hne2).trans ((World.putObj_heap_other (o := .deferred none) hne1).trans q3))).1
          refine ⟨by simp, .inl ⟨_, _, rfl, run_takeDeferred k2, ?_⟩⟩
          refine ⟨by simp, .inl ⟨_, _, rfl, run_takeDeferred k1, ?_⟩⟩
          refine ⟨.bool true, ?_, rfl, ((EU.out.setCell (p := ⟨_, _, _⟩) (by dsimp only; omega) _).trans (below_putObj _ _ (by have := HZS.out; omega))).trans (below_putObj _ _ (by have := HZR.out; omega))⟩
          simp [results, Try.results7, go_sem, c5]

end Go.Proofs.Ytijifbkikgooiaa
