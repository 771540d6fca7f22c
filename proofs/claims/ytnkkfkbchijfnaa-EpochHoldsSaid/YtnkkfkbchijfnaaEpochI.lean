/- Epochs: EpochHolds, walked, for at most 60 acts. -/
import Derived.Test.YtnkkfkbchijfnaaEpochH
import Derived.Test.YtnkkfkbchijfnaaLib4
import Derived.Deep.LoopGhost
import Derived.Deep.DeepCutAuto
import Derived.Deep.RegionHeld3
import Derived.Deep.QuietTactic
import Derived.BigQuiet
namespace Go.Proofs.Ytnkkfkbchijfnaa
open Go.RowKit Go.Shelf

set_option maxRecDepth 100000 in
set_option maxHeartbeats 8000000 in
theorem holds_small (n l s a1 a2 b1 b2 c1 c2 : Int) (w : World) (sv : Value) (xs : List (Bool × Int × Int)) (hlen : xs.length ≤ 60) (hS : Sl encA 3 w sv xs) (hs : shapeB n l s = true) :
    Calls Try.prog 4 #[.agg #[.int .i64 n, .int .i64 l, .int .i64 s], .agg #[.int .i64 a1, .int .i64 a2, .int .i64 b1, .int .i64 b2, .int .i64 c1, .int .i64 c2], sv] w fun e w' => e = .returned (.bool true) ∧ Below w.heap.size w w' := by
  obtain ⟨ao, cap, rfl⟩ := hS.shape
  have HS := Lib.hid hS
  have sc := fun W => refShape_any n l s W
  rw [hs] at sc
  have SC := Lib.hid sc
  obtain ⟨x, hx⟩ : ∃ o, o = ordS (a1, a2) (b1, b2) := ⟨_, rfl⟩
  obtain ⟨y, hy⟩ : ∃ o, o = ordS (b1, b2) (c1, c2) := ⟨_, rfl⟩
  obtain ⟨z, hz⟩ : ∃ o, o = ordS (a1, a2) (c1, c2) := ⟨_, rfl⟩
  have HX := Lib.hid hx.symm
  have HY := Lib.hid hy.symm
  have HZ := Lib.hid hz.symm
  have h60 : decide (60 < xs.length) = false := by simp; omega
  have h60' : decide (60 < (xs.length : Int)) = false := by simp; omega
  clear hx hy hz sc hs hS
  go_enter Try.func4, Try.ntmps4
  go_wp2_with fail
  obtain ⟨V0, hV⟩ : ∃ V, V = (w.alloc (.cells #[.int .i64 n, .int .i64 l, .int .i64 s] 23)).alloc (.cells #[.int .i64 a1, .int .i64 a2, .int .i64 b1, .int .i64 b2, .int .i64 c1, .int .i64 c2] 36) := ⟨_, rfl⟩
  rw [← hV]
  have E0 : Below w.heap.size w V0 := by rw [hV]; (repeat (first | (with_reducible exact Below.refl _ _) | (with_reducible assumption) | (with_reducible refine below_drewN ?_ _) | (with_reducible refine Below.drew ?_) | ((with_reducible refine Below.alloc ?_ ?_ _); rotate_left; focus (first | (with_reducible exact Nat.le_refl _) | omega | (simp; done) | (simp; omega))) | ((with_reducible refine Below.setCell (p := ⟨_, _, _⟩) ?_ ?_ _); rotate_left; focus (first | (with_reducible exact Nat.le_refl _) | omega | (simp; done) | (simp; omega)))))
  have bS : V0.heap[w.heap.size]? = some (.cells #[.int .i64 n, .int .i64 l, .int .i64 s] 23 (0, 0)) := by rw [hV]; exact blk_old _ (blk_new _ _)
  have bL : V0.heap[w.heap.size + 1]? = some (.cells #[.int .i64 a1, .int .i64 a2, .int .i64 b1, .int .i64 b2, .int .i64 c1, .int .i64 c2] 36 (0, 0)) := by
    rw [hV]; have := blk_new (w.alloc (.cells #[.int .i64 n, .int .i64 l, .int .i64 s] 23)) (.cells #[.int .i64 a1, .int .i64 a2, .int .i64 b1, .int .i64 b2, .int .i64 c1, .int .i64 c2] 36); rw [World.size_alloc] at this; exact this
  have BS := Lib.hid bS
  have BL := Lib.hid bL
  clear hV bS bL
  refine (SC.out _).mono ?_
  rintro e V1 ⟨rfl, hB1⟩
  have BS := Lib.hid (blk_below BS.out hB1 (lt_of_block BS.out))
  have BL := Lib.hid (blk_below BL.out hB1 (lt_of_block BL.out))
  have E1 := E0.trans (hB1.mono E0.size)
  clear hB1 E0
  go_upto_region 3 with fail
  have r1 := lt_of_block BL.out
  have PB := Lib.hid (Below.refl V1.heap.size V1)
  go_cut [7, 8, 9] (fun s7 s8 s9 wx => s7 = .int .i64 x ∧ s8 = .int .i64 y ∧ s9 = .int .i64 z ∧ Below V1.heap.size V1 wx)
  case first => as_aux_lemma =>
    have k := cells6 BL.out
    go_region_held3 (fun w' => w'.cell? ⟨w.heap.size + 1, 0, none⟩ = some (.int .i64 a1) ∧ w'.cell? ⟨w.heap.size + 1, 1, none⟩ = some (.int .i64 a2) ∧ w'.cell? ⟨w.heap.size + 1, 2, none⟩ = some (.int .i64 b1) ∧ w'.cell? ⟨w.heap.size + 1, 3, none⟩ = some (.int .i64 b2) ∧ w'.cell? ⟨w.heap.size + 1, 4, none⟩ = some (.int .i64 c1) ∧ w'.cell? ⟨w.heap.size + 1, 5, none⟩ = some (.int .i64 c2)) (go_keep)
      (first
        | (go_at_call 13
           (first | (with_reducible refine (order_is HX.out _).mono ?_) | (with_reducible refine (order_is HY.out _).mono ?_) | (with_reducible refine (order_is HZ.out _).mono ?_))
           rintro e U ⟨rfl, hU⟩
           have PB := Lib.hid (Below.trans (by have := PB.out; repeat (first | (with_reducible exact Below.refl _ _) | (with_reducible assumption) | (with_reducible refine below_drewN ?_ _) | (with_reducible refine Below.drew ?_) | ((with_reducible refine Below.alloc ?_ ?_ _); rotate_left; focus (first | (with_reducible exact Nat.le_refl _) | omega | (simp; done) | (simp; omega))) | ((with_reducible refine Below.setCell (p := ⟨_, _, _⟩) ?_ ?_ _); rotate_left; focus (first | (with_reducible exact Nat.le_refl _) | omega | (simp; done) | (simp; omega))))) (hU.mono (by have := PB.out.size; (try simp); try omega)) : Below V1.heap.size V1 U)
           have cU := (bcell PB.out).1
           clear hU))
    go_wp2_with fail
    go_meet
    exact ⟨rfl, rfl, rfl, by have := PB.out; repeat (first | (with_reducible exact Below.refl _ _) | (with_reducible assumption) | (with_reducible refine below_drewN ?_ _) | (with_reducible refine Below.drew ?_) | ((with_reducible refine Below.alloc ?_ ?_ _); rotate_left; focus (first | (with_reducible exact Nat.le_refl _) | omega | (simp; done) | (simp; omega))) | ((with_reducible refine Below.setCell (p := ⟨_, _, _⟩) ?_ ?_ _); rotate_left; focus (first | (with_reducible exact Nat.le_refl _) | omega | (simp; done) | (simp; omega))))⟩
  case rest =>
    obtain ⟨rfl, rfl, rfl, hB2⟩ := hcut
    clear PB
    have BS := Lib.hid (blk_keep BS.out hB2)
    have BL := Lib.hid (blk_keep BL.out hB2)
    have E2 := E1.trans (hB2.mono E1.size)
    obtain ⟨V2, rfl⟩ : ∃ V2 : World, V2 = wc := ⟨_, rfl⟩
    clear hB2 E1 r1
    have r1 := lt_of_block BL.out
    go_upto_region 4 with fail
    go_cut [83] (fun s83 wx => s83 = .bool false ∧ Below V2.heap.size V2 wx)
    case first => as_aux_lemma =>
      have k := cells6 BL.out
      rcases ordS_cases (a1, a2) (b1, b2) with h | h | h
      · obtain rfl : x = -1 := by rw [← HX.out, h]
        have HN := Lib.hid (show ordS (b1, b2) (a1, a2) = 1 by have := ordS_neg (a1, a2) (b1, b2); omega)
        have heq := run_eql_epoch (ordS_ne (a := (a1, a2)) (b := (b1, b2)) (by omega))
        by_cases hy : y < 0
        · obtain rfl : z = -1 := by rw [← HZ.out, ordS_down h (b := (b1, b2)) (by have := HY.out; rcases ordS_cases (b1, b2) (c1, c2) with h' | h' | h' <;> omega)]
          clear h
          go_wp2_with (go_at_call 13; (with_reducible refine (order_is HN.out _).mono ?_); rintro e U ⟨rfl, hU⟩)
          go_meet
          exact ⟨rfl, hU⟩
        · have hy' : decide (y < 0) = false := by simpa using hy
          clear h hy
          go_wp2_with (go_at_call 13; (with_reducible refine (order_is HN.out _).mono ?_); rintro e U ⟨rfl, hU⟩)
          go_meet
          exact ⟨rfl, hU⟩
      · obtain rfl : x = 1 := by rw [← HX.out, h]
        have HN := Lib.hid (show ordS (b1, b2) (a1, a2) = -1 by have := ordS_neg (a1, a2) (b1, b2); omega)
        have heq := run_eql_epoch (ordS_ne (a := (a1, a2)) (b := (b1, b2)) (by omega))
        by_cases hy : 0 < y
        · obtain rfl : z = 1 := by rw [← HZ.out, ordS_up h (b := (b1, b2)) (by have := HY.out; rcases ordS_cases (b1, b2) (c1, c2) with h' | h' | h' <;> omega)]
          clear h
          go_wp2_with (go_at_call 13; (with_reducible refine (order_is HN.out _).mono ?_); rintro e U ⟨rfl, hU⟩)
          go_meet
          exact ⟨rfl, hU⟩
        · have hy' : decide (0 < y) = false := by simpa using hy
          clear h hy
          go_wp2_with (go_at_call 13; (with_reducible refine (order_is HN.out _).mono ?_); rintro e U ⟨rfl, hU⟩)
          go_meet
          exact ⟨rfl, hU⟩
      · obtain rfl : x = 0 := by rw [← HX.out, h]
        have HN := Lib.hid (show ordS (b1, b2) (a1, a2) = 0 by have := ordS_neg (a1, a2) (b1, b2); omega)
        have hq := ordS_zero h
        simp only [Prod.mk.injEq] at hq
        obtain ⟨rfl, rfl⟩ := hq
        clear h
        go_wp2_with (go_at_call 13; (with_reducible refine (order_is HN.out _).mono ?_); rintro e U ⟨rfl, hU⟩)
        go_meet
        exact ⟨rfl, hU⟩
    case rest =>
      obtain ⟨rfl, hB3⟩ := hcut
      have BS := Lib.hid (blk_keep BS.out hB3)
      have BL := Lib.hid (blk_keep BL.out hB3)
      have E3 := E2.trans (hB3.mono E2.size)
      obtain ⟨V3, rfl⟩ : ∃ V3 : World, V3 = wc := ⟨_, rfl⟩
      clear hB3 E2 r1 HX HY HZ
      go_upto_region 6 with fail
      go_cut [10, 11] (fun s10 s11 wx => ∃ n1 n2 ne Z, s10 = .pointer (some ⟨Z, 0, none⟩) ∧ s11 = .int .i64 ne ∧ wx.heap[Z]? = some (.cells #[.int .i64 n1, .int .i64 n2] 25 (0, 0)) ∧ (¬ ne = 0 ∨ ne = 0 ∧ ordS (n1, n2) (a1, a2) = 1) ∧ Below V3.heap.size V3 wx)
      case first => as_aux_lemma =>
        obtain ⟨⟨⟨n1, n2⟩, ne⟩, hN⟩ : ∃ q, nextR n l s (a1, a2) 0 = q := ⟨_, rfl⟩
        have hne : ¬ ne = 0 ∨ ne = 0 ∧ ordS (n1, n2) (a1, a2) = 1 := by
          by_cases h : ne = 0
          · subst h; exact .inr ⟨rfl, next_later hN⟩
          · exact .inl h
        have kk := fun W => next_any n l s a1 a2 0 W
        rw [hN] at kk
        have KK := Lib.hid kk
        have HE := Lib.hid hne
        have k := cells6 BL.out
        have k3 := cells3 BS.out
        clear kk hN hne
        go_wp2_with fail
        refine (KK.out _).mono ?_
        rintro e U ⟨rfl, hU⟩
        dsimp only
        go_wp2_with fail
        go_meet
        exact ⟨n1, n2, ne, _, rfl, rfl, blk_new _ _, HE.out, hU.alloc hU.size _⟩
      case rest =>
        obtain ⟨n1, n2, ne, Z, rfl, rfl, bZ, hne, hB4⟩ := hcut
        have BS := Lib.hid (blk_keep BS.out hB4)
        have BL := Lib.hid (blk_keep BL.out hB4)
        have E4 := E3.trans (hB4.mono E3.size)
        have BZ := Lib.hid bZ
        obtain ⟨V4, rfl⟩ : ∃ V4 : World, V4 = wc := ⟨_, rfl⟩
        clear hB4 E3 bZ
        go_upto_region 7 with fail
        go_cut [100] (fun s100 wx => s100 = .bool false ∧ Below V4.heap.size V4 wx)
        case first => as_aux_lemma =>
          rcases hne with hne | ⟨rfl, hne⟩
          · go_wp2_with (go_at_call 10; refine (num_any _ _).mono ?_; rintro e w' ⟨rfl, rfl⟩)
            go_meet
            exact ⟨rfl, Below.refl _ _⟩
          · have HN := Lib.hid hne
            have k := cells6 BL.out
            have kz := cells2 BZ.out
            clear hne
            go_wp2_with (first | (go_at_call 10; refine (num_any _ _).mono ?_; rintro e w' ⟨rfl, rfl⟩) | (go_at_call 13; (with_reducible refine (order_is HN.out _).mono ?_); rintro e U ⟨rfl, hU⟩))
            go_meet
            exact ⟨rfl, hU⟩
        case rest =>
          obtain ⟨rfl, hB5⟩ := hcut
          have BS := Lib.hid (blk_keep BS.out hB5)
          have E5 := E4.trans (hB5.mono E4.size)
          obtain ⟨V5, rfl⟩ : ∃ V5 : World, V5 = wc := ⟨_, rfl⟩
          clear hB5 E4 BL BZ hne
          have l0 := lt_of_block BS.out
          go_wp2_with fail
          obtain ⟨V6, hV⟩ : ∃ V, V = V5.alloc (.cells #[.int .i64 0, .int .i64 0, .bool false] 27) := ⟨_, rfl⟩
          obtain ⟨P, hP⟩ : ∃ P, P = V5.heap.size := ⟨_, rfl⟩
          rw [← hV, ← hP]
          have BP := Lib.hid (show V6.heap[P]? = some (.cells #[.int .i64 0, .int .i64 0, .bool false] 27 (0, 0)) by rw [hV, hP]; exact blk_new _ _)
          have BS := Lib.hid (show V6.heap[w.heap.size]? = some (.cells #[.int .i64 n, .int .i64 l, .int .i64 s] 23 (0, 0)) by rw [hV]; exact blk_old _ BS.out)
          have EE := Lib.hid (show Below w.heap.size w V6 by rw [hV]; exact E5.alloc E5.size _)
          have hSP : w.heap.size < P := by rw [hP]; exact l0
          have hP6 : P < V6.heap.size := lt_of_block BP.out
          clear hV hP l0 E5
          go_loopg [13] (xs.length) (fun g v13 wr => ∃ k : Nat, g + k = xs.length ∧ v13 = .int .i64 k ∧ RelP w V6 P wr)
          case atStart => exact ⟨0, rfl, rfl, 0, 0, false, BP.out, EE.out, Tch.refl _ _ _⟩
          case round =>
            obtain ⟨k, hk, rfl, a, b, f, bP, hE, hT⟩ := hrel
            have HK := Lib.hid hk
            by_cases hlt : k < xs.length
            · obtain ⟨b0, off, cap', hv, hb, hcell⟩ := HS.out.at_ hlt
              cases hv
              obtain ⟨⟨hh, c, d⟩, hx⟩ := at_some hlt
              have C0 := Lib.hid (fun (W : World) (h : Below w.heap.size w W) => (h.cell (p := ⟨b0, off + k * 3, none⟩) hb).trans (hcell k _ hx 0 _ rfl))
              have C1 := Lib.hid (fun (W : World) (h : Below w.heap.size w W) => (h.cell (p := ⟨b0, off + k * 3 + 1, none⟩) hb).trans (hcell k _ hx 1 _ rfl))
              have C2 := Lib.hid (fun (W : World) (h : Below w.heap.size w W) => (h.cell (p := ⟨b0, off + k * 3 + 2, none⟩) hb).trans (hcell k _ hx 2 _ rfl))
              have i0 : (0 : Int) ≤ (k : Int) := by omega
              have bS := Lib.hid (hT.blk BS.out (by omega) (by simp))
              have hEE := Lib.hid hE
              have hTT := Lib.hid hT
              have hPw : P < wr.heap.size := Nat.lt_of_lt_of_le hP6 hT.1
              have BP := Lib.hid bP
              have p3 := cells3 bP
              have HLT := Lib.hid hlt
              clear hcell hx hk hE hT bP
              go_upto_region 14 with fail
              obtain ⟨V7, hV⟩ : ∃ V, V = wr.alloc (.cells #[.int .i64 a, .int .i64 b, .bool f] 27) := ⟨_, rfl⟩
              obtain ⟨T, hT⟩ : ∃ T, T = wr.heap.size := ⟨_, rfl⟩
              rw [← hV, ← hT]
              have hV6T : V6.heap.size ≤ T := by rw [hT]; exact hTT.out.1
              have hg : Below wr.heap.size wr V7 := by rw [hV]; (repeat (first | (with_reducible exact Below.refl _ _) | (with_reducible assumption) | (with_reducible refine below_drewN ?_ _) | (with_reducible refine Below.drew ?_) | ((with_reducible refine Below.alloc ?_ ?_ _); rotate_left; focus (first | (with_reducible exact Nat.le_refl _) | omega | (simp; done) | (simp; omega))) | ((with_reducible refine Below.setCell (p := ⟨_, _, _⟩) ?_ ?_ _); rotate_left; focus (first | (with_reducible exact Nat.le_refl _) | omega | (simp; done) | (simp; omega)))))
              have bT := Lib.hid (show V7.heap[T]? = some (.cells #[.int .i64 a, .int .i64 b, .bool f] 27 (0, 0)) by rw [hV, hT]; exact blk_new _ _)
              have BP := Lib.hid (blk_keep BP.out hg)
              have bS := Lib.hid (blk_keep bS.out hg)
              have hEE := Lib.hid (hEE.out.trans (hg.mono hEE.out.size))
              have hTT := Lib.hid (hTT.out.below hg)
              have hPT : P < T := by rw [hT]; exact hPw
              have hTV : T < V7.heap.size := lt_of_block bT.out
              clear p3 hV hT hg hPw
              obtain ⟨⟨⟨⟨q1, q2⟩, qf⟩, qb, qe⟩, hq⟩ : ∃ q, askR n l s ((a, b), f) (c, d) = q := ⟨_, rfl⟩
              have kk := fun W : World => ask_any n l s a b c d f W
              rw [hq] at kk
              have KA := Lib.hid kk
              clear kk
              have HQ := Lib.hid hq
              clear hq
              go_cut [15, 16, 17] (fun s15 s16 s17 wx => ∃ Z, s15 = .pointer (some ⟨Z, 0, none⟩) ∧ s16 = .bool qb ∧ s17 = .int .i64 qe ∧ wx.heap[Z]? = some (.cells #[.int .i64 q1, .int .i64 q2, .bool qf] 27 (0, 0)) ∧ V7.heap.size ≤ Z ∧ Below V7.heap.size V7 wx)
              case first => as_aux_lemma =>
                have PB := Lib.hid (Below.refl V7.heap.size V7)
                have s3 := cells3 bS.out
                have p3 := cells3 BP.out
                have x1 := C1.out _ hEE.out
                have x2 := C2.out _ hEE.out
                have hw7 : w.heap.size < V7.heap.size := by omega
                have hP7 : P < V7.heap.size := by omega
                have hb7 : b0 < V7.heap.size := by omega
                have n1 : ¬ V7.heap.size = P := by omega
                have n2 : ¬ V7.heap.size = w.heap.size := by omega
                have n3 : ¬ V7.heap.size = b0 := by omega
                have n1' : ¬ P = V7.heap.size := by omega
                have n2' : ¬ w.heap.size = V7.heap.size := by omega
                have n3' : ¬ b0 = V7.heap.size := by omega
                go_region_held3 (fun w' => w'.cell? ⟨w.heap.size, 0, none⟩ = some (.int .i64 n) ∧ w'.cell? ⟨w.heap.size, 1, none⟩ = some (.int .i64 l) ∧ w'.cell? ⟨w.heap.size, 2, none⟩ = some (.int .i64 s) ∧ w'.cell? ⟨P, 0, none⟩ = some (.int .i64 a) ∧ w'.cell? ⟨P, 1, none⟩ = some (.int .i64 b) ∧ w'.cell? ⟨P, 2, none⟩ = some (.bool f) ∧ w'.cell? ⟨b0, off + k * 3 + 1, none⟩ = some (.int .i64 c) ∧ w'.cell? ⟨b0, off + k * 3 + 2, none⟩ = some (.int .i64 d)) (go_keep)
                  (first
                    | (go_at_call 6
                       refine (KA.out _).mono ?_
                       rintro e U ⟨rfl, hU⟩
                       have PB := Lib.hid (Below.trans (by have := PB.out; repeat (first | (with_reducible exact Below.refl _ _) | (with_reducible assumption) | (with_reducible refine below_drewN ?_ _) | (with_reducible refine Below.drew ?_) | ((with_reducible refine Below.alloc ?_ ?_ _); rotate_left; focus (first | (with_reducible exact Nat.le_refl _) | omega | (simp; done) | (simp; omega))) | ((with_reducible refine Below.setCell (p := ⟨_, _, _⟩) ?_ ?_ _); rotate_left; focus (first | (with_reducible exact Nat.le_refl _) | omega | (simp; done) | (simp; omega))))) (hU.mono (by have := PB.out.size; (try simp); try omega)) : Below V7.heap.size V7 U)
                       have cU := (bcell PB.out).1
                       obtain ⟨dU, fU⟩ := bcell hU
                       have zU2 := hU.size
                       (try simp at zU2)
                       (try (have zU3 := Nat.lt_of_succ_le zU2))
                       (try have hZ7 := Lib.hid (blk_keep (show (V7.alloc (.cells #[.int .i64 0, .int .i64 0, .bool false] 27)).drew.heap[V7.heap.size]? = _ from blk_new _ _) hU))
                       clear hU))
                all_goals
                  go_wp2_with fail
                  go_meet
                  go_light
                  first
                    | (refine ⟨_, rfl, rfl, rfl, blk_new _ _, PB.out.size, ?_⟩
                       have := PB.out
                       repeat (first | (with_reducible exact Below.refl _ _) | (with_reducible assumption) | (with_reducible refine below_drewN ?_ _) | (with_reducible refine Below.drew ?_) | ((with_reducible refine Below.alloc ?_ ?_ _); rotate_left; focus (first | (with_reducible exact Nat.le_refl _) | omega | (simp; done) | (simp; omega))) | ((with_reducible refine Below.setCell (p := ⟨_, _, _⟩) ?_ ?_ _); rotate_left; focus (first | (with_reducible exact Nat.le_refl _) | omega | (simp; done) | (simp; omega))))
                       done)
                    | (refine ⟨_, rfl, rfl, rfl, blk_set3 hZ7.out, Nat.le_refl _, ?_⟩
                       have := PB.out
                       repeat (first | (with_reducible exact Below.refl _ _) | (with_reducible assumption) | (with_reducible refine below_drewN ?_ _) | (with_reducible refine Below.drew ?_) | ((with_reducible refine Below.alloc ?_ ?_ _); rotate_left; focus (first | (with_reducible exact Nat.le_refl _) | omega | (simp; done) | (simp; omega))) | ((with_reducible refine Below.setCell (p := ⟨_, _, _⟩) ?_ ?_ _); rotate_left; focus (first | (with_reducible exact Nat.le_refl _) | omega | (simp; done) | (simp; omega))))
                       done)
              case rest =>
                obtain ⟨Z, rfl, rfl, rfl, bZ, hVZ, hB8⟩ := hcut
                have BP := Lib.hid (blk_keep BP.out hB8)
                have bS := Lib.hid (blk_keep bS.out hB8)
                have bT := Lib.hid (blk_keep bT.out hB8)
                have BZ := Lib.hid bZ
                have hEE := Lib.hid (hEE.out.trans (hB8.mono hEE.out.size))
                have hTT := Lib.hid (hTT.out.below hB8)
                obtain ⟨V8, rfl⟩ : ∃ V8 : World, V8 = wc := ⟨_, rfl⟩
                have hFA := Lib.hid (ask_fits HQ.out)
                have hTZ : T < Z := by omega
                have hZ8 : Z < V8.heap.size := lt_of_block bZ
                clear hB8 bZ KA HQ hVZ
                have x0 := C0.out _ hEE.out
                go_upto_if 124 with (fail)
                go_cut [16, 17] (fun s16 s17 wx => ∃ (r1 r2 : Int) (rf rb : Bool) (re : Int), s16 = .bool rb ∧ s17 = .int .i64 re ∧ wx.heap[Z]? = some (.cells #[.int .i64 r1, .int .i64 r2, .bool rf] 27 (0, 0)) ∧ Fits a b r1 r2 rb re hh ∧ Tch Z none V8 wx ∧ Below w.heap.size w wx)
                case first => as_aux_lemma =>
                  cases hh
                  · go_wp2_with fail
                    go_meet
                    exact ⟨_, _, _, _, _, rfl, rfl, BZ.out, hFA.out, Tch.refl _ _ _, hEE.out⟩
                  · clear x0
                    have s3 := cells3 bS.out
                    have p3 := cells3 BP.out
                    have z3 := cells3 BZ.out
                    have x1 := C1.out _ hEE.out
                    have x2 := C2.out _ hEE.out
                    have hw8 : w.heap.size < V8.heap.size := by omega
                    have hP8 : P < V8.heap.size := by omega
                    have hb8 : b0 < V8.heap.size := by omega
                    have n1 : ¬ Z = P := by omega
                    have n2 : ¬ Z = w.heap.size := by omega
                    have n3 : ¬ Z = b0 := by omega
                    have n1' : ¬ P = Z := by omega
                    have n2' : ¬ w.heap.size = Z := by omega
                    have n3' : ¬ b0 = Z := by omega
                    rcases hear_cases n l s ((a, b), f) (c, d) with ⟨⟨⟨r1, r2⟩, rf⟩, h⟩ | ⟨h, hne⟩ | ⟨h, he⟩
                    · have kk := fun W : World => hear_any n l s a b c d f W
                      rw [h] at kk
                      have KH := Lib.hid kk
                      clear kk h
                      have PB := Lib.hid (Below.refl V8.heap.size V8)
                      go_wp2_with fail
                      go_region_held3 (fun w' => w'.cell? ⟨w.heap.size, 0, none⟩ = some (.int .i64 n) ∧ w'.cell? ⟨w.heap.size, 1, none⟩ = some (.int .i64 l) ∧ w'.cell? ⟨w.heap.size, 2, none⟩ = some (.int .i64 s) ∧ w'.cell? ⟨P, 0, none⟩ = some (.int .i64 a) ∧ w'.cell? ⟨P, 1, none⟩ = some (.int .i64 b) ∧ w'.cell? ⟨P, 2, none⟩ = some (.bool f) ∧ w'.cell? ⟨b0, off + k * 3 + 1, none⟩ = some (.int .i64 c) ∧ w'.cell? ⟨b0, off + k * 3 + 2, none⟩ = some (.int .i64 d)) (go_keep)
                        (first
                          | (go_at_call 8
                             refine (KH.out _).mono ?_
                             rintro e U ⟨rfl, hU⟩
                             dsimp only
                             have PB := Lib.hid (Below.trans (by have := PB.out; repeat (first | (with_reducible exact Below.refl _ _) | (with_reducible assumption) | (with_reducible refine below_drewN ?_ _) | (with_reducible refine Below.drew ?_) | ((with_reducible refine Below.alloc ?_ ?_ _); rotate_left; focus (first | (with_reducible exact Nat.le_refl _) | omega | (simp; done) | (simp; omega))) | ((with_reducible refine Below.setCell (p := ⟨_, _, _⟩) ?_ ?_ _); rotate_left; focus (first | (with_reducible exact Nat.le_refl _) | omega | (simp; done) | (simp; omega))))) (hU.mono (by have := PB.out.size; (try simp); try omega)) : Below V8.heap.size V8 U)
                             have cU := (bcell PB.out).1
                             have fU := (bcell PB.out).2
                             have zU2 := hU.size
                             (try simp at zU2)
                             clear hU))
                      obtain ⟨W9, hW⟩ : ∃ W', W' = (((U.setCell ⟨Z, 0, none⟩ (.int .i64 r1)).setCell ⟨Z, 1, none⟩ (.int .i64 r2)).setCell ⟨Z, 2, none⟩ (.bool rf)) := ⟨_, rfl⟩
                      rw [← hW]
                      have BZ9 := Lib.hid (show W9.heap[Z]? = some (.cells #[.int .i64 r1, .int .i64 r2, .bool rf] 27 (0, 0)) by rw [hW]; exact blk_set3 (blk_keep BZ.out PB.out))
                      have T9 := Lib.hid (show Tch Z none V8 W9 by rw [hW]; exact ((((Tch.refl Z none V8).below PB.out).setCell (p := ⟨Z, 0, none⟩) (.inl rfl) _).setCell (p := ⟨Z, 1, none⟩) (.inl rfl) _).setCell (p := ⟨Z, 2, none⟩) (.inl rfl) _)
                      have E9 := Lib.hid (show Below w.heap.size w W9 by rw [hW]; exact ((((hEE.out.trans (PB.out.mono hEE.out.size)).setCell (p := ⟨Z, 0, none⟩) (by dsimp only; omega) _).setCell (p := ⟨Z, 1, none⟩) (by dsimp only; omega) _).setCell (p := ⟨Z, 2, none⟩) (by dsimp only; omega) _))
                      have p9 := cells3 (T9.out.blk BP.out (by omega) (by simp))
                      have x1 := C1.out _ E9.out
                      have x2 := C2.out _ E9.out
                      clear hW PB cU fU s3 p3 z3
                      go_wp2_with fail
                      go_quiet ((go_at_call 10; exact Calls.quiet_of_same (numq_any _ _)))
                      go_wp2_with fail
                      go_meet
                      exact ⟨_, _, _, _, _, rfl, rfl, BZ9.out, .inl (by omega), T9.out, below_drewN E9.out _⟩
                    · have kk := fun W : World => hear_any n l s a b c d f W
                      rw [h] at kk
                      have KH := Lib.hid kk
                      clear kk h
                      have heq := run_eql_epoch (a := (c, d)) (b := (a, b)) hne
                      dsimp only at heq
                      clear hne
                      have PB := Lib.hid (Below.refl V8.heap.size V8)
                      go_wp2_with fail
                      go_region_held3 (fun w' => w'.cell? ⟨w.heap.size, 0, none⟩ = some (.int .i64 n) ∧ w'.cell? ⟨w.heap.size, 1, none⟩ = some (.int .i64 l) ∧ w'.cell? ⟨w.heap.size, 2, none⟩ = some (.int .i64 s) ∧ w'.cell? ⟨P, 0, none⟩ = some (.int .i64 a) ∧ w'.cell? ⟨P, 1, none⟩ = some (.int .i64 b) ∧ w'.cell? ⟨P, 2, none⟩ = some (.bool f) ∧ w'.cell? ⟨b0, off + k * 3 + 1, none⟩ = some (.int .i64 c) ∧ w'.cell? ⟨b0, off + k * 3 + 2, none⟩ = some (.int .i64 d)) (go_keep)
                        (first
                          | (go_at_call 8
                             refine (KH.out _).mono ?_
                             rintro e U ⟨rfl, hU⟩
                             dsimp only
                             have PB := Lib.hid (Below.trans (by have := PB.out; repeat (first | (with_reducible exact Below.refl _ _) | (with_reducible assumption) | (with_reducible refine below_drewN ?_ _) | (with_reducible refine Below.drew ?_) | ((with_reducible refine Below.alloc ?_ ?_ _); rotate_left; focus (first | (with_reducible exact Nat.le_refl _) | omega | (simp; done) | (simp; omega))) | ((with_reducible refine Below.setCell (p := ⟨_, _, _⟩) ?_ ?_ _); rotate_left; focus (first | (with_reducible exact Nat.le_refl _) | omega | (simp; done) | (simp; omega))))) (hU.mono (by have := PB.out.size; (try simp); try omega)) : Below V8.heap.size V8 U)
                             have cU := (bcell PB.out).1
                             have fU := (bcell PB.out).2
                             have zU2 := hU.size
                             (try simp at zU2)
                             clear hU))
                      obtain ⟨W9, hW⟩ : ∃ W', W' = (((U.setCell ⟨Z, 0, none⟩ (.int .i64 a)).setCell ⟨Z, 1, none⟩ (.int .i64 b)).setCell ⟨Z, 2, none⟩ (.bool f)) := ⟨_, rfl⟩
                      rw [← hW]
                      have BZ9 := Lib.hid (show W9.heap[Z]? = some (.cells #[.int .i64 a, .int .i64 b, .bool f] 27 (0, 0)) by rw [hW]; exact blk_set3 (blk_keep BZ.out PB.out))
                      have T9 := Lib.hid (show Tch Z none V8 W9 by rw [hW]; exact ((((Tch.refl Z none V8).below PB.out).setCell (p := ⟨Z, 0, none⟩) (.inl rfl) _).setCell (p := ⟨Z, 1, none⟩) (.inl rfl) _).setCell (p := ⟨Z, 2, none⟩) (.inl rfl) _)
                      have E9 := Lib.hid (show Below w.heap.size w W9 by rw [hW]; exact ((((hEE.out.trans (PB.out.mono hEE.out.size)).setCell (p := ⟨Z, 0, none⟩) (by dsimp only; omega) _).setCell (p := ⟨Z, 1, none⟩) (by dsimp only; omega) _).setCell (p := ⟨Z, 2, none⟩) (by dsimp only; omega) _))
                      have p9 := cells3 (T9.out.blk BP.out (by omega) (by simp))
                      have x1 := C1.out _ E9.out
                      have x2 := C2.out _ E9.out
                      clear hW PB cU fU s3 p3 z3
                      go_wp2_with fail
                      go_quiet ((go_at_call 10; exact Calls.quiet_of_same (numq_any _ _)))
                      go_wp2_with fail
                      go_meet
                      exact ⟨_, _, _, _, _, rfl, rfl, BZ9.out, .inr ⟨rfl, 0, ordS_self _, by omega, .inl rfl⟩, T9.out, below_drewN E9.out _⟩
                    · simp only [Prod.mk.injEq] at he
                      obtain ⟨rfl, rfl⟩ := he
                      have kk := fun W : World => hear_any n l s a b a b f W
                      rw [h] at kk
                      have KH := Lib.hid kk
                      clear kk h
                      have PB := Lib.hid (Below.refl V8.heap.size V8)
                      go_wp2_with fail
                      go_region_held3 (fun w' => w'.cell? ⟨w.heap.size, 0, none⟩ = some (.int .i64 n) ∧ w'.cell? ⟨w.heap.size, 1, none⟩ = some (.int .i64 l) ∧ w'.cell? ⟨w.heap.size, 2, none⟩ = some (.int .i64 s) ∧ w'.cell? ⟨P, 0, none⟩ = some (.int .i64 a) ∧ w'.cell? ⟨P, 1, none⟩ = some (.int .i64 b) ∧ w'.cell? ⟨P, 2, none⟩ = some (.bool f) ∧ w'.cell? ⟨b0, off + k * 3 + 1, none⟩ = some (.int .i64 a) ∧ w'.cell? ⟨b0, off + k * 3 + 2, none⟩ = some (.int .i64 b)) (go_keep)
                        (first
                          | (go_at_call 8
                             refine (KH.out _).mono ?_
                             rintro e U ⟨rfl, hU⟩
                             dsimp only
                             have PB := Lib.hid (Below.trans (by have := PB.out; repeat (first | (with_reducible exact Below.refl _ _) | (with_reducible assumption) | (with_reducible refine below_drewN ?_ _) | (with_reducible refine Below.drew ?_) | ((with_reducible refine Below.alloc ?_ ?_ _); rotate_left; focus (first | (with_reducible exact Nat.le_refl _) | omega | (simp; done) | (simp; omega))) | ((with_reducible refine Below.setCell (p := ⟨_, _, _⟩) ?_ ?_ _); rotate_left; focus (first | (with_reducible exact Nat.le_refl _) | omega | (simp; done) | (simp; omega))))) (hU.mono (by have := PB.out.size; (try simp); try omega)) : Below V8.heap.size V8 U)
                             have cU := (bcell PB.out).1
                             have fU := (bcell PB.out).2
                             have zU2 := hU.size
                             (try simp at zU2)
                             clear hU))
                      obtain ⟨W9, hW⟩ : ∃ W', W' = (((U.setCell ⟨Z, 0, none⟩ (.int .i64 a)).setCell ⟨Z, 1, none⟩ (.int .i64 b)).setCell ⟨Z, 2, none⟩ (.bool false)) := ⟨_, rfl⟩
                      rw [← hW]
                      have BZ9 := Lib.hid (show W9.heap[Z]? = some (.cells #[.int .i64 a, .int .i64 b, .bool false] 27 (0, 0)) by rw [hW]; exact blk_set3 (blk_keep BZ.out PB.out))
                      have T9 := Lib.hid (show Tch Z none V8 W9 by rw [hW]; exact ((((Tch.refl Z none V8).below PB.out).setCell (p := ⟨Z, 0, none⟩) (.inl rfl) _).setCell (p := ⟨Z, 1, none⟩) (.inl rfl) _).setCell (p := ⟨Z, 2, none⟩) (.inl rfl) _)
                      have E9 := Lib.hid (show Below w.heap.size w W9 by rw [hW]; exact ((((hEE.out.trans (PB.out.mono hEE.out.size)).setCell (p := ⟨Z, 0, none⟩) (by dsimp only; omega) _).setCell (p := ⟨Z, 1, none⟩) (by dsimp only; omega) _).setCell (p := ⟨Z, 2, none⟩) (by dsimp only; omega) _))
                      have p9 := cells3 (T9.out.blk BP.out (by omega) (by simp))
                      have x1 := C1.out _ E9.out
                      have x2 := C2.out _ E9.out
                      clear hW PB cU fU s3 p3 z3
                      go_wp2_with fail
                      go_quiet ((go_at_call 10; exact Calls.quiet_of_same (numq_any _ _)))
                      go_wp2_with fail
                      go_meet
                      exact ⟨_, _, _, _, _, rfl, rfl, BZ9.out, .inr ⟨rfl, 0, ordS_self _, by omega, .inl rfl⟩, T9.out, below_drewN E9.out _⟩
                case rest =>
                  obtain ⟨r1, r2, rf, rb, re, rfl, rfl, bZ9, hF, hT9, hE9⟩ := hcut
                  have BP9 := Lib.hid (hT9.blk BP.out (by omega) (by simp))
                  have bT9 := Lib.hid (hT9.blk bT.out (by omega) (by simp))
                  have BZ9 := Lib.hid bZ9
                  have E9 := Lib.hid hE9
                  have TT9 := Lib.hid (tch_past hTT.out hT9 (by omega))
                  obtain ⟨V9, rfl⟩ : ∃ V9 : World, V9 = wc := ⟨_, rfl⟩
                  have x0 := C0.out _ E9.out
                  have HF := Lib.hid hF
                  clear bZ9 hF hT9 hE9 hFA BZ BP bT bS
                  rcases HF.out with hre | ⟨rfl, o, ho, ho0, hrb⟩
                  · go_wp2_with (go_at_call 10; refine (num_any _ _).mono ?_; rintro e w' ⟨rfl, rfl⟩)
                    go_roundg (gk - 1)
                    case measure => have := HK.out; omega
                    case rel => exact ⟨k + 1, by have := HK.out; have := HLT.out; omega, by go_num, a, b, f, BP9.out, E9.out, TT9.out⟩
                  · have HO := Lib.hid ho
                    have hOS := Lib.hid (ordS_self (a, b))
                    have p9 := cells3 BP9.out
                    have t9 := cells3 bT9.out
                    have z9 := cells3 BZ9.out
                    have hPZ : ¬ P = Z := by omega
                    have hZP : ¬ Z = P := by omega
                    have hTZ' : ¬ T = Z := by omega
                    have hZT' : ¬ Z = T := by omega
                    have hPT' : ¬ P = T := by omega
                    have hTP' : ¬ T = P := by omega
                    have hbP : ¬ b0 = P := by omega
                    have hPb : ¬ P = b0 := by omega
                    clear ho
                    go_wp2_with (go_at_call 10; refine (num_any _ _).mono ?_; rintro e w' ⟨rfl, rfl⟩)
                    obtain ⟨V10, hV⟩ : ∃ W', W' = (((V9.setCell ⟨P, 0, none⟩ (.int .i64 r1)).setCell ⟨P, 1, none⟩ (.int .i64 r2)).setCell ⟨P, 2, none⟩ (.bool rf)) := ⟨_, rfl⟩
                    rw [← hV]
                    have FP := Lib.hid (show V10.heap[P]? = some (.cells #[.int .i64 r1, .int .i64 r2, .bool rf] 27 (0, 0)) by rw [hV]; exact blk_set3 BP9.out)
                    have FT0 := Lib.hid (show V10.heap[T]? = some (.cells #[.int .i64 a, .int .i64 b, .bool f] 27 (0, 0)) by rw [hV]; exact blk_set_other _ (blk_set_other _ (blk_set_other _ bT9.out hTP') hTP') hTP')
                    have FE := Lib.hid (show Below w.heap.size w V10 by rw [hV]; exact (((E9.out.setCell (p := ⟨P, 0, none⟩) (Nat.le_of_lt hSP) _).setCell (p := ⟨P, 1, none⟩) (Nat.le_of_lt hSP) _).setCell (p := ⟨P, 2, none⟩) (Nat.le_of_lt hSP) _))
                    have FT := Lib.hid (show Tch P none V6 V10 by rw [hV]; exact (((TT9.out.setCell (p := ⟨P, 0, none⟩) (.inl rfl) _).setCell (p := ⟨P, 1, none⟩) (.inl rfl) _).setCell (p := ⟨P, 2, none⟩) (.inl rfl) _))
                    clear hV p9 t9 z9 x0 BP9 bT9 BZ9 E9 TT9
                    refine (order_is HO.out _).mono ?_
                    rintro e U ⟨rfl, hU⟩
                    have FP := Lib.hid (blk_keep FP.out hU)
                    have FT0 := Lib.hid (blk_keep FT0.out hU)
                    have FE := Lib.hid (FE.out.trans (hU.mono FE.out.size))
                    have FT := Lib.hid (FT.out.below hU)
                    have p9 := cells3 FP.out
                    have t9 := cells3 FT0.out
                    have x0 := C0.out _ FE.out
                    have o1 : decide (o < 0) = false := by simp; omega
                    clear hU
                    cases hh
                    · have hrb' : rb = decide (0 < o) := by simpa using hrb
                      clear hrb
                      by_cases hpos : 0 < o
                      · obtain rfl : rb = true := by rw [hrb']; simpa using hpos
                        clear hrb'
                        go_wp2_with fail
                        refine (order_is HO.out _).mono ?_
                        rintro e U2 ⟨rfl, hU2⟩
                        have FP := Lib.hid (blk_keep FP.out hU2)
                        have FE := Lib.hid (FE.out.trans (hU2.mono FE.out.size))
                        have FT := Lib.hid (FT.out.below hU2)
                        clear hU2
                        go_wp2_with fail
                        go_roundg (gk - 1)
                        case measure => have := HK.out; omega
                        case rel => exact ⟨k + 1, by have := HK.out; have := HLT.out; omega, by go_num, r1, r2, rf, FP.out, FE.out, FT.out⟩
                      · obtain rfl : rb = false := by rw [hrb']; simpa using hpos
                        have hp' : decide (0 < o) = false := by simpa using hpos
                        clear hrb' hpos
                        go_wp2_with fail
                        refine (order_is HO.out _).mono ?_
                        rintro e U2 ⟨rfl, hU2⟩
                        have FP := Lib.hid (blk_keep FP.out hU2)
                        have FE := Lib.hid (FE.out.trans (hU2.mono FE.out.size))
                        have FT := Lib.hid (FT.out.below hU2)
                        clear hU2
                        go_wp2_with fail
                        go_roundg (gk - 1)
                        case measure => have := HK.out; omega
                        case rel => exact ⟨k + 1, by have := HK.out; have := HLT.out; omega, by go_num, r1, r2, rf, FP.out, FE.out, FT.out⟩
                    · clear hrb
                      go_wp2_with fail
                      go_roundg (gk - 1)
                      case measure => have := HK.out; omega
                      case rel => exact ⟨k + 1, by have := HK.out; have := HLT.out; omega, by go_num, r1, r2, rf, FP.out, FE.out, FT.out⟩
            · obtain ⟨V7, rfl⟩ : ∃ V7 : World, V7 = wr := ⟨_, rfl⟩
              clear bP hT hk
              go_wp2_with fail
              refine (works_any V7).mono ?_
              rintro e U ⟨rfl, hU⟩
              go_wp2
              go_ret
              exact ⟨rfl, hE.trans (hU.mono hE.size)⟩

end Go.Proofs.Ytnkkfkbchijfnaa
