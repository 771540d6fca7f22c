/- Link: LinkHolds, walked. -/
import Derived.Test.YtijifbkikgooiaaLinkX
namespace Go.Proofs.Ytijifbkikgooiaa
open Go.RowKit Go.Shelf

set_option maxRecDepth 100000 in
set_option maxHeartbeats 8000000 in
theorem holds_small (w : World) (ar ac : Option Addr) (cr cc : Nat) (rs : List Bool) (cs : List Int) (hr : rs.length ≤ 40) (hc : cs.length ≤ 80)
    (h1 : Sl (encV Value.bool) 1 w (.slice ar rs.length cr) rs) (h2 : Sl encI 1 w (.slice ac cs.length cc) cs) :
    Calls Try.prog 6 #[.slice ar rs.length cr, .slice ac cs.length cc] w fun e w' => e = .returned (.bool true) ∧ Below w.heap.size w w' := by
  have S1 := Lib.hid h1
  have S2 := Lib.hid h2
  clear h1 h2
  have hr1 : decide (40 < rs.length) = false := by simp; omega
  have hc1 : decide (80 < cs.length) = false := by simp; omega
  go_enter Try.func6, Try.ntmps6
  go_wp2_with fail
  have kk := new_any w 3
  rw [newR3_st] at kk
  refine kk.mono ?_
  clear kk hr1 hc1
  rintro e W1 ⟨r1, rfl, hO1, hB1⟩
  obtain ⟨sa1, sb1, rfl, oa1, ob1⟩ := hO1
  obtain ⟨a1, ca1, rfl⟩ := owns_shape oa1
  obtain ⟨d1, cb1, rfl⟩ := owns_shape ob1
  have L1 := Lib.hid (LkOwn.reads (l := stL 1 0) ⟨_, _, rfl, oa1, ob1⟩)
  clear oa1 ob1
  go_wp2_with fail
  obtain ⟨V1, hV1⟩ : ∃ V, V = W1.alloc (.cells #[.int .i64 (stL 1 0).inc, .slice a1 (stL 1 0).out.length ca1, .slice d1 (stL 1 0).inn.length cb1] 25) := ⟨_, rfl⟩
  rw [← hV1]
  obtain ⟨A, hA⟩ : ∃ A, A = W1.heap.size := ⟨_, rfl⟩
  rw [← hA]
  have f1 : Below W1.heap.size W1 V1 := by rw [hV1]; (repeat (first | (with_reducible exact Below.refl _ _) | (with_reducible assumption) | (with_reducible refine below_drewN ?_ _) | (with_reducible refine Below.drew ?_) | ((with_reducible refine Below.alloc ?_ ?_ _); rotate_left; focus (first | (with_reducible exact Nat.le_refl _) | omega | (simp; done) | (simp; omega))) | ((with_reducible refine Below.setCell (p := ⟨_, _, _⟩) ?_ ?_ _); rotate_left; focus (first | (with_reducible exact Nat.le_refl _) | omega | (simp; done) | (simp; omega)))))
  have bA := Lib.hid (show V1.heap[A]? = some (.cells #[.int .i64 (stL 1 0).inc, .slice a1 (stL 1 0).out.length ca1, .slice d1 (stL 1 0).inn.length cb1] 25 (0, 0)) by rw [hA, hV1]; exact blk_new _ _)
  have L1 := Lib.hid (LkR.below L1.out f1)
  have hwA : w.heap.size ≤ A := by rw [hA]; exact hB1.size
  have E1 : Below w.heap.size w V1 := hB1.trans (f1.mono hB1.size)
  have hA1 : A < V1.heap.size := by rw [hA, hV1]; simp
  clear hV1 hA f1 hB1
  have kk := new_any V1 3
  rw [newR3_tk] at kk
  refine kk.mono ?_
  clear kk
  rintro e W2 ⟨r2, rfl, hO2, hB2⟩
  obtain ⟨sa2, sb2, rfl, oa2, ob2⟩ := hO2
  obtain ⟨a2, ca2, rfl⟩ := owns_shape oa2
  obtain ⟨d2, cb2, rfl⟩ := owns_shape ob2
  go_wp2_with (go_at_call 11; refine (num_any _ _).mono ?_; rintro e w' ⟨rfl, rfl⟩)
  obtain ⟨V, hV⟩ : ∃ V, V = W2.alloc (.cells #[.int .i64 (tkL (0, 0)).inc, .slice a2 (tkL (0, 0)).out.length ca2, .slice d2 (tkL (0, 0)).inn.length cb2] 25) := ⟨_, rfl⟩
  rw [← hV]
  obtain ⟨B, hB⟩ : ∃ B, B = W2.heap.size := ⟨_, rfl⟩
  rw [← hB]
  have f2 : Below W2.heap.size W2 V := by rw [hV]; (repeat (first | (with_reducible exact Below.refl _ _) | (with_reducible assumption) | (with_reducible refine below_drewN ?_ _) | (with_reducible refine Below.drew ?_) | ((with_reducible refine Below.alloc ?_ ?_ _); rotate_left; focus (first | (with_reducible exact Nat.le_refl _) | omega | (simp; done) | (simp; omega))) | ((with_reducible refine Below.setCell (p := ⟨_, _, _⟩) ?_ ?_ _); rotate_left; focus (first | (with_reducible exact Nat.le_refl _) | omega | (simp; done) | (simp; omega)))))
  have g2 : Below V1.heap.size V1 V := hB2.trans (f2.mono hB2.size)
  have bA := Lib.hid (blk_keep bA.out g2)
  have L1 := Lib.hid (LkR.below L1.out g2)
  have bB := Lib.hid (show V.heap[B]? = some (.cells #[.int .i64 (tkL (0, 0)).inc, .slice a2 (tkL (0, 0)).out.length ca2, .slice d2 (tkL (0, 0)).inn.length cb2] 25 (0, 0)) by rw [hB, hV]; exact blk_new _ _)
  have O2 := Lib.hid (show LkOwn V (A + 1) (.agg #[.int .i64 (tkL (0, 0)).inc, .slice a2 (tkL (0, 0)).out.length ca2, .slice d2 (tkL (0, 0)).inn.length cb2]) (tkL (0, 0)) from
    ⟨_, _, rfl, owns_base (owns_below oa2 f2) (by omega), owns_base (owns_below ob2 f2) (by omega)⟩)
  have E : Below w.heap.size w V := E1.trans (g2.mono E1.size)
  have hAB : A < B := by rw [hB]; exact Nat.lt_of_lt_of_le hA1 hB2.size
  have hVB : V.heap.size = B + 1 := by rw [hV, hB]; simp
  have HV := Lib.hid hVB
  clear hV hB f2 g2 oa2 ob2 hB2 E1 hA1 hVB
  go_loopg [9, 10] (rs.length) (fun n v9 v10 wr => ∃ k : Nat, n + k = rs.length ∧ v10 = .int .i64 k ∧ RelA w V A B k v9 wr)
  case atStart => exact ⟨0, rfl, rfl, 1, 0, [], inv1_start, ⟨_, _, _, _, bA.out, L1.out⟩, World.ownsRow_nil _ _ _ _, E, Tch.refl _ _ _⟩
  case round =>
    obtain ⟨k, hk, rfl, inc, s, st, hI, ⟨a, c, d, c', qA, LA⟩, own9, E9, T9⟩ := hrel
    clear bA L1
    have HK := Lib.hid hk
    have bd := hI.bounds (by omega)
    by_cases hlt : k < rs.length
    · have kk := send_any wr _ (stL inc s) 2 (by simp [stL_len]) (by simp [stL_len]) LA
      rw [send_stL bd.1 (by omega) bd.2.2.2.1 (by omega)] at kk
      obtain ⟨l', hl'⟩ : ∃ l', l' = stL inc (s + 1) := ⟨_, rfl⟩
      obtain ⟨x2, hx2⟩ : ∃ x2, x2 = s + 1 := ⟨_, rfl⟩
      rw [← hl', ← hx2] at kk
      have KS := Lib.hid kk
      have HL := Lib.hid hl'
      have HX := Lib.hid hx2
      have HI := Lib.hid hI
      have HBD := Lib.hid bd
      have OW := Lib.hid own9
      have qa := cells3 qA
      have QA := Lib.hid qA
      have E9 := Lib.hid E9
      have T9 := Lib.hid T9
      clear kk hl' hx2 hI bd own9 qA LA hk
      go_wp2_with fail
      refine KS.out.mono ?_
      clear KS
      rintro e W3 ⟨r3, rfl, hO3, hB3⟩
      obtain ⟨sa3, sb3, rfl, oa3, ob3⟩ := hO3
      obtain ⟨a3, ca3, rfl⟩ := owns_shape oa3
      obtain ⟨d3, cb3, rfl⟩ := owns_shape ob3
      clear qa
      go_upto_region 14 with (go_at_call 11; refine (num_any _ _).mono ?_; rintro e w' ⟨rfl, rfl⟩)
      obtain ⟨T, hT⟩ : ∃ T, T = W3.heap.size := ⟨_, rfl⟩
      obtain ⟨V3, hV3⟩ : ∃ V, V = (W3.alloc (.cells #[.int .i64 l'.inc, .slice a3 l'.out.length ca3, .slice d3 l'.inn.length cb3] 25)).alloc (.cells #[.int .i64 inc, .int .i64 x2] 27) := ⟨_, rfl⟩
      rw [← hV3, ← hT]
      have f3 : Below W3.heap.size W3 V3 := by rw [hV3]; (repeat (first | (with_reducible exact Below.refl _ _) | (with_reducible assumption) | (with_reducible refine below_drewN ?_ _) | (with_reducible refine Below.drew ?_) | ((with_reducible refine Below.alloc ?_ ?_ _); rotate_left; focus (first | (with_reducible exact Nat.le_refl _) | omega | (simp; done) | (simp; omega))) | ((with_reducible refine Below.setCell (p := ⟨_, _, _⟩) ?_ ?_ _); rotate_left; focus (first | (with_reducible exact Nat.le_refl _) | omega | (simp; done) | (simp; omega)))))
      have g3 : Below wr.heap.size wr V3 := hB3.trans (f3.mono hB3.size)
      have bT := Lib.hid (show V3.heap[T]? = some (.cells #[.int .i64 l'.inc, .slice a3 l'.out.length ca3, .slice d3 l'.inn.length cb3] 25 (0, 0)) by
        rw [hT, hV3]; exact blk_old _ (blk_new _ _))
      have bU := Lib.hid (show V3.heap[T + 1]? = some (.cells #[.int .i64 inc, .int .i64 x2] 27 (0, 0)) by
        have := blk_new (W3.alloc (.cells #[.int .i64 l'.inc, .slice a3 l'.out.length ca3, .slice d3 l'.inn.length cb3] 25)) (.cells #[.int .i64 inc, .int .i64 x2] 27)
        rw [World.size_alloc, ← hT, ← hV3] at this; exact this)
      have HR9 := Lib.hid (fun g hg => (own_block OW.out g hg : B + 1 ≤ g ∧ g < wr.heap.size))
      have QA := Lib.hid (blk_keep QA.out g3)
      have OW := Lib.hid (owns_below OW.out g3)
      have E9 := Lib.hid (E9.out.trans (g3.mono E9.out.size))
      have hwT : wr.heap.size ≤ T := by rw [hT]; exact hB3.size
      have hVr : B + 1 ≤ wr.heap.size := by rw [← HV.out]; exact T9.out.1
      have O3 := Lib.hid (show LkOwn V3 wr.heap.size (.agg #[.int .i64 l'.inc, .slice a3 l'.out.length ca3, .slice d3 l'.inn.length cb3]) l' from
        ⟨_, _, rfl, owns_below oa3 f3, owns_below ob3 f3⟩)
      have T9 := Lib.hid (T9.out.below g3)
      have hTT : T + 1 < V3.heap.size := by rw [hV3, hT]; simp
      clear hT hV3 f3 g3 oa3 ob3 hB3
      go_cut [9, 11] (fun s9 s11 wx => s11 = .pointer (some ⟨T, 0, none⟩) ∧ MidA w V A B T l' (st ++ [(inc, x2)]) s9 wx)
      case first =>
        obtain ⟨j0, hj, hy0, hy1, hy2⟩ := info_parts Try.infoP
        have J0 := Lib.hid hj
        have Y0 := Lib.hid hy0
        have Y1 := Lib.hid hy1
        have Y2 := Lib.hid hy2
        have hA3 := lt_of_block QA.out
        have tc := cells3 bT.out
        have uc := cells2 bU.out
        have qc := cells3 QA.out
        have hT3 := Nat.lt_of_succ_lt hTT
        have HTR := Lib.hid (show some T ≠ u9.ownBlock from fun e => by have := (HR9.out T e.symm).2; omega)
        have n1 : ¬ A = T := by omega
        have n2 : ¬ T = A := by omega
        have n3 : ¬ A = T + 1 := by omega
        have n4 : ¬ T + 1 = A := by omega
        have HL9 := Lib.hid (show st.length ≤ 40 by have := HI.out.2.2.1; omega)
        have HAR := Lib.hid (show some A ≠ u9.ownBlock from fun e => by have := (HR9.out A e.symm).1; omega)
        have OWN := Lib.hid (fun W' (h : Tch A none V3 W') => h.own (r := none) OW.out (by omega) (by cases u9.ownBlock <;> simp))
        clear hj hy0 hy1 hy2
        go_region_law
          ((refine step_append_sl _ rfl (.tmp 58) (.tmp 60) 23 rfl (B + 1) 27 j0 (.agg #[.int .i64 0, .int .i64 0]) 2 16 Try.underlying23 J0.out Y0.out Y1.out Y2.out rfl (by decide) encP_len u9 st.length (st.flatMap encP) ?_ ?_ (some ⟨V3.heap.size, 0, none⟩) 1 1 [(inc, x2)] ?_ ?_ encP_one ?_ ?_ ?_ ?_
            · rfl
            · refine OWN.out _ ?_
              repeat (first | (with_reducible exact Tch.refl _ _ _) | (with_reducible assumption) | (with_reducible refine Tch.drew ?_) | (with_reducible refine Tch.alloc ?_ _) | (with_reducible refine Tch.setCell (p := ⟨_, _, _⟩) ?_ (.inl rfl) _))
            · rfl
            · exact Sl.lit1P (by go_simp) (by go_simp)
            · have := HL9.out; unfold maxLen; simp; omega
            · have := HL9.out; simp; omega
            · simp; omega
            intro v9 W5 own5 grow5
            (try have p5 := cells3 ((grow5.block A (by simp; omega) HAR.out).trans (blk_old _ QA.out)))
            have t5 := cells3 ((grow5.block T (by simp; omega) HTR.out).trans (Tch.blk (A := A) (r := none) (by repeat (first | (with_reducible exact Tch.refl _ _ _) | (with_reducible assumption) | (with_reducible refine Tch.drew ?_) | (with_reducible refine Tch.alloc ?_ _) | (with_reducible refine Tch.setCell (p := ⟨_, _, _⟩) ?_ (.inl rfl) _))) bT.out n2 (by simp)))
            have own5 := Lib.hid own5
            have grow5 := Lib.hid grow5))
        all_goals
          go_wp2_with fail
          go_meet
          refine ⟨rfl, ?_⟩
          go_light
          first
            | exact mid_last (z := wr.heap.size) (by repeat (first | (with_reducible exact Tch.refl _ _ _) | (with_reducible assumption) | (with_reducible refine Tch.drew ?_) | (with_reducible refine Tch.alloc ?_ _) | (with_reducible refine Tch.setCell (p := ⟨_, _, _⟩) ?_ (.inl rfl) _))) (by have := E9.out; repeat (first | (with_reducible exact Below.refl _ _) | (with_reducible assumption) | (with_reducible refine below_drewN ?_ _) | (with_reducible refine Below.drew ?_) | ((with_reducible refine Below.alloc ?_ ?_ _); rotate_left; focus (first | (with_reducible exact Nat.le_refl _) | omega | (simp; done) | (simp; omega))) | ((with_reducible refine Below.setCell (p := ⟨_, _, _⟩) ?_ ?_ _); rotate_left; focus (first | (with_reducible exact Nat.le_refl _) | omega | (simp; done) | (simp; omega))))) grow5.out HR9.out rfl own5.out O3.out bT.out hwT T9.out HV.out hAB hwA hVr (blk_old _ (blk_set3 (W := V3.drew) QA.out))
            | exact mid_first (z := wr.heap.size) (by repeat (first | (with_reducible exact Tch.refl _ _ _) | (with_reducible assumption) | (with_reducible refine Tch.drew ?_) | (with_reducible refine Tch.alloc ?_ _) | (with_reducible refine Tch.setCell (p := ⟨_, _, _⟩) ?_ (.inl rfl) _))) (by have := E9.out; repeat (first | (with_reducible exact Below.refl _ _) | (with_reducible assumption) | (with_reducible refine below_drewN ?_ _) | (with_reducible refine Below.drew ?_) | ((with_reducible refine Below.alloc ?_ ?_ _); rotate_left; focus (first | (with_reducible exact Nat.le_refl _) | omega | (simp; done) | (simp; omega))) | ((with_reducible refine Below.setCell (p := ⟨_, _, _⟩) ?_ ?_ _); rotate_left; focus (first | (with_reducible exact Nat.le_refl _) | omega | (simp; done) | (simp; omega))))) grow5.out HR9.out rfl own5.out O3.out bT.out hwT T9.out HV.out hAB hwA hVr (blk_old _ (show V3.drew.heap[A]? = _ from QA.out))
      case rest =>
        obtain ⟨rfl, ⟨a5, c5, d5, c5', qA5, LA5⟩, own5, E5, T5, hT5, t0, t1, t2, bT5⟩ := hcut
        clear bT bU QA OW HR9 E9 O3 T9
        obtain ⟨b, off, cap, hv, hb, hcell⟩ := S1.out.atV hlt
        cases hv
        obtain ⟨x, hx⟩ := at_some hlt
        have hcx := (E5.cell (p := ⟨b, off + k, none⟩) hb).trans (hcell k x hx)
        have i0 : (0 : Int) ≤ (k : Int) := by omega
        have HB5 := Lib.hid qA5
        have HT5 := Lib.hid bT5
        have OW5 := Lib.hid own5
        have EE5 := Lib.hid E5
        have TT5 := Lib.hid T5
        have LL5 := Lib.hid LA5
        clear hcell hx hb own5 E5 T5 LA5
        cases x
        case false =>
          clear qA5 bT5
          go_wp2_with fail
          go_roundg (gk - 1)
          case measure => have := HK.out; omega
          case rel =>
            have h1 := HX.out
            have h2 := HL.out
            subst h1 h2
            exact ⟨k + 1, by have := HK.out; omega, by go_num, inc, s + 1, _, HI.out.send, ⟨_, _, _, _, HB5.out, LL5.out⟩, OW5.out, EE5.out, TT5.out⟩
        case true =>
          have hlen := (show l'.out.length ≤ 1099511627776 ∧ l'.inn.length ≤ 1099511627776 by rw [HL.out]; simp [stL_len])
          have kk := restart_any wc _ l' hlen.1 hlen.2 LL5.out
          rw [show restartR l' = (stL (inc + 1) 0, 0) by rw [HL.out]; exact restart_stL HBD.out.1 (by have := HBD.out; omega) (by have := HBD.out; omega) (by have := HBD.out; omega)] at kk
          obtain ⟨lz, hlz⟩ : ∃ lz, lz = stL (inc + 1) 0 := ⟨_, rfl⟩
          rw [← hlz] at kk
          have HZ := Lib.hid hlz
          have KS := Lib.hid kk
          have qa := cells3 qA5
          clear kk hlz hlen qA5 bT5
          go_wp2_with fail
          refine KS.out.mono ?_
          clear KS qa
          rintro e W6 ⟨r6, rfl, hO6, hB6⟩
          obtain ⟨sa6, sb6, rfl, oa6, ob6⟩ := hO6
          obtain ⟨a6, ca6, rfl⟩ := owns_shape oa6
          obtain ⟨d6, cb6, rfl⟩ := owns_shape ob6
          have HA6 := Lib.hid (blk_keep HB5.out hB6)
          have HT6 := Lib.hid (blk_keep HT5.out hB6)
          have qa := cells3 HA6.out
          have qt := cells3 HT6.out
          have n1 : ¬ A = T := by have := HV.out; omega
          have n2 : ¬ T = A := by have := HV.out; omega
          have OO := Lib.hid (show LkOwn W6 wc.heap.size _ lz from ⟨_, _, rfl, oa6, ob6⟩)
          have BB := Lib.hid hB6
          clear hB6 oa6 ob6
          go_wp2_with (go_at_call 11; refine (num_any _ _).mono ?_; rintro e w' ⟨rfl, rfl⟩)
          go_roundg (gk - 1)
          case measure => have := HK.out; omega
          case rel =>
            have h1 := HX.out
            subst h1
            exact ⟨k + 1, by have := HK.out; omega, by go_num, rel_restart HI.out.send (by have := HBD.out; omega) HZ.out OO.out BB.out HT6.out HA6.out (lt_of_block HT5.out) (lt_of_block HB5.out) hT5 HV.out hAB hwA OW5.out EE5.out TT5.out⟩
    · obtain rfl : k = rs.length := by omega
      obtain ⟨V4, rfl⟩ : ∃ V4 : World, V4 = wr := ⟨_, rfl⟩
      obtain ⟨a9, c9, rfl⟩ := owns_shape own9
      have hB4 := T9.blk bB.out (by omega) (by simp)
      have L4 := Lib.hid (LkOwn.reads (O2.out.tch T9 (by omega) (fun k hk => by cases hk)))
      have OW := Lib.hid own9
      have BB := Lib.hid hB4
      have hsB : B + 1 ≤ V4.heap.size := by have := T9.1; rw [HV.out] at this; exact this
      have hl40 := Lib.hid (show st.length ≤ 40 by have := hI.2.2.1; omega)
      have HI := Lib.hid hI
      have S3 := Lib.hid (Sl.of_owns encP_len own9)
      have EV := Lib.hid E9
      clear T9 own9 hB4 qA LA hI E9 bd hk bB O2 HV hlt
      go_wp2_with fail
      go_loopg [14, 15] (cs.length) (fun n v14 v15 wr => ∃ (k : Nat) (last : Int), n + k = cs.length ∧ v15 = .int .i64 k ∧ v14 = .int .i64 last ∧ RelB w V4 B st last wr)
      case atStart => exact ⟨0, -1, rfl, rfl, rfl, (0, 0), inv2_start _, ⟨_, _, _, _, BB.out, L4.out⟩, EV.out, Tch.refl _ _ _⟩
      case round =>
        obtain ⟨k, last, hk, rfl, rfl, t, hI2, ⟨a, c, d, c', qB, LB⟩, EB, TB⟩ := hrel
        have HK := Lib.hid hk
        by_cases hlt : k < cs.length
        · obtain ⟨b, off, cap, hv, hb, hcell⟩ := S2.out.atI hlt
          cases hv
          obtain ⟨x, hx⟩ := at_some hlt
          have hcx := (EB.cell (p := ⟨b, off + k, none⟩) hb).trans (hcell k x hx)
          have CX := Lib.hid (fun (W : World) (h : Below w.heap.size w W) => (h.cell (p := ⟨b, off + k, none⟩) hb).trans (hcell k x hx))
          have WB := Lib.hid (show b < B from Nat.lt_of_lt_of_le hb (Nat.le_of_lt (Nat.lt_of_le_of_lt hwA hAB)))
          have i0 : (0 : Int) ≤ (k : Int) := by omega
          have LB := Lib.hid LB
          have QB := Lib.hid qB
          have I2 := Lib.hid hI2
          have TB := Lib.hid TB
          have EB' := Lib.hid EB
          clear hcell hx hb hk qB hI2 EB
          by_cases h0 : x < 0
          · go_wp2
            go_roundg (gk - 1)
            case measure => have := HK.out; omega
            case rel => exact ⟨k + 1, last, by have := HK.out; omega, by go_num, rfl, t, I2.out, ⟨_, _, _, _, QB.out, LB.out⟩, EB'.out, TB.out⟩
          · by_cases h1 : (st.length : Int) ≤ x
            · go_wp2
              go_roundg (gk - 1)
              case measure => have := HK.out; omega
              case rel => exact ⟨k + 1, last, by have := HK.out; omega, by go_num, rfl, t, I2.out, ⟨_, _, _, _, QB.out, LB.out⟩, EB'.out, TB.out⟩
            · obtain ⟨cn, rfl⟩ := Int.eq_ofNat_of_zero_le (show 0 ≤ x by omega)
              have hcn : cn < st.length := by omega
              clear h0 h1
              obtain ⟨g, off3, cap3, hv3, hg, hcell3⟩ := S3.out.atP hcn
              cases hv3
              obtain ⟨⟨y1, y2⟩, hy⟩ := at_some hcn
              have hgB := (own_block OW.out g rfl).1
              have hg1 := (World.cell?_of_block (a := ⟨g, off3 + cn * 2, none⟩) (TB.out.2 g hg (by omega) (by simp))).trans (hcell3 cn _ hy).1
              have hg2 := (World.cell?_of_block (a := ⟨g, off3 + cn * 2 + 1, none⟩) (TB.out.2 g hg (by omega) (by simp))).trans (hcell3 cn _ hy).2
              dsimp only at hg1 hg2
              obtain ⟨t', hk', hI'⟩ := take_tkL HI.out (by omega) I2.out hy
              have KT := Lib.hid (fun (W : World) (h : LkR W (.agg #[.int .i64 (tkL t).inc, .slice a (tkL t).out.length c, .slice d (tkL t).inn.length c']) (tkL t)) => by
                have := take_any W _ (tkL t) 1 y1 y2 (by simp [tkL_len]) (by simp [tkL_len]) h
                rw [hk'] at this
                exact this)
              have NI := Lib.hid hI'
              have hgw := Nat.lt_of_lt_of_le hg TB.out.1
              clear hcell3 hy hk' hI' hg
              have qb := cells3 QB.out
              have j0 : (0 : Int) ≤ (cn : Int) := by omega
              have HLT := Lib.hid hlt
              go_upto_region 25 with fail
              go_cut [16, 17, 18] (fun s16 s17 s18 wx => ∃ Z, s16 = .pointer (some ⟨Z, 0, none⟩) ∧ s17 = .bool (decide (last < (cn : Int))) ∧ s18 = .int .i64 0 ∧ MidB w V4 B Z (tkL t') wx)
              case first =>
                have lB := lt_of_block QB.out
                have lb := World.block_lt_of_cell? _ _ hcx
                dsimp only at lb
                have m1 : ¬ wr.heap.size = B := by omega
                have m2 : ¬ B = wr.heap.size := by omega
                have m3 : ¬ wr.heap.size = b := by omega
                have m4 : ¬ b = wr.heap.size := by omega
                have m5 : ¬ wr.heap.size = g := by omega
                have m6 : ¬ g = wr.heap.size := by omega
                go_region_held3 (fun w' => w'.cell? ⟨B, 0, none⟩ = some (.int .i64 (tkL t).inc) ∧ w'.cell? ⟨B, 1, none⟩ = some (.slice a (tkL t).out.length c) ∧ w'.cell? ⟨B, 2, none⟩ = some (.slice d (tkL t).inn.length c') ∧ w'.cell? ⟨b, off + k, none⟩ = some (.int .i64 cn) ∧ w'.cell? ⟨g, off3 + cn * 2, none⟩ = some (.int .i64 y1) ∧ w'.cell? ⟨g, off3 + cn * 2 + 1, none⟩ = some (.int .i64 y2)) (go_keep)
                  (first
                    | (go_at_call 24
                       refine (KT.out _ (LB.out.below ?_)).mono ?_
                       · repeat (first | (with_reducible exact Below.refl _ _) | (with_reducible assumption) | (with_reducible refine below_drewN ?_ _) | (with_reducible refine Below.drew ?_) | ((with_reducible refine Below.alloc ?_ ?_ _); rotate_left; focus (first | (with_reducible exact Nat.le_refl _) | omega | (simp; done) | (simp; omega))) | ((with_reducible refine Below.setCell (p := ⟨_, _, _⟩) ?_ ?_ _); rotate_left; focus (first | (with_reducible exact Nat.le_refl _) | omega | (simp; done) | (simp; omega))))
                       rintro e W7 ⟨r7, rfl, hO7, hB7⟩
                       have hB8 : Below wr.heap.size wr W7 := Below.trans (by repeat (first | (with_reducible exact Below.refl _ _) | (with_reducible assumption) | (with_reducible refine below_drewN ?_ _) | (with_reducible refine Below.drew ?_) | ((with_reducible refine Below.alloc ?_ ?_ _); rotate_left; focus (first | (with_reducible exact Nat.le_refl _) | omega | (simp; done) | (simp; omega))) | ((with_reducible refine Below.setCell (p := ⟨_, _, _⟩) ?_ ?_ _); rotate_left; focus (first | (with_reducible exact Nat.le_refl _) | omega | (simp; done) | (simp; omega))))) (hB7.mono (by simp))
                       (try have hZ7 := cells3 (blk_keep (show (wr.alloc (.cells #[.int .i64 0, .slice none 0 0, .slice none 0 0] 25)).drew.heap[wr.heap.size]? = _ from blk_new _ _) hB7))
                       obtain ⟨sa7, sb7, rfl, oa7, ob7⟩ := hO7
                       obtain ⟨a7, ca7, rfl⟩ := owns_shape oa7
                       obtain ⟨d7, cb7, rfl⟩ := owns_shape ob7
                       have q7 := cells3 (blk_keep QB.out hB8)
                       have hcx7 := (hB8.cell (p := ⟨b, off + k, none⟩) (World.block_lt_of_cell? _ _ hcx)).trans hcx
                       have hg17 := (hB8.cell (p := ⟨g, off3 + cn * 2, none⟩) hgw).trans hg1
                       have hg27 := (hB8.cell (p := ⟨g, off3 + cn * 2 + 1, none⟩) hgw).trans hg2
                       have O7 := Lib.hid (⟨_, _, rfl, oa7, ob7⟩ : LkOwn W7 _ _ (tkL t'))
                       have B7 := Lib.hid hB7
                       clear hB7 oa7 ob7 hB8))
                all_goals
                  go_wp2_with fail
                  go_meet
                  refine ⟨_, rfl, rfl, rfl, ?_⟩
                  go_light
                  first
                    | exact midB_after (by repeat (first | (with_reducible exact Below.refl _ _) | (with_reducible assumption) | (with_reducible refine below_drewN ?_ _) | (with_reducible refine Below.drew ?_) | ((with_reducible refine Below.alloc ?_ ?_ _); rotate_left; focus (first | (with_reducible exact Nat.le_refl _) | omega | (simp; done) | (simp; omega))) | ((with_reducible refine Below.setCell (p := ⟨_, _, _⟩) ?_ ?_ _); rotate_left; focus (first | (with_reducible exact Nat.le_refl _) | omega | (simp; done) | (simp; omega))))) B7.out O7.out QB.out EB'.out TB.out
                    | exact midB_before (by repeat (first | (with_reducible exact Below.refl _ _) | (with_reducible assumption) | (with_reducible refine below_drewN ?_ _) | (with_reducible refine Below.drew ?_) | ((with_reducible refine Below.alloc ?_ ?_ _); rotate_left; focus (first | (with_reducible exact Nat.le_refl _) | omega | (simp; done) | (simp; omega))) | ((with_reducible refine Below.setCell (p := ⟨_, _, _⟩) ?_ ?_ _); rotate_left; focus (first | (with_reducible exact Nat.le_refl _) | omega | (simp; done) | (simp; omega))))) (show (wr.alloc (.cells #[.int .i64 0, .slice none 0 0, .slice none 0 0] 25)).drew.heap[wr.heap.size]? = _ from blk_new _ _) (Nat.le_refl _) B7.out O7.out QB.out EB'.out TB.out
              case rest =>
                obtain ⟨Z, rfl, rfl, rfl, hZ, ⟨a6, c6, d6, c6', qZ, LZ⟩, ⟨v0, v1, v2, qB6⟩, E6, T6⟩ := hcut
                have hcx6 := CX.out _ E6
                have lb := World.block_lt_of_cell? _ _ hcx
                dsimp only at lb
                go_upto_region 28 with (go_at_call 11; refine (num_any _ _).mono ?_; rintro e w' ⟨rfl, rfl⟩)
                have qz := cells3 qZ
                have qb := cells3 qB6
                have hZB : B < Z := by omega
                have m1 : ¬ B = Z := by omega
                have m2 : ¬ Z = B := by omega
                have hbw := WB.out
                have m3 : ¬ b = B := by omega
                have m4 : ¬ B = b := by omega
                have QZ := Lib.hid qZ
                have QB6 := Lib.hid qB6
                have LZ := Lib.hid LZ
                have E6 := Lib.hid E6
                have T6 := Lib.hid T6
                clear qZ qB6
                go_region_held3 (fun w' => w'.cell? ⟨Z, 0, none⟩ = some (.int .i64 (tkL t').inc) ∧ w'.cell? ⟨Z, 1, none⟩ = some (.slice a6 (tkL t').out.length c6) ∧ w'.cell? ⟨Z, 2, none⟩ = some (.slice d6 (tkL t').inn.length c6') ∧ w'.cell? ⟨b, off + k, none⟩ = some (.int .i64 cn)) (go_keep) (fail)
                all_goals (go_wp2_with fail)
                all_goals
                  go_roundg (gk - 1)
                  case measure => have := HK.out; omega
                  case rel =>
                    go_light
                    exact ⟨k + 1, _, by have := HK.out; have := HLT.out; omega, by go_num, rfl, relB_next NI.out (by omega) LZ.out QB6.out E6.out (by omega) T6.out⟩
        · go_wp2_with fail
          obtain ⟨W5, rfl⟩ : ∃ W5 : World, W5 = wr := ⟨_, rfl⟩
          refine (works_any W5).mono ?_
          rintro e W6 ⟨rfl, hB6⟩
          have hF := EB.trans (hB6.mono EB.size)
          go_wp2
          go_ret
          exact ⟨rfl, hF⟩

end Go.Proofs.Ytijifbkikgooiaa
