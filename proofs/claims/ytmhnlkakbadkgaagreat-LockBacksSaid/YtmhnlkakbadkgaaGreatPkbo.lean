/- Part 41 of the proof of LockBacks: contracts of functions that the law reaches, or the rules by which they are walked. No condition. -/
import Derived.Test.YtmhnlkakbadkgaaGreatPkbn
namespace Go.Proofs.YtmhnlkakbadkgaaGreat
open Go.RowKit Go.Shelf
set_option maxRecDepth 100000
theorem encI_oneC {xs : List Int} : ∀ u ∈ xs.flatMap encI, u.oneCell' = true := by
  intro u hu
  obtain ⟨x, _, hx⟩ := List.mem_flatMap.1 hu
  simp only [encI, List.mem_cons, List.not_mem_nil, or_false] at hx
  subst hx
  rfl
set_option maxHeartbeats 8000000 in
theorem refCopy15_c (x : Tok) (p : Sls) (hx : x.small) : Cm Tryz.prog 17 [.agg (tokV x p).toArray] [] (tokF x p) (fun e _ F1 => ∃ p', e = .returned (.agg (tokV x p').toArray) ∧ F1 = tokF x p') := by
  obtain ⟨hx1, hx2, hx3⟩ := hx
  obtain ⟨age, seq, q, hs, ⟨cv, cf, cn⟩⟩ := x
  dsimp only at hx1 hx2 hx3
  obtain ⟨a1, c1, a2, c2, a3, c3⟩ := p
  unfold tokF
  dsimp only
  refine cm_of (tab := tb) (ok := tbOk) [.g [.v (.int .i64 age), .v (.slice a1 seq.length c1), .v (.slice a2 q.length c2), .v (.slice a3 hs.length c3), .v (.int .i64 cv), .v (.int .i64 cf), .v (.int .u64 cn)]] Tryz.func17 Tryz.ntmps17 rfl rfl (fun _ _ => rfl) ?_
  intro w0 A0
  refine cjs_drawn [2, 5, 6, 9, 10, 13, 16, 17] (.op 0 <| .op 1 <| .op 3 <| .op 4 <| .op 7 <| .op 8 <| .op 11 <| .op 12 <| .op 14 <| .op 15 <| .alt (.op 2 <| .alt (.op 5 <| .alt (.op 6 <| .alt (.op 9 <| .op 10 <| .op 13 <| .op 16 <| .op 17 .z) (.op 10 <| .op 9 <| .op 13 <| .op 16 <| .op 17 .z)) (.op 10 <| .op 6 <| .op 9 <| .op 13 <| .op 16 <| .op 17 .z)) (.alt (.op 6 <| .alt (.op 5 <| .alt (.op 9 <| .op 10 <| .op 13 <| .op 16 <| .op 17 .z) (.op 10 <| .op 9 <| .op 13 <| .op 16 <| .op 17 .z)) (.op 10 <| .op 5 <| .op 9 <| .op 13 <| .op 16 <| .op 17 .z)) (.op 10 <| .alt (.op 5 <| .op 6 <| .op 9 <| .op 13 <| .op 16 <| .op 17 .z) (.op 6 <| .op 5 <| .op 9 <| .op 13 <| .op 16 <| .op 17 .z)))) (.alt (.op 6 <| .alt (.op 2 <| .alt (.op 5 <| .alt (.op 9 <| .op 10 <| .op 13 <| .op 16 <| .op 17 .z) (.op 10 <| .op 9 <| .op 13 <| .op 16 <| .op 17 .z)) (.op 10 <| .op 5 <| .op 9 <| .op 13 <| .op 16 <| .op 17 .z)) (.op 10 <| .op 2 <| .op 5 <| .op 9 <| .op 13 <| .op 16 <| .op 17 .z)) (.op 10 <| .alt (.op 2 <| .alt (.op 5 <| .op 6 <| .op 9 <| .op 13 <| .op 16 <| .op 17 .z) (.op 6 <| .op 5 <| .op 9 <| .op 13 <| .op 16 <| .op 17 .z)) (.op 6 <| .op 2 <| .op 5 <| .op 9 <| .op 13 <| .op 16 <| .op 17 .z)))) [0] [] [] [] (by kernel_rfl) (by kernel_rfl) rfl (by simp) (by simp) ?_
  intro N
  refine ⟨?_, ?_⟩
  · refine ⟨⟨⟨.inr ⟨rfl, Nat.le_of_ble_eq_true rfl, _, rfl, rfl, rfl⟩, trivial⟩, by simp⟩, ?_⟩
    refine ⟨?_, ?_⟩
    · refine ojs_litOwn 5 1 [] rfl rfl rfl (by decide) ?_
      intro g1
      refine ojs_append 2 (m' := seq.length) (news := seq.flatMap encI) rfl rfl rfl rfl rfl rfl rfl rfl rfl (by decide) rfl rfl rfl (srcF (enc := encI) (ys := seq) rfl (by simp) (fun _ => rfl)) (flat_lenR (enc := encI) (k := 1) (fun _ => rfl) seq) encI_oneC (by omega) (by simp only [maxLen]; omega) ?_
      intro x1 y1
      rw [List.nil_append, show 0 + seq.length = seq.length from Nat.zero_add _]
      refine ⟨⟨⟨.inr ⟨rfl, Nat.le_of_ble_eq_true rfl, _, rfl, rfl, rfl⟩, trivial⟩, by simp⟩, ?_⟩
      refine ⟨?_, ?_⟩
      · refine ⟨⟨⟨.inr ⟨rfl, Nat.le_of_ble_eq_true rfl, _, rfl, rfl, rfl⟩, trivial⟩, by simp⟩, ?_⟩
        refine ⟨?_, ?_⟩
        · refine ojs_litOwn 9 5 [] rfl rfl rfl (by decide) ?_
          intro g2
          refine ojs_append 3 (m' := q.length) (news := q.flatMap wtL) rfl rfl rfl rfl rfl rfl rfl rfl rfl (by decide) rfl rfl rfl (srcF (enc := wtL) (ys := q) rfl (by simp) wtL_len) (flat_lenR wtL_len q) wtL_one (by omega) (by simp only [maxLen]; omega) ?_
          intro x2 y2
          rw [List.nil_append, show 0 + q.length = q.length from Nat.zero_add _]
          refine ⟨⟨⟨.inr ⟨rfl, Nat.le_of_ble_eq_true rfl, _, rfl, rfl, rfl⟩, trivial⟩, by simp⟩, ?_⟩
          refine ⟨⟨⟨.inr ⟨rfl, Nat.le_of_ble_eq_true rfl, _, rfl, rfl, rfl⟩, trivial⟩, by simp⟩, ?_⟩
          refine ojs_litOwn 13 3 [] rfl rfl rfl (by decide) ?_
          intro g3
          refine ojs_append 4 (m' := hs.length) (news := hs.flatMap hdL) rfl rfl rfl rfl rfl rfl rfl rfl rfl (by decide) rfl rfl rfl (srcF (enc := hdL) (ys := hs) rfl (by simp) hdL_len) (flat_lenR hdL_len hs) hdL_one (by omega) (by simp only [maxLen]; omega) ?_
          intro x3 y3
          rw [List.nil_append, show 0 + hs.length = hs.length from Nat.zero_add _]
          refine ⟨⟨⟨.inr ⟨rfl, Nat.le_of_ble_eq_true rfl, _, rfl, rfl, rfl⟩, trivial⟩, by simp⟩, ?_⟩
          refine ⟨⟨⟨.inr ⟨rfl, Nat.le_of_ble_eq_true rfl, _, rfl, rfl, rfl⟩, trivial⟩, by simp⟩, ?_⟩
          refine ⟨⟨(by repeat' (first | exact trivial | refine ⟨Or.inl rfl, ?_⟩ | refine ⟨Or.inr ⟨rfl, Nat.le_of_ble_eq_true rfl, _, rfl, rfl, rfl⟩, ?_⟩)), by simp⟩, ?_⟩
          refine endR_weak (wk_seal (j := 2) (v := .slice x1 seq.length y1) (m := seq.length) (enc := encI) (xs := seq) (.inl rfl) (fun _ => rfl) rfl rfl) ?_
          refine endR_weak (wk_seal (j := 3) (v := .slice x2 q.length y2) (m := q.length) (enc := wtL) (xs := q) (.inl rfl) wtL_len rfl rfl) ?_
          refine endR_weak (wk_seal (j := 4) (v := .slice x3 hs.length y3) (m := hs.length) (enc := hdL) (xs := hs) (.inl rfl) hdL_len rfl rfl) ?_
          exact endR_ok (tokF ⟨age, seq, q, hs, ⟨cv, cf, cn⟩⟩ ⟨x1, y1, x2, y2, x3, y3⟩) rfl rfl ⟨rfl, rfl⟩ rfl (fun _ => ⟨⟨x1, y1, x2, y2, x3, y3⟩, rfl, rfl⟩) (by simp [tokF])
        · refine ⟨⟨⟨.inr ⟨rfl, Nat.le_of_ble_eq_true rfl, _, rfl, rfl, rfl⟩, trivial⟩, by simp⟩, ?_⟩
          refine ojs_litOwn 9 5 [] rfl rfl rfl (by decide) ?_
          intro g2
          refine ojs_append 3 (m' := q.length) (news := q.flatMap wtL) rfl rfl rfl rfl rfl rfl rfl rfl rfl (by decide) rfl rfl rfl (srcF (enc := wtL) (ys := q) rfl (by simp) wtL_len) (flat_lenR wtL_len q) wtL_one (by omega) (by simp only [maxLen]; omega) ?_
          intro x2 y2
          rw [List.nil_append, show 0 + q.length = q.length from Nat.zero_add _]
          refine ⟨⟨⟨.inr ⟨rfl, Nat.le_of_ble_eq_true rfl, _, rfl, rfl, rfl⟩, trivial⟩, by simp⟩, ?_⟩
          refine ojs_litOwn 13 3 [] rfl rfl rfl (by decide) ?_
          intro g3
          refine ojs_append 4 (m' := hs.length) (news := hs.flatMap hdL) rfl rfl rfl rfl rfl rfl rfl rfl rfl (by decide) rfl rfl rfl (srcF (enc := hdL) (ys := hs) rfl (by simp) hdL_len) (flat_lenR hdL_len hs) hdL_one (by omega) (by simp only [maxLen]; omega) ?_
          intro x3 y3
          rw [List.nil_append, show 0 + hs.length = hs.length from Nat.zero_add _]
          refine ⟨⟨⟨.inr ⟨rfl, Nat.le_of_ble_eq_true rfl, _, rfl, rfl, rfl⟩, trivial⟩, by simp⟩, ?_⟩
          refine ⟨⟨⟨.inr ⟨rfl, Nat.le_of_ble_eq_true rfl, _, rfl, rfl, rfl⟩, trivial⟩, by simp⟩, ?_⟩
          refine ⟨⟨(by repeat' (first | exact trivial | refine ⟨Or.inl rfl, ?_⟩ | refine ⟨Or.inr ⟨rfl, Nat.le_of_ble_eq_true rfl, _, rfl, rfl, rfl⟩, ?_⟩)), by simp⟩, ?_⟩
          refine endR_weak (wk_seal (j := 2) (v := .slice x1 seq.length y1) (m := seq.length) (enc := encI) (xs := seq) (.inl rfl) (fun _ => rfl) rfl rfl) ?_
          refine endR_weak (wk_seal (j := 3) (v := .slice x2 q.length y2) (m := q.length) (enc := wtL) (xs := q) (.inl rfl) wtL_len rfl rfl) ?_
          refine endR_weak (wk_seal (j := 4) (v := .slice x3 hs.length y3) (m := hs.length) (enc := hdL) (xs := hs) (.inl rfl) hdL_len rfl rfl) ?_
          exact endR_ok (tokF ⟨age, seq, q, hs, ⟨cv, cf, cn⟩⟩ ⟨x1, y1, x2, y2, x3, y3⟩) rfl rfl ⟨rfl, rfl⟩ rfl (fun _ => ⟨⟨x1, y1, x2, y2, x3, y3⟩, rfl, rfl⟩) (by simp [tokF])
      · refine ⟨⟨⟨.inr ⟨rfl, Nat.le_of_ble_eq_true rfl, _, rfl, rfl, rfl⟩, trivial⟩, by simp⟩, ?_⟩
        refine ⟨⟨⟨.inr ⟨rfl, Nat.le_of_ble_eq_true rfl, _, rfl, rfl, rfl⟩, trivial⟩, by simp⟩, ?_⟩
        refine ojs_litOwn 9 5 [] rfl rfl rfl (by decide) ?_
        intro g2
        refine ojs_append 4 (m' := q.length) (news := q.flatMap wtL) rfl rfl rfl rfl rfl rfl rfl rfl rfl (by decide) rfl rfl rfl (srcF (enc := wtL) (ys := q) rfl (by simp) wtL_len) (flat_lenR wtL_len q) wtL_one (by omega) (by simp only [maxLen]; omega) ?_
        intro x2 y2
        rw [List.nil_append, show 0 + q.length = q.length from Nat.zero_add _]
        refine ⟨⟨⟨.inr ⟨rfl, Nat.le_of_ble_eq_true rfl, _, rfl, rfl, rfl⟩, trivial⟩, by simp⟩, ?_⟩
        refine ojs_litOwn 13 3 [] rfl rfl rfl (by decide) ?_
        intro g3
        refine ojs_append 3 (m' := hs.length) (news := hs.flatMap hdL) rfl rfl rfl rfl rfl rfl rfl rfl rfl (by decide) rfl rfl rfl (srcF (enc := hdL) (ys := hs) rfl (by simp) hdL_len) (flat_lenR hdL_len hs) hdL_one (by omega) (by simp only [maxLen]; omega) ?_
        intro x3 y3
        rw [List.nil_append, show 0 + hs.length = hs.length from Nat.zero_add _]
        refine ⟨⟨⟨.inr ⟨rfl, Nat.le_of_ble_eq_true rfl, _, rfl, rfl, rfl⟩, trivial⟩, by simp⟩, ?_⟩
        refine ⟨⟨⟨.inr ⟨rfl, Nat.le_of_ble_eq_true rfl, _, rfl, rfl, rfl⟩, trivial⟩, by simp⟩, ?_⟩
        refine ⟨⟨(by repeat' (first | exact trivial | refine ⟨Or.inl rfl, ?_⟩ | refine ⟨Or.inr ⟨rfl, Nat.le_of_ble_eq_true rfl, _, rfl, rfl, rfl⟩, ?_⟩)), by simp⟩, ?_⟩
        refine endR_weak (wk_seal (j := 2) (v := .slice x1 seq.length y1) (m := seq.length) (enc := encI) (xs := seq) (.inl rfl) (fun _ => rfl) rfl rfl) ?_
        refine endR_weak (wk_seal (j := 4) (v := .slice x2 q.length y2) (m := q.length) (enc := wtL) (xs := q) (.inl rfl) wtL_len rfl rfl) ?_
        refine endR_weak (wk_seal (j := 3) (v := .slice x3 hs.length y3) (m := hs.length) (enc := hdL) (xs := hs) (.inl rfl) hdL_len rfl rfl) ?_
        exact endR_ok (tokF ⟨age, seq, q, hs, ⟨cv, cf, cn⟩⟩ ⟨x1, y1, x2, y2, x3, y3⟩) rfl rfl ⟨rfl, rfl⟩ rfl (fun _ => ⟨⟨x1, y1, x2, y2, x3, y3⟩, rfl, rfl⟩) (by simp [tokF])
    · refine ⟨?_, ?_⟩
      · refine ⟨⟨⟨.inr ⟨rfl, Nat.le_of_ble_eq_true rfl, _, rfl, rfl, rfl⟩, trivial⟩, by simp⟩, ?_⟩
        refine ⟨?_, ?_⟩
        · refine ojs_litOwn 5 1 [] rfl rfl rfl (by decide) ?_
          intro g1
          refine ojs_append 2 (m' := seq.length) (news := seq.flatMap encI) rfl rfl rfl rfl rfl rfl rfl rfl rfl (by decide) rfl rfl rfl (srcF (enc := encI) (ys := seq) rfl (by simp) (fun _ => rfl)) (flat_lenR (enc := encI) (k := 1) (fun _ => rfl) seq) encI_oneC (by omega) (by simp only [maxLen]; omega) ?_
          intro x1 y1
          rw [List.nil_append, show 0 + seq.length = seq.length from Nat.zero_add _]
          refine ⟨⟨⟨.inr ⟨rfl, Nat.le_of_ble_eq_true rfl, _, rfl, rfl, rfl⟩, trivial⟩, by simp⟩, ?_⟩
          refine ⟨?_, ?_⟩
          · refine ojs_litOwn 9 5 [] rfl rfl rfl (by decide) ?_
            intro g2
            refine ojs_append 3 (m' := q.length) (news := q.flatMap wtL) rfl rfl rfl rfl rfl rfl rfl rfl rfl (by decide) rfl rfl rfl (srcF (enc := wtL) (ys := q) rfl (by simp) wtL_len) (flat_lenR wtL_len q) wtL_one (by omega) (by simp only [maxLen]; omega) ?_
            intro x2 y2
            rw [List.nil_append, show 0 + q.length = q.length from Nat.zero_add _]
            refine ⟨⟨⟨.inr ⟨rfl, Nat.le_of_ble_eq_true rfl, _, rfl, rfl, rfl⟩, trivial⟩, by simp⟩, ?_⟩
            refine ⟨⟨⟨.inr ⟨rfl, Nat.le_of_ble_eq_true rfl, _, rfl, rfl, rfl⟩, trivial⟩, by simp⟩, ?_⟩
            refine ojs_litOwn 13 3 [] rfl rfl rfl (by decide) ?_
            intro g3
            refine ojs_append 4 (m' := hs.length) (news := hs.flatMap hdL) rfl rfl rfl rfl rfl rfl rfl rfl rfl (by decide) rfl rfl rfl (srcF (enc := hdL) (ys := hs) rfl (by simp) hdL_len) (flat_lenR hdL_len hs) hdL_one (by omega) (by simp only [maxLen]; omega) ?_
            intro x3 y3
            rw [List.nil_append, show 0 + hs.length = hs.length from Nat.zero_add _]
            refine ⟨⟨⟨.inr ⟨rfl, Nat.le_of_ble_eq_true rfl, _, rfl, rfl, rfl⟩, trivial⟩, by simp⟩, ?_⟩
            refine ⟨⟨⟨.inr ⟨rfl, Nat.le_of_ble_eq_true rfl, _, rfl, rfl, rfl⟩, trivial⟩, by simp⟩, ?_⟩
            refine ⟨⟨(by repeat' (first | exact trivial | refine ⟨Or.inl rfl, ?_⟩ | refine ⟨Or.inr ⟨rfl, Nat.le_of_ble_eq_true rfl, _, rfl, rfl, rfl⟩, ?_⟩)), by simp⟩, ?_⟩
            refine endR_weak (wk_seal (j := 2) (v := .slice x1 seq.length y1) (m := seq.length) (enc := encI) (xs := seq) (.inl rfl) (fun _ => rfl) rfl rfl) ?_
            refine endR_weak (wk_seal (j := 3) (v := .slice x2 q.length y2) (m := q.length) (enc := wtL) (xs := q) (.inl rfl) wtL_len rfl rfl) ?_
            refine endR_weak (wk_seal (j := 4) (v := .slice x3 hs.length y3) (m := hs.length) (enc := hdL) (xs := hs) (.inl rfl) hdL_len rfl rfl) ?_
            exact endR_ok (tokF ⟨age, seq, q, hs, ⟨cv, cf, cn⟩⟩ ⟨x1, y1, x2, y2, x3, y3⟩) rfl rfl ⟨rfl, rfl⟩ rfl (fun _ => ⟨⟨x1, y1, x2, y2, x3, y3⟩, rfl, rfl⟩) (by simp [tokF])
          · refine ⟨⟨⟨.inr ⟨rfl, Nat.le_of_ble_eq_true rfl, _, rfl, rfl, rfl⟩, trivial⟩, by simp⟩, ?_⟩
            refine ojs_litOwn 9 5 [] rfl rfl rfl (by decide) ?_
            intro g2
            refine ojs_append 3 (m' := q.length) (news := q.flatMap wtL) rfl rfl rfl rfl rfl rfl rfl rfl rfl (by decide) rfl rfl rfl (srcF (enc := wtL) (ys := q) rfl (by simp) wtL_len) (flat_lenR wtL_len q) wtL_one (by omega) (by simp only [maxLen]; omega) ?_
            intro x2 y2
            rw [List.nil_append, show 0 + q.length = q.length from Nat.zero_add _]
            refine ⟨⟨⟨.inr ⟨rfl, Nat.le_of_ble_eq_true rfl, _, rfl, rfl, rfl⟩, trivial⟩, by simp⟩, ?_⟩
            refine ojs_litOwn 13 3 [] rfl rfl rfl (by decide) ?_
            intro g3
            refine ojs_append 4 (m' := hs.length) (news := hs.flatMap hdL) rfl rfl rfl rfl rfl rfl rfl rfl rfl (by decide) rfl rfl rfl (srcF (enc := hdL) (ys := hs) rfl (by simp) hdL_len) (flat_lenR hdL_len hs) hdL_one (by omega) (by simp only [maxLen]; omega) ?_
            intro x3 y3
            rw [List.nil_append, show 0 + hs.length = hs.length from Nat.zero_add _]
            refine ⟨⟨⟨.inr ⟨rfl, Nat.le_of_ble_eq_true rfl, _, rfl, rfl, rfl⟩, trivial⟩, by simp⟩, ?_⟩
            refine ⟨⟨⟨.inr ⟨rfl, Nat.le_of_ble_eq_true rfl, _, rfl, rfl, rfl⟩, trivial⟩, by simp⟩, ?_⟩
            refine ⟨⟨(by repeat' (first | exact trivial | refine ⟨Or.inl rfl, ?_⟩ | refine ⟨Or.inr ⟨rfl, Nat.le_of_ble_eq_true rfl, _, rfl, rfl, rfl⟩, ?_⟩)), by simp⟩, ?_⟩
            refine endR_weak (wk_seal (j := 2) (v := .slice x1 seq.length y1) (m := seq.length) (enc := encI) (xs := seq) (.inl rfl) (fun _ => rfl) rfl rfl) ?_
            refine endR_weak (wk_seal (j := 3) (v := .slice x2 q.length y2) (m := q.length) (enc := wtL) (xs := q) (.inl rfl) wtL_len rfl rfl) ?_
            refine endR_weak (wk_seal (j := 4) (v := .slice x3 hs.length y3) (m := hs.length) (enc := hdL) (xs := hs) (.inl rfl) hdL_len rfl rfl) ?_
            exact endR_ok (tokF ⟨age, seq, q, hs, ⟨cv, cf, cn⟩⟩ ⟨x1, y1, x2, y2, x3, y3⟩) rfl rfl ⟨rfl, rfl⟩ rfl (fun _ => ⟨⟨x1, y1, x2, y2, x3, y3⟩, rfl, rfl⟩) (by simp [tokF])
        · refine ⟨⟨⟨.inr ⟨rfl, Nat.le_of_ble_eq_true rfl, _, rfl, rfl, rfl⟩, trivial⟩, by simp⟩, ?_⟩
          refine ojs_litOwn 5 1 [] rfl rfl rfl (by decide) ?_
          intro g1
          refine ojs_append 2 (m' := seq.length) (news := seq.flatMap encI) rfl rfl rfl rfl rfl rfl rfl rfl rfl (by decide) rfl rfl rfl (srcF (enc := encI) (ys := seq) rfl (by simp) (fun _ => rfl)) (flat_lenR (enc := encI) (k := 1) (fun _ => rfl) seq) encI_oneC (by omega) (by simp only [maxLen]; omega) ?_
          intro x1 y1
          rw [List.nil_append, show 0 + seq.length = seq.length from Nat.zero_add _]
          refine ⟨⟨⟨.inr ⟨rfl, Nat.le_of_ble_eq_true rfl, _, rfl, rfl, rfl⟩, trivial⟩, by simp⟩, ?_⟩
          refine ojs_litOwn 9 5 [] rfl rfl rfl (by decide) ?_
          intro g2
          refine ojs_append 3 (m' := q.length) (news := q.flatMap wtL) rfl rfl rfl rfl rfl rfl rfl rfl rfl (by decide) rfl rfl rfl (srcF (enc := wtL) (ys := q) rfl (by simp) wtL_len) (flat_lenR wtL_len q) wtL_one (by omega) (by simp only [maxLen]; omega) ?_
          intro x2 y2
          rw [List.nil_append, show 0 + q.length = q.length from Nat.zero_add _]
          refine ⟨⟨⟨.inr ⟨rfl, Nat.le_of_ble_eq_true rfl, _, rfl, rfl, rfl⟩, trivial⟩, by simp⟩, ?_⟩
          refine ojs_litOwn 13 3 [] rfl rfl rfl (by decide) ?_
          intro g3
          refine ojs_append 4 (m' := hs.length) (news := hs.flatMap hdL) rfl rfl rfl rfl rfl rfl rfl rfl rfl (by decide) rfl rfl rfl (srcF (enc := hdL) (ys := hs) rfl (by simp) hdL_len) (flat_lenR hdL_len hs) hdL_one (by omega) (by simp only [maxLen]; omega) ?_
          intro x3 y3
          rw [List.nil_append, show 0 + hs.length = hs.length from Nat.zero_add _]
          refine ⟨⟨⟨.inr ⟨rfl, Nat.le_of_ble_eq_true rfl, _, rfl, rfl, rfl⟩, trivial⟩, by simp⟩, ?_⟩
          refine ⟨⟨⟨.inr ⟨rfl, Nat.le_of_ble_eq_true rfl, _, rfl, rfl, rfl⟩, trivial⟩, by simp⟩, ?_⟩
          refine ⟨⟨(by repeat' (first | exact trivial | refine ⟨Or.inl rfl, ?_⟩ | refine ⟨Or.inr ⟨rfl, Nat.le_of_ble_eq_true rfl, _, rfl, rfl, rfl⟩, ?_⟩)), by simp⟩, ?_⟩
          refine endR_weak (wk_seal (j := 2) (v := .slice x1 seq.length y1) (m := seq.length) (enc := encI) (xs := seq) (.inl rfl) (fun _ => rfl) rfl rfl) ?_
          refine endR_weak (wk_seal (j := 3) (v := .slice x2 q.length y2) (m := q.length) (enc := wtL) (xs := q) (.inl rfl) wtL_len rfl rfl) ?_
          refine endR_weak (wk_seal (j := 4) (v := .slice x3 hs.length y3) (m := hs.length) (enc := hdL) (xs := hs) (.inl rfl) hdL_len rfl rfl) ?_
          exact endR_ok (tokF ⟨age, seq, q, hs, ⟨cv, cf, cn⟩⟩ ⟨x1, y1, x2, y2, x3, y3⟩) rfl rfl ⟨rfl, rfl⟩ rfl (fun _ => ⟨⟨x1, y1, x2, y2, x3, y3⟩, rfl, rfl⟩) (by simp [tokF])
      · refine ⟨⟨⟨.inr ⟨rfl, Nat.le_of_ble_eq_true rfl, _, rfl, rfl, rfl⟩, trivial⟩, by simp⟩, ?_⟩
        refine ⟨?_, ?_⟩
        · refine ojs_litOwn 5 1 [] rfl rfl rfl (by decide) ?_
          intro g1
          refine ojs_append 2 (m' := seq.length) (news := seq.flatMap encI) rfl rfl rfl rfl rfl rfl rfl rfl rfl (by decide) rfl rfl rfl (srcF (enc := encI) (ys := seq) rfl (by simp) (fun _ => rfl)) (flat_lenR (enc := encI) (k := 1) (fun _ => rfl) seq) encI_oneC (by omega) (by simp only [maxLen]; omega) ?_
          intro x1 y1
          rw [List.nil_append, show 0 + seq.length = seq.length from Nat.zero_add _]
          refine ⟨⟨⟨.inr ⟨rfl, Nat.le_of_ble_eq_true rfl, _, rfl, rfl, rfl⟩, trivial⟩, by simp⟩, ?_⟩
          refine ⟨⟨⟨.inr ⟨rfl, Nat.le_of_ble_eq_true rfl, _, rfl, rfl, rfl⟩, trivial⟩, by simp⟩, ?_⟩
          refine ojs_litOwn 9 5 [] rfl rfl rfl (by decide) ?_
          intro g2
          refine ojs_append 4 (m' := q.length) (news := q.flatMap wtL) rfl rfl rfl rfl rfl rfl rfl rfl rfl (by decide) rfl rfl rfl (srcF (enc := wtL) (ys := q) rfl (by simp) wtL_len) (flat_lenR wtL_len q) wtL_one (by omega) (by simp only [maxLen]; omega) ?_
          intro x2 y2
          rw [List.nil_append, show 0 + q.length = q.length from Nat.zero_add _]
          refine ⟨⟨⟨.inr ⟨rfl, Nat.le_of_ble_eq_true rfl, _, rfl, rfl, rfl⟩, trivial⟩, by simp⟩, ?_⟩
          refine ojs_litOwn 13 3 [] rfl rfl rfl (by decide) ?_
          intro g3
          refine ojs_append 3 (m' := hs.length) (news := hs.flatMap hdL) rfl rfl rfl rfl rfl rfl rfl rfl rfl (by decide) rfl rfl rfl (srcF (enc := hdL) (ys := hs) rfl (by simp) hdL_len) (flat_lenR hdL_len hs) hdL_one (by omega) (by simp only [maxLen]; omega) ?_
          intro x3 y3
          rw [List.nil_append, show 0 + hs.length = hs.length from Nat.zero_add _]
          refine ⟨⟨⟨.inr ⟨rfl, Nat.le_of_ble_eq_true rfl, _, rfl, rfl, rfl⟩, trivial⟩, by simp⟩, ?_⟩
          refine ⟨⟨⟨.inr ⟨rfl, Nat.le_of_ble_eq_true rfl, _, rfl, rfl, rfl⟩, trivial⟩, by simp⟩, ?_⟩
          refine ⟨⟨(by repeat' (first | exact trivial | refine ⟨Or.inl rfl, ?_⟩ | refine ⟨Or.inr ⟨rfl, Nat.le_of_ble_eq_true rfl, _, rfl, rfl, rfl⟩, ?_⟩)), by simp⟩, ?_⟩
          refine endR_weak (wk_seal (j := 2) (v := .slice x1 seq.length y1) (m := seq.length) (enc := encI) (xs := seq) (.inl rfl) (fun _ => rfl) rfl rfl) ?_
          refine endR_weak (wk_seal (j := 4) (v := .slice x2 q.length y2) (m := q.length) (enc := wtL) (xs := q) (.inl rfl) wtL_len rfl rfl) ?_
          refine endR_weak (wk_seal (j := 3) (v := .slice x3 hs.length y3) (m := hs.length) (enc := hdL) (xs := hs) (.inl rfl) hdL_len rfl rfl) ?_
          exact endR_ok (tokF ⟨age, seq, q, hs, ⟨cv, cf, cn⟩⟩ ⟨x1, y1, x2, y2, x3, y3⟩) rfl rfl ⟨rfl, rfl⟩ rfl (fun _ => ⟨⟨x1, y1, x2, y2, x3, y3⟩, rfl, rfl⟩) (by simp [tokF])
        · refine ⟨⟨⟨.inr ⟨rfl, Nat.le_of_ble_eq_true rfl, _, rfl, rfl, rfl⟩, trivial⟩, by simp⟩, ?_⟩
          refine ojs_litOwn 5 1 [] rfl rfl rfl (by decide) ?_
          intro g1
          refine ojs_append 2 (m' := seq.length) (news := seq.flatMap encI) rfl rfl rfl rfl rfl rfl rfl rfl rfl (by decide) rfl rfl rfl (srcF (enc := encI) (ys := seq) rfl (by simp) (fun _ => rfl)) (flat_lenR (enc := encI) (k := 1) (fun _ => rfl) seq) encI_oneC (by omega) (by simp only [maxLen]; omega) ?_
          intro x1 y1
          rw [List.nil_append, show 0 + seq.length = seq.length from Nat.zero_add _]
          refine ⟨⟨⟨.inr ⟨rfl, Nat.le_of_ble_eq_true rfl, _, rfl, rfl, rfl⟩, trivial⟩, by simp⟩, ?_⟩
          refine ojs_litOwn 9 5 [] rfl rfl rfl (by decide) ?_
          intro g2
          refine ojs_append 4 (m' := q.length) (news := q.flatMap wtL) rfl rfl rfl rfl rfl rfl rfl rfl rfl (by decide) rfl rfl rfl (srcF (enc := wtL) (ys := q) rfl (by simp) wtL_len) (flat_lenR wtL_len q) wtL_one (by omega) (by simp only [maxLen]; omega) ?_
          intro x2 y2
          rw [List.nil_append, show 0 + q.length = q.length from Nat.zero_add _]
          refine ⟨⟨⟨.inr ⟨rfl, Nat.le_of_ble_eq_true rfl, _, rfl, rfl, rfl⟩, trivial⟩, by simp⟩, ?_⟩
          refine ojs_litOwn 13 3 [] rfl rfl rfl (by decide) ?_
          intro g3
          refine ojs_append 3 (m' := hs.length) (news := hs.flatMap hdL) rfl rfl rfl rfl rfl rfl rfl rfl rfl (by decide) rfl rfl rfl (srcF (enc := hdL) (ys := hs) rfl (by simp) hdL_len) (flat_lenR hdL_len hs) hdL_one (by omega) (by simp only [maxLen]; omega) ?_
          intro x3 y3
          rw [List.nil_append, show 0 + hs.length = hs.length from Nat.zero_add _]
          refine ⟨⟨⟨.inr ⟨rfl, Nat.le_of_ble_eq_true rfl, _, rfl, rfl, rfl⟩, trivial⟩, by simp⟩, ?_⟩
          refine ⟨⟨⟨.inr ⟨rfl, Nat.le_of_ble_eq_true rfl, _, rfl, rfl, rfl⟩, trivial⟩, by simp⟩, ?_⟩
          refine ⟨⟨(by repeat' (first | exact trivial | refine ⟨Or.inl rfl, ?_⟩ | refine ⟨Or.inr ⟨rfl, Nat.le_of_ble_eq_true rfl, _, rfl, rfl, rfl⟩, ?_⟩)), by simp⟩, ?_⟩
          refine endR_weak (wk_seal (j := 2) (v := .slice x1 seq.length y1) (m := seq.length) (enc := encI) (xs := seq) (.inl rfl) (fun _ => rfl) rfl rfl) ?_
          refine endR_weak (wk_seal (j := 4) (v := .slice x2 q.length y2) (m := q.length) (enc := wtL) (xs := q) (.inl rfl) wtL_len rfl rfl) ?_
          refine endR_weak (wk_seal (j := 3) (v := .slice x3 hs.length y3) (m := hs.length) (enc := hdL) (xs := hs) (.inl rfl) hdL_len rfl rfl) ?_
          exact endR_ok (tokF ⟨age, seq, q, hs, ⟨cv, cf, cn⟩⟩ ⟨x1, y1, x2, y2, x3, y3⟩) rfl rfl ⟨rfl, rfl⟩ rfl (fun _ => ⟨⟨x1, y1, x2, y2, x3, y3⟩, rfl, rfl⟩) (by simp [tokF])
  · refine ⟨?_, ?_⟩
    · refine ⟨⟨⟨.inr ⟨rfl, Nat.le_of_ble_eq_true rfl, _, rfl, rfl, rfl⟩, trivial⟩, by simp⟩, ?_⟩
      refine ⟨?_, ?_⟩
      · refine ⟨⟨⟨.inr ⟨rfl, Nat.le_of_ble_eq_true rfl, _, rfl, rfl, rfl⟩, trivial⟩, by simp⟩, ?_⟩
        refine ⟨?_, ?_⟩
        · refine ojs_litOwn 5 1 [] rfl rfl rfl (by decide) ?_
          intro g1
          refine ojs_append 3 (m' := seq.length) (news := seq.flatMap encI) rfl rfl rfl rfl rfl rfl rfl rfl rfl (by decide) rfl rfl rfl (srcF (enc := encI) (ys := seq) rfl (by simp) (fun _ => rfl)) (flat_lenR (enc := encI) (k := 1) (fun _ => rfl) seq) encI_oneC (by omega) (by simp only [maxLen]; omega) ?_
          intro x1 y1
          rw [List.nil_append, show 0 + seq.length = seq.length from Nat.zero_add _]
          refine ⟨⟨⟨.inr ⟨rfl, Nat.le_of_ble_eq_true rfl, _, rfl, rfl, rfl⟩, trivial⟩, by simp⟩, ?_⟩
          refine ⟨?_, ?_⟩
          · refine ojs_litOwn 9 5 [] rfl rfl rfl (by decide) ?_
            intro g2
            refine ojs_append 2 (m' := q.length) (news := q.flatMap wtL) rfl rfl rfl rfl rfl rfl rfl rfl rfl (by decide) rfl rfl rfl (srcF (enc := wtL) (ys := q) rfl (by simp) wtL_len) (flat_lenR wtL_len q) wtL_one (by omega) (by simp only [maxLen]; omega) ?_
            intro x2 y2
            rw [List.nil_append, show 0 + q.length = q.length from Nat.zero_add _]
            refine ⟨⟨⟨.inr ⟨rfl, Nat.le_of_ble_eq_true rfl, _, rfl, rfl, rfl⟩, trivial⟩, by simp⟩, ?_⟩
            refine ⟨⟨⟨.inr ⟨rfl, Nat.le_of_ble_eq_true rfl, _, rfl, rfl, rfl⟩, trivial⟩, by simp⟩, ?_⟩
            refine ojs_litOwn 13 3 [] rfl rfl rfl (by decide) ?_
            intro g3
            refine ojs_append 4 (m' := hs.length) (news := hs.flatMap hdL) rfl rfl rfl rfl rfl rfl rfl rfl rfl (by decide) rfl rfl rfl (srcF (enc := hdL) (ys := hs) rfl (by simp) hdL_len) (flat_lenR hdL_len hs) hdL_one (by omega) (by simp only [maxLen]; omega) ?_
            intro x3 y3
            rw [List.nil_append, show 0 + hs.length = hs.length from Nat.zero_add _]
            refine ⟨⟨⟨.inr ⟨rfl, Nat.le_of_ble_eq_true rfl, _, rfl, rfl, rfl⟩, trivial⟩, by simp⟩, ?_⟩
            refine ⟨⟨⟨.inr ⟨rfl, Nat.le_of_ble_eq_true rfl, _, rfl, rfl, rfl⟩, trivial⟩, by simp⟩, ?_⟩
            refine ⟨⟨(by repeat' (first | exact trivial | refine ⟨Or.inl rfl, ?_⟩ | refine ⟨Or.inr ⟨rfl, Nat.le_of_ble_eq_true rfl, _, rfl, rfl, rfl⟩, ?_⟩)), by simp⟩, ?_⟩
            refine endR_weak (wk_seal (j := 3) (v := .slice x1 seq.length y1) (m := seq.length) (enc := encI) (xs := seq) (.inl rfl) (fun _ => rfl) rfl rfl) ?_
            refine endR_weak (wk_seal (j := 2) (v := .slice x2 q.length y2) (m := q.length) (enc := wtL) (xs := q) (.inl rfl) wtL_len rfl rfl) ?_
            refine endR_weak (wk_seal (j := 4) (v := .slice x3 hs.length y3) (m := hs.length) (enc := hdL) (xs := hs) (.inl rfl) hdL_len rfl rfl) ?_
            exact endR_ok (tokF ⟨age, seq, q, hs, ⟨cv, cf, cn⟩⟩ ⟨x1, y1, x2, y2, x3, y3⟩) rfl rfl ⟨rfl, rfl⟩ rfl (fun _ => ⟨⟨x1, y1, x2, y2, x3, y3⟩, rfl, rfl⟩) (by simp [tokF])
          · refine ⟨⟨⟨.inr ⟨rfl, Nat.le_of_ble_eq_true rfl, _, rfl, rfl, rfl⟩, trivial⟩, by simp⟩, ?_⟩
            refine ojs_litOwn 9 5 [] rfl rfl rfl (by decide) ?_
            intro g2
            refine ojs_append 2 (m' := q.length) (news := q.flatMap wtL) rfl rfl rfl rfl rfl rfl rfl rfl rfl (by decide) rfl rfl rfl (srcF (enc := wtL) (ys := q) rfl (by simp) wtL_len) (flat_lenR wtL_len q) wtL_one (by omega) (by simp only [maxLen]; omega) ?_
            intro x2 y2
            rw [List.nil_append, show 0 + q.length = q.length from Nat.zero_add _]
            refine ⟨⟨⟨.inr ⟨rfl, Nat.le_of_ble_eq_true rfl, _, rfl, rfl, rfl⟩, trivial⟩, by simp⟩, ?_⟩
            refine ojs_litOwn 13 3 [] rfl rfl rfl (by decide) ?_
            intro g3
            refine ojs_append 4 (m' := hs.length) (news := hs.flatMap hdL) rfl rfl rfl rfl rfl rfl rfl rfl rfl (by decide) rfl rfl rfl (srcF (enc := hdL) (ys := hs) rfl (by simp) hdL_len) (flat_lenR hdL_len hs) hdL_one (by omega) (by simp only [maxLen]; omega) ?_
            intro x3 y3
            rw [List.nil_append, show 0 + hs.length = hs.length from Nat.zero_add _]
            refine ⟨⟨⟨.inr ⟨rfl, Nat.le_of_ble_eq_true rfl, _, rfl, rfl, rfl⟩, trivial⟩, by simp⟩, ?_⟩
            refine ⟨⟨⟨.inr ⟨rfl, Nat.le_of_ble_eq_true rfl, _, rfl, rfl, rfl⟩, trivial⟩, by simp⟩, ?_⟩
            refine ⟨⟨(by repeat' (first | exact trivial | refine ⟨Or.inl rfl, ?_⟩ | refine ⟨Or.inr ⟨rfl, Nat.le_of_ble_eq_true rfl, _, rfl, rfl, rfl⟩, ?_⟩)), by simp⟩, ?_⟩
            refine endR_weak (wk_seal (j := 3) (v := .slice x1 seq.length y1) (m := seq.length) (enc := encI) (xs := seq) (.inl rfl) (fun _ => rfl) rfl rfl) ?_
            refine endR_weak (wk_seal (j := 2) (v := .slice x2 q.length y2) (m := q.length) (enc := wtL) (xs := q) (.inl rfl) wtL_len rfl rfl) ?_
            refine endR_weak (wk_seal (j := 4) (v := .slice x3 hs.length y3) (m := hs.length) (enc := hdL) (xs := hs) (.inl rfl) hdL_len rfl rfl) ?_
            exact endR_ok (tokF ⟨age, seq, q, hs, ⟨cv, cf, cn⟩⟩ ⟨x1, y1, x2, y2, x3, y3⟩) rfl rfl ⟨rfl, rfl⟩ rfl (fun _ => ⟨⟨x1, y1, x2, y2, x3, y3⟩, rfl, rfl⟩) (by simp [tokF])
        · refine ⟨⟨⟨.inr ⟨rfl, Nat.le_of_ble_eq_true rfl, _, rfl, rfl, rfl⟩, trivial⟩, by simp⟩, ?_⟩
          refine ojs_litOwn 5 1 [] rfl rfl rfl (by decide) ?_
          intro g1
          refine ojs_append 3 (m' := seq.length) (news := seq.flatMap encI) rfl rfl rfl rfl rfl rfl rfl rfl rfl (by decide) rfl rfl rfl (srcF (enc := encI) (ys := seq) rfl (by simp) (fun _ => rfl)) (flat_lenR (enc := encI) (k := 1) (fun _ => rfl) seq) encI_oneC (by omega) (by simp only [maxLen]; omega) ?_
          intro x1 y1
          rw [List.nil_append, show 0 + seq.length = seq.length from Nat.zero_add _]
          refine ⟨⟨⟨.inr ⟨rfl, Nat.le_of_ble_eq_true rfl, _, rfl, rfl, rfl⟩, trivial⟩, by simp⟩, ?_⟩
          refine ojs_litOwn 9 5 [] rfl rfl rfl (by decide) ?_
          intro g2
          refine ojs_append 2 (m' := q.length) (news := q.flatMap wtL) rfl rfl rfl rfl rfl rfl rfl rfl rfl (by decide) rfl rfl rfl (srcF (enc := wtL) (ys := q) rfl (by simp) wtL_len) (flat_lenR wtL_len q) wtL_one (by omega) (by simp only [maxLen]; omega) ?_
          intro x2 y2
          rw [List.nil_append, show 0 + q.length = q.length from Nat.zero_add _]
          refine ⟨⟨⟨.inr ⟨rfl, Nat.le_of_ble_eq_true rfl, _, rfl, rfl, rfl⟩, trivial⟩, by simp⟩, ?_⟩
          refine ojs_litOwn 13 3 [] rfl rfl rfl (by decide) ?_
          intro g3
          refine ojs_append 4 (m' := hs.length) (news := hs.flatMap hdL) rfl rfl rfl rfl rfl rfl rfl rfl rfl (by decide) rfl rfl rfl (srcF (enc := hdL) (ys := hs) rfl (by simp) hdL_len) (flat_lenR hdL_len hs) hdL_one (by omega) (by simp only [maxLen]; omega) ?_
          intro x3 y3
          rw [List.nil_append, show 0 + hs.length = hs.length from Nat.zero_add _]
          refine ⟨⟨⟨.inr ⟨rfl, Nat.le_of_ble_eq_true rfl, _, rfl, rfl, rfl⟩, trivial⟩, by simp⟩, ?_⟩
          refine ⟨⟨⟨.inr ⟨rfl, Nat.le_of_ble_eq_true rfl, _, rfl, rfl, rfl⟩, trivial⟩, by simp⟩, ?_⟩
          refine ⟨⟨(by repeat' (first | exact trivial | refine ⟨Or.inl rfl, ?_⟩ | refine ⟨Or.inr ⟨rfl, Nat.le_of_ble_eq_true rfl, _, rfl, rfl, rfl⟩, ?_⟩)), by simp⟩, ?_⟩
          refine endR_weak (wk_seal (j := 3) (v := .slice x1 seq.length y1) (m := seq.length) (enc := encI) (xs := seq) (.inl rfl) (fun _ => rfl) rfl rfl) ?_
          refine endR_weak (wk_seal (j := 2) (v := .slice x2 q.length y2) (m := q.length) (enc := wtL) (xs := q) (.inl rfl) wtL_len rfl rfl) ?_
          refine endR_weak (wk_seal (j := 4) (v := .slice x3 hs.length y3) (m := hs.length) (enc := hdL) (xs := hs) (.inl rfl) hdL_len rfl rfl) ?_
          exact endR_ok (tokF ⟨age, seq, q, hs, ⟨cv, cf, cn⟩⟩ ⟨x1, y1, x2, y2, x3, y3⟩) rfl rfl ⟨rfl, rfl⟩ rfl (fun _ => ⟨⟨x1, y1, x2, y2, x3, y3⟩, rfl, rfl⟩) (by simp [tokF])
      · refine ⟨⟨⟨.inr ⟨rfl, Nat.le_of_ble_eq_true rfl, _, rfl, rfl, rfl⟩, trivial⟩, by simp⟩, ?_⟩
        refine ⟨⟨⟨.inr ⟨rfl, Nat.le_of_ble_eq_true rfl, _, rfl, rfl, rfl⟩, trivial⟩, by simp⟩, ?_⟩
        refine ojs_litOwn 5 1 [] rfl rfl rfl (by decide) ?_
        intro g1
        refine ojs_append 4 (m' := seq.length) (news := seq.flatMap encI) rfl rfl rfl rfl rfl rfl rfl rfl rfl (by decide) rfl rfl rfl (srcF (enc := encI) (ys := seq) rfl (by simp) (fun _ => rfl)) (flat_lenR (enc := encI) (k := 1) (fun _ => rfl) seq) encI_oneC (by omega) (by simp only [maxLen]; omega) ?_
        intro x1 y1
        rw [List.nil_append, show 0 + seq.length = seq.length from Nat.zero_add _]
        refine ⟨⟨⟨.inr ⟨rfl, Nat.le_of_ble_eq_true rfl, _, rfl, rfl, rfl⟩, trivial⟩, by simp⟩, ?_⟩
        refine ojs_litOwn 9 5 [] rfl rfl rfl (by decide) ?_
        intro g2
        refine ojs_append 2 (m' := q.length) (news := q.flatMap wtL) rfl rfl rfl rfl rfl rfl rfl rfl rfl (by decide) rfl rfl rfl (srcF (enc := wtL) (ys := q) rfl (by simp) wtL_len) (flat_lenR wtL_len q) wtL_one (by omega) (by simp only [maxLen]; omega) ?_
        intro x2 y2
        rw [List.nil_append, show 0 + q.length = q.length from Nat.zero_add _]
        refine ⟨⟨⟨.inr ⟨rfl, Nat.le_of_ble_eq_true rfl, _, rfl, rfl, rfl⟩, trivial⟩, by simp⟩, ?_⟩
        refine ojs_litOwn 13 3 [] rfl rfl rfl (by decide) ?_
        intro g3
        refine ojs_append 3 (m' := hs.length) (news := hs.flatMap hdL) rfl rfl rfl rfl rfl rfl rfl rfl rfl (by decide) rfl rfl rfl (srcF (enc := hdL) (ys := hs) rfl (by simp) hdL_len) (flat_lenR hdL_len hs) hdL_one (by omega) (by simp only [maxLen]; omega) ?_
        intro x3 y3
        rw [List.nil_append, show 0 + hs.length = hs.length from Nat.zero_add _]
        refine ⟨⟨⟨.inr ⟨rfl, Nat.le_of_ble_eq_true rfl, _, rfl, rfl, rfl⟩, trivial⟩, by simp⟩, ?_⟩
        refine ⟨⟨⟨.inr ⟨rfl, Nat.le_of_ble_eq_true rfl, _, rfl, rfl, rfl⟩, trivial⟩, by simp⟩, ?_⟩
        refine ⟨⟨(by repeat' (first | exact trivial | refine ⟨Or.inl rfl, ?_⟩ | refine ⟨Or.inr ⟨rfl, Nat.le_of_ble_eq_true rfl, _, rfl, rfl, rfl⟩, ?_⟩)), by simp⟩, ?_⟩
        refine endR_weak (wk_seal (j := 4) (v := .slice x1 seq.length y1) (m := seq.length) (enc := encI) (xs := seq) (.inl rfl) (fun _ => rfl) rfl rfl) ?_
        refine endR_weak (wk_seal (j := 2) (v := .slice x2 q.length y2) (m := q.length) (enc := wtL) (xs := q) (.inl rfl) wtL_len rfl rfl) ?_
        refine endR_weak (wk_seal (j := 3) (v := .slice x3 hs.length y3) (m := hs.length) (enc := hdL) (xs := hs) (.inl rfl) hdL_len rfl rfl) ?_
        exact endR_ok (tokF ⟨age, seq, q, hs, ⟨cv, cf, cn⟩⟩ ⟨x1, y1, x2, y2, x3, y3⟩) rfl rfl ⟨rfl, rfl⟩ rfl (fun _ => ⟨⟨x1, y1, x2, y2, x3, y3⟩, rfl, rfl⟩) (by simp [tokF])
    · refine ⟨⟨⟨.inr ⟨rfl, Nat.le_of_ble_eq_true rfl, _, rfl, rfl, rfl⟩, trivial⟩, by simp⟩, ?_⟩
      refine ⟨?_, ?_⟩
      · refine ⟨⟨⟨.inr ⟨rfl, Nat.le_of_ble_eq_true rfl, _, rfl, rfl, rfl⟩, trivial⟩, by simp⟩, ?_⟩
        refine ⟨?_, ?_⟩
        · refine ojs_litOwn 5 1 [] rfl rfl rfl (by decide) ?_
          intro g1
          refine ojs_append 3 (m' := seq.length) (news := seq.flatMap encI) rfl rfl rfl rfl rfl rfl rfl rfl rfl (by decide) rfl rfl rfl (srcF (enc := encI) (ys := seq) rfl (by simp) (fun _ => rfl)) (flat_lenR (enc := encI) (k := 1) (fun _ => rfl) seq) encI_oneC (by omega) (by simp only [maxLen]; omega) ?_
          intro x1 y1
          rw [List.nil_append, show 0 + seq.length = seq.length from Nat.zero_add _]
          refine ⟨⟨⟨.inr ⟨rfl, Nat.le_of_ble_eq_true rfl, _, rfl, rfl, rfl⟩, trivial⟩, by simp⟩, ?_⟩
          refine ⟨⟨⟨.inr ⟨rfl, Nat.le_of_ble_eq_true rfl, _, rfl, rfl, rfl⟩, trivial⟩, by simp⟩, ?_⟩
          refine ojs_litOwn 9 5 [] rfl rfl rfl (by decide) ?_
          intro g2
          refine ojs_append 4 (m' := q.length) (news := q.flatMap wtL) rfl rfl rfl rfl rfl rfl rfl rfl rfl (by decide) rfl rfl rfl (srcF (enc := wtL) (ys := q) rfl (by simp) wtL_len) (flat_lenR wtL_len q) wtL_one (by omega) (by simp only [maxLen]; omega) ?_
          intro x2 y2
          rw [List.nil_append, show 0 + q.length = q.length from Nat.zero_add _]
          refine ⟨⟨⟨.inr ⟨rfl, Nat.le_of_ble_eq_true rfl, _, rfl, rfl, rfl⟩, trivial⟩, by simp⟩, ?_⟩
          refine ojs_litOwn 13 3 [] rfl rfl rfl (by decide) ?_
          intro g3
          refine ojs_append 2 (m' := hs.length) (news := hs.flatMap hdL) rfl rfl rfl rfl rfl rfl rfl rfl rfl (by decide) rfl rfl rfl (srcF (enc := hdL) (ys := hs) rfl (by simp) hdL_len) (flat_lenR hdL_len hs) hdL_one (by omega) (by simp only [maxLen]; omega) ?_
          intro x3 y3
          rw [List.nil_append, show 0 + hs.length = hs.length from Nat.zero_add _]
          refine ⟨⟨⟨.inr ⟨rfl, Nat.le_of_ble_eq_true rfl, _, rfl, rfl, rfl⟩, trivial⟩, by simp⟩, ?_⟩
          refine ⟨⟨⟨.inr ⟨rfl, Nat.le_of_ble_eq_true rfl, _, rfl, rfl, rfl⟩, trivial⟩, by simp⟩, ?_⟩
          refine ⟨⟨(by repeat' (first | exact trivial | refine ⟨Or.inl rfl, ?_⟩ | refine ⟨Or.inr ⟨rfl, Nat.le_of_ble_eq_true rfl, _, rfl, rfl, rfl⟩, ?_⟩)), by simp⟩, ?_⟩
          refine endR_weak (wk_seal (j := 3) (v := .slice x1 seq.length y1) (m := seq.length) (enc := encI) (xs := seq) (.inl rfl) (fun _ => rfl) rfl rfl) ?_
          refine endR_weak (wk_seal (j := 4) (v := .slice x2 q.length y2) (m := q.length) (enc := wtL) (xs := q) (.inl rfl) wtL_len rfl rfl) ?_
          refine endR_weak (wk_seal (j := 2) (v := .slice x3 hs.length y3) (m := hs.length) (enc := hdL) (xs := hs) (.inl rfl) hdL_len rfl rfl) ?_
          exact endR_ok (tokF ⟨age, seq, q, hs, ⟨cv, cf, cn⟩⟩ ⟨x1, y1, x2, y2, x3, y3⟩) rfl rfl ⟨rfl, rfl⟩ rfl (fun _ => ⟨⟨x1, y1, x2, y2, x3, y3⟩, rfl, rfl⟩) (by simp [tokF])
        · refine ⟨⟨⟨.inr ⟨rfl, Nat.le_of_ble_eq_true rfl, _, rfl, rfl, rfl⟩, trivial⟩, by simp⟩, ?_⟩
          refine ojs_litOwn 5 1 [] rfl rfl rfl (by decide) ?_
          intro g1
          refine ojs_append 3 (m' := seq.length) (news := seq.flatMap encI) rfl rfl rfl rfl rfl rfl rfl rfl rfl (by decide) rfl rfl rfl (srcF (enc := encI) (ys := seq) rfl (by simp) (fun _ => rfl)) (flat_lenR (enc := encI) (k := 1) (fun _ => rfl) seq) encI_oneC (by omega) (by simp only [maxLen]; omega) ?_
          intro x1 y1
          rw [List.nil_append, show 0 + seq.length = seq.length from Nat.zero_add _]
          refine ⟨⟨⟨.inr ⟨rfl, Nat.le_of_ble_eq_true rfl, _, rfl, rfl, rfl⟩, trivial⟩, by simp⟩, ?_⟩
          refine ojs_litOwn 9 5 [] rfl rfl rfl (by decide) ?_
          intro g2
          refine ojs_append 4 (m' := q.length) (news := q.flatMap wtL) rfl rfl rfl rfl rfl rfl rfl rfl rfl (by decide) rfl rfl rfl (srcF (enc := wtL) (ys := q) rfl (by simp) wtL_len) (flat_lenR wtL_len q) wtL_one (by omega) (by simp only [maxLen]; omega) ?_
          intro x2 y2
          rw [List.nil_append, show 0 + q.length = q.length from Nat.zero_add _]
          refine ⟨⟨⟨.inr ⟨rfl, Nat.le_of_ble_eq_true rfl, _, rfl, rfl, rfl⟩, trivial⟩, by simp⟩, ?_⟩
          refine ojs_litOwn 13 3 [] rfl rfl rfl (by decide) ?_
          intro g3
          refine ojs_append 2 (m' := hs.length) (news := hs.flatMap hdL) rfl rfl rfl rfl rfl rfl rfl rfl rfl (by decide) rfl rfl rfl (srcF (enc := hdL) (ys := hs) rfl (by simp) hdL_len) (flat_lenR hdL_len hs) hdL_one (by omega) (by simp only [maxLen]; omega) ?_
          intro x3 y3
          rw [List.nil_append, show 0 + hs.length = hs.length from Nat.zero_add _]
          refine ⟨⟨⟨.inr ⟨rfl, Nat.le_of_ble_eq_true rfl, _, rfl, rfl, rfl⟩, trivial⟩, by simp⟩, ?_⟩
          refine ⟨⟨⟨.inr ⟨rfl, Nat.le_of_ble_eq_true rfl, _, rfl, rfl, rfl⟩, trivial⟩, by simp⟩, ?_⟩
          refine ⟨⟨(by repeat' (first | exact trivial | refine ⟨Or.inl rfl, ?_⟩ | refine ⟨Or.inr ⟨rfl, Nat.le_of_ble_eq_true rfl, _, rfl, rfl, rfl⟩, ?_⟩)), by simp⟩, ?_⟩
          refine endR_weak (wk_seal (j := 3) (v := .slice x1 seq.length y1) (m := seq.length) (enc := encI) (xs := seq) (.inl rfl) (fun _ => rfl) rfl rfl) ?_
          refine endR_weak (wk_seal (j := 4) (v := .slice x2 q.length y2) (m := q.length) (enc := wtL) (xs := q) (.inl rfl) wtL_len rfl rfl) ?_
          refine endR_weak (wk_seal (j := 2) (v := .slice x3 hs.length y3) (m := hs.length) (enc := hdL) (xs := hs) (.inl rfl) hdL_len rfl rfl) ?_
          exact endR_ok (tokF ⟨age, seq, q, hs, ⟨cv, cf, cn⟩⟩ ⟨x1, y1, x2, y2, x3, y3⟩) rfl rfl ⟨rfl, rfl⟩ rfl (fun _ => ⟨⟨x1, y1, x2, y2, x3, y3⟩, rfl, rfl⟩) (by simp [tokF])
      · refine ⟨⟨⟨.inr ⟨rfl, Nat.le_of_ble_eq_true rfl, _, rfl, rfl, rfl⟩, trivial⟩, by simp⟩, ?_⟩
        refine ⟨⟨⟨.inr ⟨rfl, Nat.le_of_ble_eq_true rfl, _, rfl, rfl, rfl⟩, trivial⟩, by simp⟩, ?_⟩
        refine ojs_litOwn 5 1 [] rfl rfl rfl (by decide) ?_
        intro g1
        refine ojs_append 4 (m' := seq.length) (news := seq.flatMap encI) rfl rfl rfl rfl rfl rfl rfl rfl rfl (by decide) rfl rfl rfl (srcF (enc := encI) (ys := seq) rfl (by simp) (fun _ => rfl)) (flat_lenR (enc := encI) (k := 1) (fun _ => rfl) seq) encI_oneC (by omega) (by simp only [maxLen]; omega) ?_
        intro x1 y1
        rw [List.nil_append, show 0 + seq.length = seq.length from Nat.zero_add _]
        refine ⟨⟨⟨.inr ⟨rfl, Nat.le_of_ble_eq_true rfl, _, rfl, rfl, rfl⟩, trivial⟩, by simp⟩, ?_⟩
        refine ojs_litOwn 9 5 [] rfl rfl rfl (by decide) ?_
        intro g2
        refine ojs_append 3 (m' := q.length) (news := q.flatMap wtL) rfl rfl rfl rfl rfl rfl rfl rfl rfl (by decide) rfl rfl rfl (srcF (enc := wtL) (ys := q) rfl (by simp) wtL_len) (flat_lenR wtL_len q) wtL_one (by omega) (by simp only [maxLen]; omega) ?_
        intro x2 y2
        rw [List.nil_append, show 0 + q.length = q.length from Nat.zero_add _]
        refine ⟨⟨⟨.inr ⟨rfl, Nat.le_of_ble_eq_true rfl, _, rfl, rfl, rfl⟩, trivial⟩, by simp⟩, ?_⟩
        refine ojs_litOwn 13 3 [] rfl rfl rfl (by decide) ?_
        intro g3
        refine ojs_append 2 (m' := hs.length) (news := hs.flatMap hdL) rfl rfl rfl rfl rfl rfl rfl rfl rfl (by decide) rfl rfl rfl (srcF (enc := hdL) (ys := hs) rfl (by simp) hdL_len) (flat_lenR hdL_len hs) hdL_one (by omega) (by simp only [maxLen]; omega) ?_
        intro x3 y3
        rw [List.nil_append, show 0 + hs.length = hs.length from Nat.zero_add _]
        refine ⟨⟨⟨.inr ⟨rfl, Nat.le_of_ble_eq_true rfl, _, rfl, rfl, rfl⟩, trivial⟩, by simp⟩, ?_⟩
        refine ⟨⟨⟨.inr ⟨rfl, Nat.le_of_ble_eq_true rfl, _, rfl, rfl, rfl⟩, trivial⟩, by simp⟩, ?_⟩
        refine ⟨⟨(by repeat' (first | exact trivial | refine ⟨Or.inl rfl, ?_⟩ | refine ⟨Or.inr ⟨rfl, Nat.le_of_ble_eq_true rfl, _, rfl, rfl, rfl⟩, ?_⟩)), by simp⟩, ?_⟩
        refine endR_weak (wk_seal (j := 4) (v := .slice x1 seq.length y1) (m := seq.length) (enc := encI) (xs := seq) (.inl rfl) (fun _ => rfl) rfl rfl) ?_
        refine endR_weak (wk_seal (j := 3) (v := .slice x2 q.length y2) (m := q.length) (enc := wtL) (xs := q) (.inl rfl) wtL_len rfl rfl) ?_
        refine endR_weak (wk_seal (j := 2) (v := .slice x3 hs.length y3) (m := hs.length) (enc := hdL) (xs := hs) (.inl rfl) hdL_len rfl rfl) ?_
        exact endR_ok (tokF ⟨age, seq, q, hs, ⟨cv, cf, cn⟩⟩ ⟨x1, y1, x2, y2, x3, y3⟩) rfl rfl ⟨rfl, rfl⟩ rfl (fun _ => ⟨⟨x1, y1, x2, y2, x3, y3⟩, rfl, rfl⟩) (by simp [tokF])
end Go.Proofs.YtmhnlkakbadkgaaGreat
