/- Part 43 of the proof of LockBacks: contracts of functions that the law reaches, or the rules by which they are walked. No condition. -/
import Derived.Test.YtmhnlkakbadkgaaGreatPkbo
import Derived.Test.YtmhnlkakbadkgaaGreatPkbp
namespace Go.Proofs.YtmhnlkakbadkgaaGreat
open Go.RowKit Go.Shelf
set_option maxRecDepth 100000
set_option maxHeartbeats 16000000 in
theorem refCopy22_c (x : Lck) (p : LckS) (hx : x.small) : Cm Tryz.prog 6 [.agg (lckV x p).toArray] [] (lckF x p) (fun e _ F1 => ∃ p', e = .returned (.agg (lckV x p').toArray) ∧ F1 = lckF x p') := by
  obtain ⟨hx0, hx4, hx5, hx6⟩ := id hx
  have hC := refCopy15_c x.tok p.tok hx0
  unfold lckF
  unfold tokF at hC
  refine cm_of (tab := tb) (ok := tbOk) [.g [.v (.bool x.tree), .v (.bool x.has), .v (.int .i64 x.tok.age), .v (.slice p.tok.a1 x.tok.seq.length p.tok.c1), .v (.slice p.tok.a2 x.tok.q.length p.tok.c2), .v (.slice p.tok.a3 x.tok.hs.length p.tok.c3), .v (.int .i64 x.tok.c.value), .v (.int .i64 x.tok.c.floor), .v (.int .u64 x.tok.c.version), .v (.int .i64 x.last), .v (.int .i64 x.own.node), .v (.int .i64 x.own.hop), .v (.slice p.a4 x.known.length p.c4), .v (.slice p.a5 x.slots.length p.c5), .v (.slice p.a6 x.tries.length p.c6)]] Tryz.func6 Tryz.ntmps6 rfl rfl (fun _ _ => rfl) ?_
  intro w0 A0
  refine ojs_call [] [] rfl rfl rfl rfl rfl rfl rfl (by simp) (fun _ => hC) (by simp) (.inl rfl) ?_
  rintro e cs F1 _ ⟨t, rfl, rfl⟩
  refine cjs_weak (σ := ⟨[(1, .o (.p 0 0)), (2, .o (.p 1 0))], [(1, .c ((lckV lck0 lckS0).map SV.v) 40), (0, .c [.v (.bool x.tree), .v (.bool x.has), .v (.int .i64 x.tok.age), .v (.slice t.a1 x.tok.seq.length t.c1), .v (.slice t.a2 x.tok.q.length t.c2), .v (.slice t.a3 x.tok.hs.length t.c3), .v (.int .i64 x.tok.c.value), .v (.int .i64 x.tok.c.floor), .v (.int .u64 x.tok.c.version), .v (.int .i64 x.last), .v (.int .i64 x.own.node), .v (.int .i64 x.own.hop), .v (.slice p.a4 x.known.length p.c4), .v (.slice p.a5 x.slots.length p.c5), .v (.slice p.a6 x.tries.length p.c6)] 40)], 2, [slF encI 1 (.slice t.a1 x.tok.seq.length t.c1) x.tok.seq, slF wtL 5 (.slice t.a2 x.tok.q.length t.c2) x.tok.q, slF hdL 3 (.slice t.a3 x.tok.hs.length t.c3) x.tok.hs, slF staL 4 (.slice p.a4 x.known.length p.c4) x.known, slF sltL 8 (.slice p.a5 x.slots.length p.c5) x.slots, slF tryL 3 (.slice p.a6 x.tries.length p.c6) x.tries], fun _ => []⟩) (wk_patch (by repeat' (first | exact trivial | exact Or.inl rfl | refine Or.inr ⟨?_, ?_⟩ | rfl | refine ⟨?_, ?_⟩ | exact lt_all_v)) (by repeat' (first | exact trivial | exact Or.inl rfl | refine Or.inr ⟨?_, ?_⟩ | rfl | refine ⟨?_, ?_⟩ | exact lt_all_v)) (by simp) (by simp) D_nil) ?_
  refine cjs_drawn [0, 3, 4, 7, 8, 11, 13, 15, 17] (.op 1 <| .op 2 <| .op 5 <| .op 6 <| .op 9 <| .op 10 <| .alt (.op 0 <| .alt (.op 3 <| .op 12 <| .alt (.op 4 <| .alt (.op 7 <| .op 8 <| .op 11 <| .op 13 <| .op 14 <| .op 15 <| .op 16 <| .op 17 .z) (.op 8 <| .op 7 <| .op 11 <| .op 13 <| .op 14 <| .op 15 <| .op 16 <| .op 17 .z)) (.op 8 <| .op 4 <| .op 7 <| .op 11 <| .op 13 <| .op 14 <| .op 15 <| .op 16 <| .op 17 .z)) (.alt (.op 4 <| .alt (.op 3 <| .op 12 <| .alt (.op 7 <| .op 8 <| .op 11 <| .op 13 <| .op 14 <| .op 15 <| .op 16 <| .op 17 .z) (.op 8 <| .op 7 <| .op 11 <| .op 13 <| .op 14 <| .op 15 <| .op 16 <| .op 17 .z)) (.op 8 <| .op 3 <| .op 12 <| .op 7 <| .op 11 <| .op 13 <| .op 14 <| .op 15 <| .op 16 <| .op 17 .z)) (.op 8 <| .alt (.op 3 <| .op 12 <| .op 4 <| .op 7 <| .op 11 <| .op 13 <| .op 14 <| .op 15 <| .op 16 <| .op 17 .z) (.op 4 <| .op 3 <| .op 12 <| .op 7 <| .op 11 <| .op 13 <| .op 14 <| .op 15 <| .op 16 <| .op 17 .z)))) (.alt (.op 4 <| .alt (.op 0 <| .alt (.op 3 <| .op 12 <| .alt (.op 7 <| .op 8 <| .op 11 <| .op 13 <| .op 14 <| .op 15 <| .op 16 <| .op 17 .z) (.op 8 <| .op 7 <| .op 11 <| .op 13 <| .op 14 <| .op 15 <| .op 16 <| .op 17 .z)) (.op 8 <| .op 3 <| .op 12 <| .op 7 <| .op 11 <| .op 13 <| .op 14 <| .op 15 <| .op 16 <| .op 17 .z)) (.op 8 <| .op 0 <| .op 3 <| .op 12 <| .op 7 <| .op 11 <| .op 13 <| .op 14 <| .op 15 <| .op 16 <| .op 17 .z)) (.op 8 <| .alt (.op 0 <| .alt (.op 3 <| .op 12 <| .op 4 <| .op 7 <| .op 11 <| .op 13 <| .op 14 <| .op 15 <| .op 16 <| .op 17 .z) (.op 4 <| .op 3 <| .op 12 <| .op 7 <| .op 11 <| .op 13 <| .op 14 <| .op 15 <| .op 16 <| .op 17 .z)) (.op 4 <| .op 0 <| .op 3 <| .op 12 <| .op 7 <| .op 11 <| .op 13 <| .op 14 <| .op 15 <| .op 16 <| .op 17 .z)))) [0] [(13, 0), (15, 0), (17, 0)] [] [] (by kernel_rfl) (by kernel_rfl) rfl (by simp) (by simp) ?_
  intro N
  refine ⟨?_, ?_⟩
  · refine ⟨⟨⟨.inr ⟨rfl, Nat.le_of_ble_eq_true rfl, _, rfl, rfl, rfl⟩, trivial⟩, by simp⟩, ?_⟩
    refine ⟨?_, ?_⟩
    · refine ojs_litOwn 7 4 [] rfl rfl rfl (by decide) ?_
      intro g1
      refine ojs_append 2 (m' := x.known.length) (news := x.known.flatMap staL) rfl rfl rfl rfl rfl rfl rfl rfl rfl (by decide) rfl rfl rfl (srcF (enc := staL) (ys := x.known) rfl (by simp) staL_len) (flat_lenR staL_len x.known) staL_one (by omega) (by simp only [maxLen]; omega) ?_
      intro x4 y4
      rw [List.nil_append, show 0 + x.known.length = x.known.length from Nat.zero_add _]
      refine ⟨⟨⟨.inr ⟨rfl, Nat.le_of_ble_eq_true rfl, _, rfl, rfl, rfl⟩, trivial⟩, by simp⟩, ?_⟩
      refine ⟨?_, ?_⟩
      · refine ⟨⟨⟨.inr ⟨rfl, Nat.le_of_ble_eq_true rfl, _, rfl, rfl, rfl⟩, trivial⟩, by simp⟩, ?_⟩
        refine ⟨?_, ?_⟩
        · refine ojs_litOwn 11 8 [] rfl rfl rfl (by decide) ?_
          intro g2
          refine ojs_append 3 (m' := x.slots.length) (news := x.slots.flatMap sltL) rfl rfl rfl rfl rfl rfl rfl rfl rfl (by decide) rfl rfl rfl (srcF (enc := sltL) (ys := x.slots) rfl (by simp) sltL_len) (flat_lenR sltL_len x.slots) sltL_one (by omega) (by simp only [maxLen]; omega) ?_
          intro x5 y5
          rw [List.nil_append, show 0 + x.slots.length = x.slots.length from Nat.zero_add _]
          refine ⟨⟨⟨.inr ⟨rfl, Nat.le_of_ble_eq_true rfl, _, rfl, rfl, rfl⟩, trivial⟩, by simp⟩, ?_⟩
          refine ⟨⟨⟨.inr ⟨rfl, Nat.le_of_ble_eq_true rfl, _, rfl, rfl, rfl⟩, trivial⟩, by simp⟩, ?_⟩
          refine ojs_litOwn 15 3 [] rfl rfl rfl (by decide) ?_
          intro g3
          refine ojs_append 4 (m' := x.tries.length) (news := x.tries.flatMap tryL) rfl rfl rfl rfl rfl rfl rfl rfl rfl (by decide) rfl rfl rfl (srcF (enc := tryL) (ys := x.tries) rfl (by simp) tryL_len) (flat_lenR tryL_len x.tries) tryL_one (by omega) (by simp only [maxLen]; omega) ?_
          intro x6 y6
          rw [List.nil_append, show 0 + x.tries.length = x.tries.length from Nat.zero_add _]
          refine ⟨⟨⟨.inr ⟨rfl, Nat.le_of_ble_eq_true rfl, _, rfl, rfl, rfl⟩, trivial⟩, by simp⟩, ?_⟩
          refine ⟨⟨(by repeat' (first | exact trivial | refine ⟨Or.inl rfl, ?_⟩ | refine ⟨Or.inr ⟨rfl, Nat.le_of_ble_eq_true rfl, _, rfl, rfl, rfl⟩, ?_⟩)), by simp⟩, ?_⟩
          refine ⟨⟨(by repeat' (first | exact trivial | refine ⟨Or.inl rfl, ?_⟩ | refine ⟨Or.inr ⟨rfl, Nat.le_of_ble_eq_true rfl, _, rfl, rfl, rfl⟩, ?_⟩)), by simp⟩, ?_⟩
          refine ⟨⟨(by repeat' (first | exact trivial | refine ⟨Or.inl rfl, ?_⟩ | refine ⟨Or.inr ⟨rfl, Nat.le_of_ble_eq_true rfl, _, rfl, rfl, rfl⟩, ?_⟩)), by simp⟩, ?_⟩
          refine endR_weak (wk_seal (j := 2) (v := .slice x4 x.known.length y4) (m := x.known.length) (enc := staL) (xs := x.known) (.inl rfl) staL_len rfl rfl) ?_
          refine endR_weak (wk_seal (j := 3) (v := .slice x5 x.slots.length y5) (m := x.slots.length) (enc := sltL) (xs := x.slots) (.inl rfl) sltL_len rfl rfl) ?_
          refine endR_weak (wk_seal (j := 4) (v := .slice x6 x.tries.length y6) (m := x.tries.length) (enc := tryL) (xs := x.tries) (.inl rfl) tryL_len rfl rfl) ?_
          exact endR_ok (lckF x ⟨t, x4, y4, x5, y5, x6, y6⟩) rfl rfl ⟨rfl, rfl⟩ rfl (fun _ => ⟨⟨t, x4, y4, x5, y5, x6, y6⟩, rfl, rfl⟩) (by simp [lckF])
        · refine ⟨⟨⟨.inr ⟨rfl, Nat.le_of_ble_eq_true rfl, _, rfl, rfl, rfl⟩, trivial⟩, by simp⟩, ?_⟩
          refine ojs_litOwn 11 8 [] rfl rfl rfl (by decide) ?_
          intro g2
          refine ojs_append 3 (m' := x.slots.length) (news := x.slots.flatMap sltL) rfl rfl rfl rfl rfl rfl rfl rfl rfl (by decide) rfl rfl rfl (srcF (enc := sltL) (ys := x.slots) rfl (by simp) sltL_len) (flat_lenR sltL_len x.slots) sltL_one (by omega) (by simp only [maxLen]; omega) ?_
          intro x5 y5
          rw [List.nil_append, show 0 + x.slots.length = x.slots.length from Nat.zero_add _]
          refine ⟨⟨⟨.inr ⟨rfl, Nat.le_of_ble_eq_true rfl, _, rfl, rfl, rfl⟩, trivial⟩, by simp⟩, ?_⟩
          refine ojs_litOwn 15 3 [] rfl rfl rfl (by decide) ?_
          intro g3
          refine ojs_append 4 (m' := x.tries.length) (news := x.tries.flatMap tryL) rfl rfl rfl rfl rfl rfl rfl rfl rfl (by decide) rfl rfl rfl (srcF (enc := tryL) (ys := x.tries) rfl (by simp) tryL_len) (flat_lenR tryL_len x.tries) tryL_one (by omega) (by simp only [maxLen]; omega) ?_
          intro x6 y6
          rw [List.nil_append, show 0 + x.tries.length = x.tries.length from Nat.zero_add _]
          refine ⟨⟨⟨.inr ⟨rfl, Nat.le_of_ble_eq_true rfl, _, rfl, rfl, rfl⟩, trivial⟩, by simp⟩, ?_⟩
          refine ⟨⟨(by repeat' (first | exact trivial | refine ⟨Or.inl rfl, ?_⟩ | refine ⟨Or.inr ⟨rfl, Nat.le_of_ble_eq_true rfl, _, rfl, rfl, rfl⟩, ?_⟩)), by simp⟩, ?_⟩
          refine ⟨⟨(by repeat' (first | exact trivial | refine ⟨Or.inl rfl, ?_⟩ | refine ⟨Or.inr ⟨rfl, Nat.le_of_ble_eq_true rfl, _, rfl, rfl, rfl⟩, ?_⟩)), by simp⟩, ?_⟩
          refine ⟨⟨(by repeat' (first | exact trivial | refine ⟨Or.inl rfl, ?_⟩ | refine ⟨Or.inr ⟨rfl, Nat.le_of_ble_eq_true rfl, _, rfl, rfl, rfl⟩, ?_⟩)), by simp⟩, ?_⟩
          refine endR_weak (wk_seal (j := 2) (v := .slice x4 x.known.length y4) (m := x.known.length) (enc := staL) (xs := x.known) (.inl rfl) staL_len rfl rfl) ?_
          refine endR_weak (wk_seal (j := 3) (v := .slice x5 x.slots.length y5) (m := x.slots.length) (enc := sltL) (xs := x.slots) (.inl rfl) sltL_len rfl rfl) ?_
          refine endR_weak (wk_seal (j := 4) (v := .slice x6 x.tries.length y6) (m := x.tries.length) (enc := tryL) (xs := x.tries) (.inl rfl) tryL_len rfl rfl) ?_
          exact endR_ok (lckF x ⟨t, x4, y4, x5, y5, x6, y6⟩) rfl rfl ⟨rfl, rfl⟩ rfl (fun _ => ⟨⟨t, x4, y4, x5, y5, x6, y6⟩, rfl, rfl⟩) (by simp [lckF])
      · refine ⟨⟨⟨.inr ⟨rfl, Nat.le_of_ble_eq_true rfl, _, rfl, rfl, rfl⟩, trivial⟩, by simp⟩, ?_⟩
        refine ⟨⟨⟨.inr ⟨rfl, Nat.le_of_ble_eq_true rfl, _, rfl, rfl, rfl⟩, trivial⟩, by simp⟩, ?_⟩
        refine ojs_litOwn 11 8 [] rfl rfl rfl (by decide) ?_
        intro g2
        refine ojs_append 4 (m' := x.slots.length) (news := x.slots.flatMap sltL) rfl rfl rfl rfl rfl rfl rfl rfl rfl (by decide) rfl rfl rfl (srcF (enc := sltL) (ys := x.slots) rfl (by simp) sltL_len) (flat_lenR sltL_len x.slots) sltL_one (by omega) (by simp only [maxLen]; omega) ?_
        intro x5 y5
        rw [List.nil_append, show 0 + x.slots.length = x.slots.length from Nat.zero_add _]
        refine ⟨⟨⟨.inr ⟨rfl, Nat.le_of_ble_eq_true rfl, _, rfl, rfl, rfl⟩, trivial⟩, by simp⟩, ?_⟩
        refine ojs_litOwn 15 3 [] rfl rfl rfl (by decide) ?_
        intro g3
        refine ojs_append 3 (m' := x.tries.length) (news := x.tries.flatMap tryL) rfl rfl rfl rfl rfl rfl rfl rfl rfl (by decide) rfl rfl rfl (srcF (enc := tryL) (ys := x.tries) rfl (by simp) tryL_len) (flat_lenR tryL_len x.tries) tryL_one (by omega) (by simp only [maxLen]; omega) ?_
        intro x6 y6
        rw [List.nil_append, show 0 + x.tries.length = x.tries.length from Nat.zero_add _]
        refine ⟨⟨⟨.inr ⟨rfl, Nat.le_of_ble_eq_true rfl, _, rfl, rfl, rfl⟩, trivial⟩, by simp⟩, ?_⟩
        refine ⟨⟨(by repeat' (first | exact trivial | refine ⟨Or.inl rfl, ?_⟩ | refine ⟨Or.inr ⟨rfl, Nat.le_of_ble_eq_true rfl, _, rfl, rfl, rfl⟩, ?_⟩)), by simp⟩, ?_⟩
        refine ⟨⟨(by repeat' (first | exact trivial | refine ⟨Or.inl rfl, ?_⟩ | refine ⟨Or.inr ⟨rfl, Nat.le_of_ble_eq_true rfl, _, rfl, rfl, rfl⟩, ?_⟩)), by simp⟩, ?_⟩
        refine ⟨⟨(by repeat' (first | exact trivial | refine ⟨Or.inl rfl, ?_⟩ | refine ⟨Or.inr ⟨rfl, Nat.le_of_ble_eq_true rfl, _, rfl, rfl, rfl⟩, ?_⟩)), by simp⟩, ?_⟩
        refine endR_weak (wk_seal (j := 2) (v := .slice x4 x.known.length y4) (m := x.known.length) (enc := staL) (xs := x.known) (.inl rfl) staL_len rfl rfl) ?_
        refine endR_weak (wk_seal (j := 4) (v := .slice x5 x.slots.length y5) (m := x.slots.length) (enc := sltL) (xs := x.slots) (.inl rfl) sltL_len rfl rfl) ?_
        refine endR_weak (wk_seal (j := 3) (v := .slice x6 x.tries.length y6) (m := x.tries.length) (enc := tryL) (xs := x.tries) (.inl rfl) tryL_len rfl rfl) ?_
        exact endR_ok (lckF x ⟨t, x4, y4, x5, y5, x6, y6⟩) rfl rfl ⟨rfl, rfl⟩ rfl (fun _ => ⟨⟨t, x4, y4, x5, y5, x6, y6⟩, rfl, rfl⟩) (by simp [lckF])
    · refine ⟨?_, ?_⟩
      · refine ⟨⟨⟨.inr ⟨rfl, Nat.le_of_ble_eq_true rfl, _, rfl, rfl, rfl⟩, trivial⟩, by simp⟩, ?_⟩
        refine ⟨?_, ?_⟩
        · refine ojs_litOwn 7 4 [] rfl rfl rfl (by decide) ?_
          intro g1
          refine ojs_append 2 (m' := x.known.length) (news := x.known.flatMap staL) rfl rfl rfl rfl rfl rfl rfl rfl rfl (by decide) rfl rfl rfl (srcF (enc := staL) (ys := x.known) rfl (by simp) staL_len) (flat_lenR staL_len x.known) staL_one (by omega) (by simp only [maxLen]; omega) ?_
          intro x4 y4
          rw [List.nil_append, show 0 + x.known.length = x.known.length from Nat.zero_add _]
          refine ⟨⟨⟨.inr ⟨rfl, Nat.le_of_ble_eq_true rfl, _, rfl, rfl, rfl⟩, trivial⟩, by simp⟩, ?_⟩
          refine ⟨?_, ?_⟩
          · refine ojs_litOwn 11 8 [] rfl rfl rfl (by decide) ?_
            intro g2
            refine ojs_append 3 (m' := x.slots.length) (news := x.slots.flatMap sltL) rfl rfl rfl rfl rfl rfl rfl rfl rfl (by decide) rfl rfl rfl (srcF (enc := sltL) (ys := x.slots) rfl (by simp) sltL_len) (flat_lenR sltL_len x.slots) sltL_one (by omega) (by simp only [maxLen]; omega) ?_
            intro x5 y5
            rw [List.nil_append, show 0 + x.slots.length = x.slots.length from Nat.zero_add _]
            refine ⟨⟨⟨.inr ⟨rfl, Nat.le_of_ble_eq_true rfl, _, rfl, rfl, rfl⟩, trivial⟩, by simp⟩, ?_⟩
            refine ⟨⟨⟨.inr ⟨rfl, Nat.le_of_ble_eq_true rfl, _, rfl, rfl, rfl⟩, trivial⟩, by simp⟩, ?_⟩
            refine ojs_litOwn 15 3 [] rfl rfl rfl (by decide) ?_
            intro g3
            refine ojs_append 4 (m' := x.tries.length) (news := x.tries.flatMap tryL) rfl rfl rfl rfl rfl rfl rfl rfl rfl (by decide) rfl rfl rfl (srcF (enc := tryL) (ys := x.tries) rfl (by simp) tryL_len) (flat_lenR tryL_len x.tries) tryL_one (by omega) (by simp only [maxLen]; omega) ?_
            intro x6 y6
            rw [List.nil_append, show 0 + x.tries.length = x.tries.length from Nat.zero_add _]
            refine ⟨⟨⟨.inr ⟨rfl, Nat.le_of_ble_eq_true rfl, _, rfl, rfl, rfl⟩, trivial⟩, by simp⟩, ?_⟩
            refine ⟨⟨(by repeat' (first | exact trivial | refine ⟨Or.inl rfl, ?_⟩ | refine ⟨Or.inr ⟨rfl, Nat.le_of_ble_eq_true rfl, _, rfl, rfl, rfl⟩, ?_⟩)), by simp⟩, ?_⟩
            refine ⟨⟨(by repeat' (first | exact trivial | refine ⟨Or.inl rfl, ?_⟩ | refine ⟨Or.inr ⟨rfl, Nat.le_of_ble_eq_true rfl, _, rfl, rfl, rfl⟩, ?_⟩)), by simp⟩, ?_⟩
            refine ⟨⟨(by repeat' (first | exact trivial | refine ⟨Or.inl rfl, ?_⟩ | refine ⟨Or.inr ⟨rfl, Nat.le_of_ble_eq_true rfl, _, rfl, rfl, rfl⟩, ?_⟩)), by simp⟩, ?_⟩
            refine endR_weak (wk_seal (j := 2) (v := .slice x4 x.known.length y4) (m := x.known.length) (enc := staL) (xs := x.known) (.inl rfl) staL_len rfl rfl) ?_
            refine endR_weak (wk_seal (j := 3) (v := .slice x5 x.slots.length y5) (m := x.slots.length) (enc := sltL) (xs := x.slots) (.inl rfl) sltL_len rfl rfl) ?_
            refine endR_weak (wk_seal (j := 4) (v := .slice x6 x.tries.length y6) (m := x.tries.length) (enc := tryL) (xs := x.tries) (.inl rfl) tryL_len rfl rfl) ?_
            exact endR_ok (lckF x ⟨t, x4, y4, x5, y5, x6, y6⟩) rfl rfl ⟨rfl, rfl⟩ rfl (fun _ => ⟨⟨t, x4, y4, x5, y5, x6, y6⟩, rfl, rfl⟩) (by simp [lckF])
          · refine ⟨⟨⟨.inr ⟨rfl, Nat.le_of_ble_eq_true rfl, _, rfl, rfl, rfl⟩, trivial⟩, by simp⟩, ?_⟩
            refine ojs_litOwn 11 8 [] rfl rfl rfl (by decide) ?_
            intro g2
            refine ojs_append 3 (m' := x.slots.length) (news := x.slots.flatMap sltL) rfl rfl rfl rfl rfl rfl rfl rfl rfl (by decide) rfl rfl rfl (srcF (enc := sltL) (ys := x.slots) rfl (by simp) sltL_len) (flat_lenR sltL_len x.slots) sltL_one (by omega) (by simp only [maxLen]; omega) ?_
            intro x5 y5
            rw [List.nil_append, show 0 + x.slots.length = x.slots.length from Nat.zero_add _]
            refine ⟨⟨⟨.inr ⟨rfl, Nat.le_of_ble_eq_true rfl, _, rfl, rfl, rfl⟩, trivial⟩, by simp⟩, ?_⟩
            refine ojs_litOwn 15 3 [] rfl rfl rfl (by decide) ?_
            intro g3
            refine ojs_append 4 (m' := x.tries.length) (news := x.tries.flatMap tryL) rfl rfl rfl rfl rfl rfl rfl rfl rfl (by decide) rfl rfl rfl (srcF (enc := tryL) (ys := x.tries) rfl (by simp) tryL_len) (flat_lenR tryL_len x.tries) tryL_one (by omega) (by simp only [maxLen]; omega) ?_
            intro x6 y6
            rw [List.nil_append, show 0 + x.tries.length = x.tries.length from Nat.zero_add _]
            refine ⟨⟨⟨.inr ⟨rfl, Nat.le_of_ble_eq_true rfl, _, rfl, rfl, rfl⟩, trivial⟩, by simp⟩, ?_⟩
            refine ⟨⟨(by repeat' (first | exact trivial | refine ⟨Or.inl rfl, ?_⟩ | refine ⟨Or.inr ⟨rfl, Nat.le_of_ble_eq_true rfl, _, rfl, rfl, rfl⟩, ?_⟩)), by simp⟩, ?_⟩
            refine ⟨⟨(by repeat' (first | exact trivial | refine ⟨Or.inl rfl, ?_⟩ | refine ⟨Or.inr ⟨rfl, Nat.le_of_ble_eq_true rfl, _, rfl, rfl, rfl⟩, ?_⟩)), by simp⟩, ?_⟩
            refine ⟨⟨(by repeat' (first | exact trivial | refine ⟨Or.inl rfl, ?_⟩ | refine ⟨Or.inr ⟨rfl, Nat.le_of_ble_eq_true rfl, _, rfl, rfl, rfl⟩, ?_⟩)), by simp⟩, ?_⟩
            refine endR_weak (wk_seal (j := 2) (v := .slice x4 x.known.length y4) (m := x.known.length) (enc := staL) (xs := x.known) (.inl rfl) staL_len rfl rfl) ?_
            refine endR_weak (wk_seal (j := 3) (v := .slice x5 x.slots.length y5) (m := x.slots.length) (enc := sltL) (xs := x.slots) (.inl rfl) sltL_len rfl rfl) ?_
            refine endR_weak (wk_seal (j := 4) (v := .slice x6 x.tries.length y6) (m := x.tries.length) (enc := tryL) (xs := x.tries) (.inl rfl) tryL_len rfl rfl) ?_
            exact endR_ok (lckF x ⟨t, x4, y4, x5, y5, x6, y6⟩) rfl rfl ⟨rfl, rfl⟩ rfl (fun _ => ⟨⟨t, x4, y4, x5, y5, x6, y6⟩, rfl, rfl⟩) (by simp [lckF])
        · refine ⟨⟨⟨.inr ⟨rfl, Nat.le_of_ble_eq_true rfl, _, rfl, rfl, rfl⟩, trivial⟩, by simp⟩, ?_⟩
          refine ojs_litOwn 7 4 [] rfl rfl rfl (by decide) ?_
          intro g1
          refine ojs_append 2 (m' := x.known.length) (news := x.known.flatMap staL) rfl rfl rfl rfl rfl rfl rfl rfl rfl (by decide) rfl rfl rfl (srcF (enc := staL) (ys := x.known) rfl (by simp) staL_len) (flat_lenR staL_len x.known) staL_one (by omega) (by simp only [maxLen]; omega) ?_
          intro x4 y4
          rw [List.nil_append, show 0 + x.known.length = x.known.length from Nat.zero_add _]
          refine ⟨⟨⟨.inr ⟨rfl, Nat.le_of_ble_eq_true rfl, _, rfl, rfl, rfl⟩, trivial⟩, by simp⟩, ?_⟩
          refine ojs_litOwn 11 8 [] rfl rfl rfl (by decide) ?_
          intro g2
          refine ojs_append 3 (m' := x.slots.length) (news := x.slots.flatMap sltL) rfl rfl rfl rfl rfl rfl rfl rfl rfl (by decide) rfl rfl rfl (srcF (enc := sltL) (ys := x.slots) rfl (by simp) sltL_len) (flat_lenR sltL_len x.slots) sltL_one (by omega) (by simp only [maxLen]; omega) ?_
          intro x5 y5
          rw [List.nil_append, show 0 + x.slots.length = x.slots.length from Nat.zero_add _]
          refine ⟨⟨⟨.inr ⟨rfl, Nat.le_of_ble_eq_true rfl, _, rfl, rfl, rfl⟩, trivial⟩, by simp⟩, ?_⟩
          refine ojs_litOwn 15 3 [] rfl rfl rfl (by decide) ?_
          intro g3
          refine ojs_append 4 (m' := x.tries.length) (news := x.tries.flatMap tryL) rfl rfl rfl rfl rfl rfl rfl rfl rfl (by decide) rfl rfl rfl (srcF (enc := tryL) (ys := x.tries) rfl (by simp) tryL_len) (flat_lenR tryL_len x.tries) tryL_one (by omega) (by simp only [maxLen]; omega) ?_
          intro x6 y6
          rw [List.nil_append, show 0 + x.tries.length = x.tries.length from Nat.zero_add _]
          refine ⟨⟨⟨.inr ⟨rfl, Nat.le_of_ble_eq_true rfl, _, rfl, rfl, rfl⟩, trivial⟩, by simp⟩, ?_⟩
          refine ⟨⟨(by repeat' (first | exact trivial | refine ⟨Or.inl rfl, ?_⟩ | refine ⟨Or.inr ⟨rfl, Nat.le_of_ble_eq_true rfl, _, rfl, rfl, rfl⟩, ?_⟩)), by simp⟩, ?_⟩
          refine ⟨⟨(by repeat' (first | exact trivial | refine ⟨Or.inl rfl, ?_⟩ | refine ⟨Or.inr ⟨rfl, Nat.le_of_ble_eq_true rfl, _, rfl, rfl, rfl⟩, ?_⟩)), by simp⟩, ?_⟩
          refine ⟨⟨(by repeat' (first | exact trivial | refine ⟨Or.inl rfl, ?_⟩ | refine ⟨Or.inr ⟨rfl, Nat.le_of_ble_eq_true rfl, _, rfl, rfl, rfl⟩, ?_⟩)), by simp⟩, ?_⟩
          refine endR_weak (wk_seal (j := 2) (v := .slice x4 x.known.length y4) (m := x.known.length) (enc := staL) (xs := x.known) (.inl rfl) staL_len rfl rfl) ?_
          refine endR_weak (wk_seal (j := 3) (v := .slice x5 x.slots.length y5) (m := x.slots.length) (enc := sltL) (xs := x.slots) (.inl rfl) sltL_len rfl rfl) ?_
          refine endR_weak (wk_seal (j := 4) (v := .slice x6 x.tries.length y6) (m := x.tries.length) (enc := tryL) (xs := x.tries) (.inl rfl) tryL_len rfl rfl) ?_
          exact endR_ok (lckF x ⟨t, x4, y4, x5, y5, x6, y6⟩) rfl rfl ⟨rfl, rfl⟩ rfl (fun _ => ⟨⟨t, x4, y4, x5, y5, x6, y6⟩, rfl, rfl⟩) (by simp [lckF])
      · refine ⟨⟨⟨.inr ⟨rfl, Nat.le_of_ble_eq_true rfl, _, rfl, rfl, rfl⟩, trivial⟩, by simp⟩, ?_⟩
        refine ⟨?_, ?_⟩
        · refine ojs_litOwn 7 4 [] rfl rfl rfl (by decide) ?_
          intro g1
          refine ojs_append 2 (m' := x.known.length) (news := x.known.flatMap staL) rfl rfl rfl rfl rfl rfl rfl rfl rfl (by decide) rfl rfl rfl (srcF (enc := staL) (ys := x.known) rfl (by simp) staL_len) (flat_lenR staL_len x.known) staL_one (by omega) (by simp only [maxLen]; omega) ?_
          intro x4 y4
          rw [List.nil_append, show 0 + x.known.length = x.known.length from Nat.zero_add _]
          refine ⟨⟨⟨.inr ⟨rfl, Nat.le_of_ble_eq_true rfl, _, rfl, rfl, rfl⟩, trivial⟩, by simp⟩, ?_⟩
          refine ⟨⟨⟨.inr ⟨rfl, Nat.le_of_ble_eq_true rfl, _, rfl, rfl, rfl⟩, trivial⟩, by simp⟩, ?_⟩
          refine ojs_litOwn 11 8 [] rfl rfl rfl (by decide) ?_
          intro g2
          refine ojs_append 4 (m' := x.slots.length) (news := x.slots.flatMap sltL) rfl rfl rfl rfl rfl rfl rfl rfl rfl (by decide) rfl rfl rfl (srcF (enc := sltL) (ys := x.slots) rfl (by simp) sltL_len) (flat_lenR sltL_len x.slots) sltL_one (by omega) (by simp only [maxLen]; omega) ?_
          intro x5 y5
          rw [List.nil_append, show 0 + x.slots.length = x.slots.length from Nat.zero_add _]
          refine ⟨⟨⟨.inr ⟨rfl, Nat.le_of_ble_eq_true rfl, _, rfl, rfl, rfl⟩, trivial⟩, by simp⟩, ?_⟩
          refine ojs_litOwn 15 3 [] rfl rfl rfl (by decide) ?_
          intro g3
          refine ojs_append 3 (m' := x.tries.length) (news := x.tries.flatMap tryL) rfl rfl rfl rfl rfl rfl rfl rfl rfl (by decide) rfl rfl rfl (srcF (enc := tryL) (ys := x.tries) rfl (by simp) tryL_len) (flat_lenR tryL_len x.tries) tryL_one (by omega) (by simp only [maxLen]; omega) ?_
          intro x6 y6
          rw [List.nil_append, show 0 + x.tries.length = x.tries.length from Nat.zero_add _]
          refine ⟨⟨⟨.inr ⟨rfl, Nat.le_of_ble_eq_true rfl, _, rfl, rfl, rfl⟩, trivial⟩, by simp⟩, ?_⟩
          refine ⟨⟨(by repeat' (first | exact trivial | refine ⟨Or.inl rfl, ?_⟩ | refine ⟨Or.inr ⟨rfl, Nat.le_of_ble_eq_true rfl, _, rfl, rfl, rfl⟩, ?_⟩)), by simp⟩, ?_⟩
          refine ⟨⟨(by repeat' (first | exact trivial | refine ⟨Or.inl rfl, ?_⟩ | refine ⟨Or.inr ⟨rfl, Nat.le_of_ble_eq_true rfl, _, rfl, rfl, rfl⟩, ?_⟩)), by simp⟩, ?_⟩
          refine ⟨⟨(by repeat' (first | exact trivial | refine ⟨Or.inl rfl, ?_⟩ | refine ⟨Or.inr ⟨rfl, Nat.le_of_ble_eq_true rfl, _, rfl, rfl, rfl⟩, ?_⟩)), by simp⟩, ?_⟩
          refine endR_weak (wk_seal (j := 2) (v := .slice x4 x.known.length y4) (m := x.known.length) (enc := staL) (xs := x.known) (.inl rfl) staL_len rfl rfl) ?_
          refine endR_weak (wk_seal (j := 4) (v := .slice x5 x.slots.length y5) (m := x.slots.length) (enc := sltL) (xs := x.slots) (.inl rfl) sltL_len rfl rfl) ?_
          refine endR_weak (wk_seal (j := 3) (v := .slice x6 x.tries.length y6) (m := x.tries.length) (enc := tryL) (xs := x.tries) (.inl rfl) tryL_len rfl rfl) ?_
          exact endR_ok (lckF x ⟨t, x4, y4, x5, y5, x6, y6⟩) rfl rfl ⟨rfl, rfl⟩ rfl (fun _ => ⟨⟨t, x4, y4, x5, y5, x6, y6⟩, rfl, rfl⟩) (by simp [lckF])
        · refine ⟨⟨⟨.inr ⟨rfl, Nat.le_of_ble_eq_true rfl, _, rfl, rfl, rfl⟩, trivial⟩, by simp⟩, ?_⟩
          refine ojs_litOwn 7 4 [] rfl rfl rfl (by decide) ?_
          intro g1
          refine ojs_append 2 (m' := x.known.length) (news := x.known.flatMap staL) rfl rfl rfl rfl rfl rfl rfl rfl rfl (by decide) rfl rfl rfl (srcF (enc := staL) (ys := x.known) rfl (by simp) staL_len) (flat_lenR staL_len x.known) staL_one (by omega) (by simp only [maxLen]; omega) ?_
          intro x4 y4
          rw [List.nil_append, show 0 + x.known.length = x.known.length from Nat.zero_add _]
          refine ⟨⟨⟨.inr ⟨rfl, Nat.le_of_ble_eq_true rfl, _, rfl, rfl, rfl⟩, trivial⟩, by simp⟩, ?_⟩
          refine ojs_litOwn 11 8 [] rfl rfl rfl (by decide) ?_
          intro g2
          refine ojs_append 4 (m' := x.slots.length) (news := x.slots.flatMap sltL) rfl rfl rfl rfl rfl rfl rfl rfl rfl (by decide) rfl rfl rfl (srcF (enc := sltL) (ys := x.slots) rfl (by simp) sltL_len) (flat_lenR sltL_len x.slots) sltL_one (by omega) (by simp only [maxLen]; omega) ?_
          intro x5 y5
          rw [List.nil_append, show 0 + x.slots.length = x.slots.length from Nat.zero_add _]
          refine ⟨⟨⟨.inr ⟨rfl, Nat.le_of_ble_eq_true rfl, _, rfl, rfl, rfl⟩, trivial⟩, by simp⟩, ?_⟩
          refine ojs_litOwn 15 3 [] rfl rfl rfl (by decide) ?_
          intro g3
          refine ojs_append 3 (m' := x.tries.length) (news := x.tries.flatMap tryL) rfl rfl rfl rfl rfl rfl rfl rfl rfl (by decide) rfl rfl rfl (srcF (enc := tryL) (ys := x.tries) rfl (by simp) tryL_len) (flat_lenR tryL_len x.tries) tryL_one (by omega) (by simp only [maxLen]; omega) ?_
          intro x6 y6
          rw [List.nil_append, show 0 + x.tries.length = x.tries.length from Nat.zero_add _]
          refine ⟨⟨⟨.inr ⟨rfl, Nat.le_of_ble_eq_true rfl, _, rfl, rfl, rfl⟩, trivial⟩, by simp⟩, ?_⟩
          refine ⟨⟨(by repeat' (first | exact trivial | refine ⟨Or.inl rfl, ?_⟩ | refine ⟨Or.inr ⟨rfl, Nat.le_of_ble_eq_true rfl, _, rfl, rfl, rfl⟩, ?_⟩)), by simp⟩, ?_⟩
          refine ⟨⟨(by repeat' (first | exact trivial | refine ⟨Or.inl rfl, ?_⟩ | refine ⟨Or.inr ⟨rfl, Nat.le_of_ble_eq_true rfl, _, rfl, rfl, rfl⟩, ?_⟩)), by simp⟩, ?_⟩
          refine ⟨⟨(by repeat' (first | exact trivial | refine ⟨Or.inl rfl, ?_⟩ | refine ⟨Or.inr ⟨rfl, Nat.le_of_ble_eq_true rfl, _, rfl, rfl, rfl⟩, ?_⟩)), by simp⟩, ?_⟩
          refine endR_weak (wk_seal (j := 2) (v := .slice x4 x.known.length y4) (m := x.known.length) (enc := staL) (xs := x.known) (.inl rfl) staL_len rfl rfl) ?_
          refine endR_weak (wk_seal (j := 4) (v := .slice x5 x.slots.length y5) (m := x.slots.length) (enc := sltL) (xs := x.slots) (.inl rfl) sltL_len rfl rfl) ?_
          refine endR_weak (wk_seal (j := 3) (v := .slice x6 x.tries.length y6) (m := x.tries.length) (enc := tryL) (xs := x.tries) (.inl rfl) tryL_len rfl rfl) ?_
          exact endR_ok (lckF x ⟨t, x4, y4, x5, y5, x6, y6⟩) rfl rfl ⟨rfl, rfl⟩ rfl (fun _ => ⟨⟨t, x4, y4, x5, y5, x6, y6⟩, rfl, rfl⟩) (by simp [lckF])
  · refine ⟨?_, ?_⟩
    · refine ⟨⟨⟨.inr ⟨rfl, Nat.le_of_ble_eq_true rfl, _, rfl, rfl, rfl⟩, trivial⟩, by simp⟩, ?_⟩
      refine ⟨?_, ?_⟩
      · refine ⟨⟨⟨.inr ⟨rfl, Nat.le_of_ble_eq_true rfl, _, rfl, rfl, rfl⟩, trivial⟩, by simp⟩, ?_⟩
        refine ⟨?_, ?_⟩
        · refine ojs_litOwn 7 4 [] rfl rfl rfl (by decide) ?_
          intro g1
          refine ojs_append 3 (m' := x.known.length) (news := x.known.flatMap staL) rfl rfl rfl rfl rfl rfl rfl rfl rfl (by decide) rfl rfl rfl (srcF (enc := staL) (ys := x.known) rfl (by simp) staL_len) (flat_lenR staL_len x.known) staL_one (by omega) (by simp only [maxLen]; omega) ?_
          intro x4 y4
          rw [List.nil_append, show 0 + x.known.length = x.known.length from Nat.zero_add _]
          refine ⟨⟨⟨.inr ⟨rfl, Nat.le_of_ble_eq_true rfl, _, rfl, rfl, rfl⟩, trivial⟩, by simp⟩, ?_⟩
          refine ⟨?_, ?_⟩
          · refine ojs_litOwn 11 8 [] rfl rfl rfl (by decide) ?_
            intro g2
            refine ojs_append 2 (m' := x.slots.length) (news := x.slots.flatMap sltL) rfl rfl rfl rfl rfl rfl rfl rfl rfl (by decide) rfl rfl rfl (srcF (enc := sltL) (ys := x.slots) rfl (by simp) sltL_len) (flat_lenR sltL_len x.slots) sltL_one (by omega) (by simp only [maxLen]; omega) ?_
            intro x5 y5
            rw [List.nil_append, show 0 + x.slots.length = x.slots.length from Nat.zero_add _]
            refine ⟨⟨⟨.inr ⟨rfl, Nat.le_of_ble_eq_true rfl, _, rfl, rfl, rfl⟩, trivial⟩, by simp⟩, ?_⟩
            refine ⟨⟨⟨.inr ⟨rfl, Nat.le_of_ble_eq_true rfl, _, rfl, rfl, rfl⟩, trivial⟩, by simp⟩, ?_⟩
            refine ojs_litOwn 15 3 [] rfl rfl rfl (by decide) ?_
            intro g3
            refine ojs_append 4 (m' := x.tries.length) (news := x.tries.flatMap tryL) rfl rfl rfl rfl rfl rfl rfl rfl rfl (by decide) rfl rfl rfl (srcF (enc := tryL) (ys := x.tries) rfl (by simp) tryL_len) (flat_lenR tryL_len x.tries) tryL_one (by omega) (by simp only [maxLen]; omega) ?_
            intro x6 y6
            rw [List.nil_append, show 0 + x.tries.length = x.tries.length from Nat.zero_add _]
            refine ⟨⟨⟨.inr ⟨rfl, Nat.le_of_ble_eq_true rfl, _, rfl, rfl, rfl⟩, trivial⟩, by simp⟩, ?_⟩
            refine ⟨⟨(by repeat' (first | exact trivial | refine ⟨Or.inl rfl, ?_⟩ | refine ⟨Or.inr ⟨rfl, Nat.le_of_ble_eq_true rfl, _, rfl, rfl, rfl⟩, ?_⟩)), by simp⟩, ?_⟩
            refine ⟨⟨(by repeat' (first | exact trivial | refine ⟨Or.inl rfl, ?_⟩ | refine ⟨Or.inr ⟨rfl, Nat.le_of_ble_eq_true rfl, _, rfl, rfl, rfl⟩, ?_⟩)), by simp⟩, ?_⟩
            refine ⟨⟨(by repeat' (first | exact trivial | refine ⟨Or.inl rfl, ?_⟩ | refine ⟨Or.inr ⟨rfl, Nat.le_of_ble_eq_true rfl, _, rfl, rfl, rfl⟩, ?_⟩)), by simp⟩, ?_⟩
            refine endR_weak (wk_seal (j := 3) (v := .slice x4 x.known.length y4) (m := x.known.length) (enc := staL) (xs := x.known) (.inl rfl) staL_len rfl rfl) ?_
            refine endR_weak (wk_seal (j := 2) (v := .slice x5 x.slots.length y5) (m := x.slots.length) (enc := sltL) (xs := x.slots) (.inl rfl) sltL_len rfl rfl) ?_
            refine endR_weak (wk_seal (j := 4) (v := .slice x6 x.tries.length y6) (m := x.tries.length) (enc := tryL) (xs := x.tries) (.inl rfl) tryL_len rfl rfl) ?_
            exact endR_ok (lckF x ⟨t, x4, y4, x5, y5, x6, y6⟩) rfl rfl ⟨rfl, rfl⟩ rfl (fun _ => ⟨⟨t, x4, y4, x5, y5, x6, y6⟩, rfl, rfl⟩) (by simp [lckF])
          · refine ⟨⟨⟨.inr ⟨rfl, Nat.le_of_ble_eq_true rfl, _, rfl, rfl, rfl⟩, trivial⟩, by simp⟩, ?_⟩
            refine ojs_litOwn 11 8 [] rfl rfl rfl (by decide) ?_
            intro g2
            refine ojs_append 2 (m' := x.slots.length) (news := x.slots.flatMap sltL) rfl rfl rfl rfl rfl rfl rfl rfl rfl (by decide) rfl rfl rfl (srcF (enc := sltL) (ys := x.slots) rfl (by simp) sltL_len) (flat_lenR sltL_len x.slots) sltL_one (by omega) (by simp only [maxLen]; omega) ?_
            intro x5 y5
            rw [List.nil_append, show 0 + x.slots.length = x.slots.length from Nat.zero_add _]
            refine ⟨⟨⟨.inr ⟨rfl, Nat.le_of_ble_eq_true rfl, _, rfl, rfl, rfl⟩, trivial⟩, by simp⟩, ?_⟩
            refine ojs_litOwn 15 3 [] rfl rfl rfl (by decide) ?_
            intro g3
            refine ojs_append 4 (m' := x.tries.length) (news := x.tries.flatMap tryL) rfl rfl rfl rfl rfl rfl rfl rfl rfl (by decide) rfl rfl rfl (srcF (enc := tryL) (ys := x.tries) rfl (by simp) tryL_len) (flat_lenR tryL_len x.tries) tryL_one (by omega) (by simp only [maxLen]; omega) ?_
            intro x6 y6
            rw [List.nil_append, show 0 + x.tries.length = x.tries.length from Nat.zero_add _]
            refine ⟨⟨⟨.inr ⟨rfl, Nat.le_of_ble_eq_true rfl, _, rfl, rfl, rfl⟩, trivial⟩, by simp⟩, ?_⟩
            refine ⟨⟨(by repeat' (first | exact trivial | refine ⟨Or.inl rfl, ?_⟩ | refine ⟨Or.inr ⟨rfl, Nat.le_of_ble_eq_true rfl, _, rfl, rfl, rfl⟩, ?_⟩)), by simp⟩, ?_⟩
            refine ⟨⟨(by repeat' (first | exact trivial | refine ⟨Or.inl rfl, ?_⟩ | refine ⟨Or.inr ⟨rfl, Nat.le_of_ble_eq_true rfl, _, rfl, rfl, rfl⟩, ?_⟩)), by simp⟩, ?_⟩
            refine ⟨⟨(by repeat' (first | exact trivial | refine ⟨Or.inl rfl, ?_⟩ | refine ⟨Or.inr ⟨rfl, Nat.le_of_ble_eq_true rfl, _, rfl, rfl, rfl⟩, ?_⟩)), by simp⟩, ?_⟩
            refine endR_weak (wk_seal (j := 3) (v := .slice x4 x.known.length y4) (m := x.known.length) (enc := staL) (xs := x.known) (.inl rfl) staL_len rfl rfl) ?_
            refine endR_weak (wk_seal (j := 2) (v := .slice x5 x.slots.length y5) (m := x.slots.length) (enc := sltL) (xs := x.slots) (.inl rfl) sltL_len rfl rfl) ?_
            refine endR_weak (wk_seal (j := 4) (v := .slice x6 x.tries.length y6) (m := x.tries.length) (enc := tryL) (xs := x.tries) (.inl rfl) tryL_len rfl rfl) ?_
            exact endR_ok (lckF x ⟨t, x4, y4, x5, y5, x6, y6⟩) rfl rfl ⟨rfl, rfl⟩ rfl (fun _ => ⟨⟨t, x4, y4, x5, y5, x6, y6⟩, rfl, rfl⟩) (by simp [lckF])
        · refine ⟨⟨⟨.inr ⟨rfl, Nat.le_of_ble_eq_true rfl, _, rfl, rfl, rfl⟩, trivial⟩, by simp⟩, ?_⟩
          refine ojs_litOwn 7 4 [] rfl rfl rfl (by decide) ?_
          intro g1
          refine ojs_append 3 (m' := x.known.length) (news := x.known.flatMap staL) rfl rfl rfl rfl rfl rfl rfl rfl rfl (by decide) rfl rfl rfl (srcF (enc := staL) (ys := x.known) rfl (by simp) staL_len) (flat_lenR staL_len x.known) staL_one (by omega) (by simp only [maxLen]; omega) ?_
          intro x4 y4
          rw [List.nil_append, show 0 + x.known.length = x.known.length from Nat.zero_add _]
          refine ⟨⟨⟨.inr ⟨rfl, Nat.le_of_ble_eq_true rfl, _, rfl, rfl, rfl⟩, trivial⟩, by simp⟩, ?_⟩
          refine ojs_litOwn 11 8 [] rfl rfl rfl (by decide) ?_
          intro g2
          refine ojs_append 2 (m' := x.slots.length) (news := x.slots.flatMap sltL) rfl rfl rfl rfl rfl rfl rfl rfl rfl (by decide) rfl rfl rfl (srcF (enc := sltL) (ys := x.slots) rfl (by simp) sltL_len) (flat_lenR sltL_len x.slots) sltL_one (by omega) (by simp only [maxLen]; omega) ?_
          intro x5 y5
          rw [List.nil_append, show 0 + x.slots.length = x.slots.length from Nat.zero_add _]
          refine ⟨⟨⟨.inr ⟨rfl, Nat.le_of_ble_eq_true rfl, _, rfl, rfl, rfl⟩, trivial⟩, by simp⟩, ?_⟩
          refine ojs_litOwn 15 3 [] rfl rfl rfl (by decide) ?_
          intro g3
          refine ojs_append 4 (m' := x.tries.length) (news := x.tries.flatMap tryL) rfl rfl rfl rfl rfl rfl rfl rfl rfl (by decide) rfl rfl rfl (srcF (enc := tryL) (ys := x.tries) rfl (by simp) tryL_len) (flat_lenR tryL_len x.tries) tryL_one (by omega) (by simp only [maxLen]; omega) ?_
          intro x6 y6
          rw [List.nil_append, show 0 + x.tries.length = x.tries.length from Nat.zero_add _]
          refine ⟨⟨⟨.inr ⟨rfl, Nat.le_of_ble_eq_true rfl, _, rfl, rfl, rfl⟩, trivial⟩, by simp⟩, ?_⟩
          refine ⟨⟨(by repeat' (first | exact trivial | refine ⟨Or.inl rfl, ?_⟩ | refine ⟨Or.inr ⟨rfl, Nat.le_of_ble_eq_true rfl, _, rfl, rfl, rfl⟩, ?_⟩)), by simp⟩, ?_⟩
          refine ⟨⟨(by repeat' (first | exact trivial | refine ⟨Or.inl rfl, ?_⟩ | refine ⟨Or.inr ⟨rfl, Nat.le_of_ble_eq_true rfl, _, rfl, rfl, rfl⟩, ?_⟩)), by simp⟩, ?_⟩
          refine ⟨⟨(by repeat' (first | exact trivial | refine ⟨Or.inl rfl, ?_⟩ | refine ⟨Or.inr ⟨rfl, Nat.le_of_ble_eq_true rfl, _, rfl, rfl, rfl⟩, ?_⟩)), by simp⟩, ?_⟩
          refine endR_weak (wk_seal (j := 3) (v := .slice x4 x.known.length y4) (m := x.known.length) (enc := staL) (xs := x.known) (.inl rfl) staL_len rfl rfl) ?_
          refine endR_weak (wk_seal (j := 2) (v := .slice x5 x.slots.length y5) (m := x.slots.length) (enc := sltL) (xs := x.slots) (.inl rfl) sltL_len rfl rfl) ?_
          refine endR_weak (wk_seal (j := 4) (v := .slice x6 x.tries.length y6) (m := x.tries.length) (enc := tryL) (xs := x.tries) (.inl rfl) tryL_len rfl rfl) ?_
          exact endR_ok (lckF x ⟨t, x4, y4, x5, y5, x6, y6⟩) rfl rfl ⟨rfl, rfl⟩ rfl (fun _ => ⟨⟨t, x4, y4, x5, y5, x6, y6⟩, rfl, rfl⟩) (by simp [lckF])
      · refine ⟨⟨⟨.inr ⟨rfl, Nat.le_of_ble_eq_true rfl, _, rfl, rfl, rfl⟩, trivial⟩, by simp⟩, ?_⟩
        refine ⟨⟨⟨.inr ⟨rfl, Nat.le_of_ble_eq_true rfl, _, rfl, rfl, rfl⟩, trivial⟩, by simp⟩, ?_⟩
        refine ojs_litOwn 7 4 [] rfl rfl rfl (by decide) ?_
        intro g1
        refine ojs_append 4 (m' := x.known.length) (news := x.known.flatMap staL) rfl rfl rfl rfl rfl rfl rfl rfl rfl (by decide) rfl rfl rfl (srcF (enc := staL) (ys := x.known) rfl (by simp) staL_len) (flat_lenR staL_len x.known) staL_one (by omega) (by simp only [maxLen]; omega) ?_
        intro x4 y4
        rw [List.nil_append, show 0 + x.known.length = x.known.length from Nat.zero_add _]
        refine ⟨⟨⟨.inr ⟨rfl, Nat.le_of_ble_eq_true rfl, _, rfl, rfl, rfl⟩, trivial⟩, by simp⟩, ?_⟩
        refine ojs_litOwn 11 8 [] rfl rfl rfl (by decide) ?_
        intro g2
        refine ojs_append 2 (m' := x.slots.length) (news := x.slots.flatMap sltL) rfl rfl rfl rfl rfl rfl rfl rfl rfl (by decide) rfl rfl rfl (srcF (enc := sltL) (ys := x.slots) rfl (by simp) sltL_len) (flat_lenR sltL_len x.slots) sltL_one (by omega) (by simp only [maxLen]; omega) ?_
        intro x5 y5
        rw [List.nil_append, show 0 + x.slots.length = x.slots.length from Nat.zero_add _]
        refine ⟨⟨⟨.inr ⟨rfl, Nat.le_of_ble_eq_true rfl, _, rfl, rfl, rfl⟩, trivial⟩, by simp⟩, ?_⟩
        refine ojs_litOwn 15 3 [] rfl rfl rfl (by decide) ?_
        intro g3
        refine ojs_append 3 (m' := x.tries.length) (news := x.tries.flatMap tryL) rfl rfl rfl rfl rfl rfl rfl rfl rfl (by decide) rfl rfl rfl (srcF (enc := tryL) (ys := x.tries) rfl (by simp) tryL_len) (flat_lenR tryL_len x.tries) tryL_one (by omega) (by simp only [maxLen]; omega) ?_
        intro x6 y6
        rw [List.nil_append, show 0 + x.tries.length = x.tries.length from Nat.zero_add _]
        refine ⟨⟨⟨.inr ⟨rfl, Nat.le_of_ble_eq_true rfl, _, rfl, rfl, rfl⟩, trivial⟩, by simp⟩, ?_⟩
        refine ⟨⟨(by repeat' (first | exact trivial | refine ⟨Or.inl rfl, ?_⟩ | refine ⟨Or.inr ⟨rfl, Nat.le_of_ble_eq_true rfl, _, rfl, rfl, rfl⟩, ?_⟩)), by simp⟩, ?_⟩
        refine ⟨⟨(by repeat' (first | exact trivial | refine ⟨Or.inl rfl, ?_⟩ | refine ⟨Or.inr ⟨rfl, Nat.le_of_ble_eq_true rfl, _, rfl, rfl, rfl⟩, ?_⟩)), by simp⟩, ?_⟩
        refine ⟨⟨(by repeat' (first | exact trivial | refine ⟨Or.inl rfl, ?_⟩ | refine ⟨Or.inr ⟨rfl, Nat.le_of_ble_eq_true rfl, _, rfl, rfl, rfl⟩, ?_⟩)), by simp⟩, ?_⟩
        refine endR_weak (wk_seal (j := 4) (v := .slice x4 x.known.length y4) (m := x.known.length) (enc := staL) (xs := x.known) (.inl rfl) staL_len rfl rfl) ?_
        refine endR_weak (wk_seal (j := 2) (v := .slice x5 x.slots.length y5) (m := x.slots.length) (enc := sltL) (xs := x.slots) (.inl rfl) sltL_len rfl rfl) ?_
        refine endR_weak (wk_seal (j := 3) (v := .slice x6 x.tries.length y6) (m := x.tries.length) (enc := tryL) (xs := x.tries) (.inl rfl) tryL_len rfl rfl) ?_
        exact endR_ok (lckF x ⟨t, x4, y4, x5, y5, x6, y6⟩) rfl rfl ⟨rfl, rfl⟩ rfl (fun _ => ⟨⟨t, x4, y4, x5, y5, x6, y6⟩, rfl, rfl⟩) (by simp [lckF])
    · refine ⟨⟨⟨.inr ⟨rfl, Nat.le_of_ble_eq_true rfl, _, rfl, rfl, rfl⟩, trivial⟩, by simp⟩, ?_⟩
      refine ⟨?_, ?_⟩
      · refine ⟨⟨⟨.inr ⟨rfl, Nat.le_of_ble_eq_true rfl, _, rfl, rfl, rfl⟩, trivial⟩, by simp⟩, ?_⟩
        refine ⟨?_, ?_⟩
        · refine ojs_litOwn 7 4 [] rfl rfl rfl (by decide) ?_
          intro g1
          refine ojs_append 3 (m' := x.known.length) (news := x.known.flatMap staL) rfl rfl rfl rfl rfl rfl rfl rfl rfl (by decide) rfl rfl rfl (srcF (enc := staL) (ys := x.known) rfl (by simp) staL_len) (flat_lenR staL_len x.known) staL_one (by omega) (by simp only [maxLen]; omega) ?_
          intro x4 y4
          rw [List.nil_append, show 0 + x.known.length = x.known.length from Nat.zero_add _]
          refine ⟨⟨⟨.inr ⟨rfl, Nat.le_of_ble_eq_true rfl, _, rfl, rfl, rfl⟩, trivial⟩, by simp⟩, ?_⟩
          refine ⟨⟨⟨.inr ⟨rfl, Nat.le_of_ble_eq_true rfl, _, rfl, rfl, rfl⟩, trivial⟩, by simp⟩, ?_⟩
          refine ojs_litOwn 11 8 [] rfl rfl rfl (by decide) ?_
          intro g2
          refine ojs_append 4 (m' := x.slots.length) (news := x.slots.flatMap sltL) rfl rfl rfl rfl rfl rfl rfl rfl rfl (by decide) rfl rfl rfl (srcF (enc := sltL) (ys := x.slots) rfl (by simp) sltL_len) (flat_lenR sltL_len x.slots) sltL_one (by omega) (by simp only [maxLen]; omega) ?_
          intro x5 y5
          rw [List.nil_append, show 0 + x.slots.length = x.slots.length from Nat.zero_add _]
          refine ⟨⟨⟨.inr ⟨rfl, Nat.le_of_ble_eq_true rfl, _, rfl, rfl, rfl⟩, trivial⟩, by simp⟩, ?_⟩
          refine ojs_litOwn 15 3 [] rfl rfl rfl (by decide) ?_
          intro g3
          refine ojs_append 2 (m' := x.tries.length) (news := x.tries.flatMap tryL) rfl rfl rfl rfl rfl rfl rfl rfl rfl (by decide) rfl rfl rfl (srcF (enc := tryL) (ys := x.tries) rfl (by simp) tryL_len) (flat_lenR tryL_len x.tries) tryL_one (by omega) (by simp only [maxLen]; omega) ?_
          intro x6 y6
          rw [List.nil_append, show 0 + x.tries.length = x.tries.length from Nat.zero_add _]
          refine ⟨⟨⟨.inr ⟨rfl, Nat.le_of_ble_eq_true rfl, _, rfl, rfl, rfl⟩, trivial⟩, by simp⟩, ?_⟩
          refine ⟨⟨(by repeat' (first | exact trivial | refine ⟨Or.inl rfl, ?_⟩ | refine ⟨Or.inr ⟨rfl, Nat.le_of_ble_eq_true rfl, _, rfl, rfl, rfl⟩, ?_⟩)), by simp⟩, ?_⟩
          refine ⟨⟨(by repeat' (first | exact trivial | refine ⟨Or.inl rfl, ?_⟩ | refine ⟨Or.inr ⟨rfl, Nat.le_of_ble_eq_true rfl, _, rfl, rfl, rfl⟩, ?_⟩)), by simp⟩, ?_⟩
          refine ⟨⟨(by repeat' (first | exact trivial | refine ⟨Or.inl rfl, ?_⟩ | refine ⟨Or.inr ⟨rfl, Nat.le_of_ble_eq_true rfl, _, rfl, rfl, rfl⟩, ?_⟩)), by simp⟩, ?_⟩
          refine endR_weak (wk_seal (j := 3) (v := .slice x4 x.known.length y4) (m := x.known.length) (enc := staL) (xs := x.known) (.inl rfl) staL_len rfl rfl) ?_
          refine endR_weak (wk_seal (j := 4) (v := .slice x5 x.slots.length y5) (m := x.slots.length) (enc := sltL) (xs := x.slots) (.inl rfl) sltL_len rfl rfl) ?_
          refine endR_weak (wk_seal (j := 2) (v := .slice x6 x.tries.length y6) (m := x.tries.length) (enc := tryL) (xs := x.tries) (.inl rfl) tryL_len rfl rfl) ?_
          exact endR_ok (lckF x ⟨t, x4, y4, x5, y5, x6, y6⟩) rfl rfl ⟨rfl, rfl⟩ rfl (fun _ => ⟨⟨t, x4, y4, x5, y5, x6, y6⟩, rfl, rfl⟩) (by simp [lckF])
        · refine ⟨⟨⟨.inr ⟨rfl, Nat.le_of_ble_eq_true rfl, _, rfl, rfl, rfl⟩, trivial⟩, by simp⟩, ?_⟩
          refine ojs_litOwn 7 4 [] rfl rfl rfl (by decide) ?_
          intro g1
          refine ojs_append 3 (m' := x.known.length) (news := x.known.flatMap staL) rfl rfl rfl rfl rfl rfl rfl rfl rfl (by decide) rfl rfl rfl (srcF (enc := staL) (ys := x.known) rfl (by simp) staL_len) (flat_lenR staL_len x.known) staL_one (by omega) (by simp only [maxLen]; omega) ?_
          intro x4 y4
          rw [List.nil_append, show 0 + x.known.length = x.known.length from Nat.zero_add _]
          refine ⟨⟨⟨.inr ⟨rfl, Nat.le_of_ble_eq_true rfl, _, rfl, rfl, rfl⟩, trivial⟩, by simp⟩, ?_⟩
          refine ojs_litOwn 11 8 [] rfl rfl rfl (by decide) ?_
          intro g2
          refine ojs_append 4 (m' := x.slots.length) (news := x.slots.flatMap sltL) rfl rfl rfl rfl rfl rfl rfl rfl rfl (by decide) rfl rfl rfl (srcF (enc := sltL) (ys := x.slots) rfl (by simp) sltL_len) (flat_lenR sltL_len x.slots) sltL_one (by omega) (by simp only [maxLen]; omega) ?_
          intro x5 y5
          rw [List.nil_append, show 0 + x.slots.length = x.slots.length from Nat.zero_add _]
          refine ⟨⟨⟨.inr ⟨rfl, Nat.le_of_ble_eq_true rfl, _, rfl, rfl, rfl⟩, trivial⟩, by simp⟩, ?_⟩
          refine ojs_litOwn 15 3 [] rfl rfl rfl (by decide) ?_
          intro g3
          refine ojs_append 2 (m' := x.tries.length) (news := x.tries.flatMap tryL) rfl rfl rfl rfl rfl rfl rfl rfl rfl (by decide) rfl rfl rfl (srcF (enc := tryL) (ys := x.tries) rfl (by simp) tryL_len) (flat_lenR tryL_len x.tries) tryL_one (by omega) (by simp only [maxLen]; omega) ?_
          intro x6 y6
          rw [List.nil_append, show 0 + x.tries.length = x.tries.length from Nat.zero_add _]
          refine ⟨⟨⟨.inr ⟨rfl, Nat.le_of_ble_eq_true rfl, _, rfl, rfl, rfl⟩, trivial⟩, by simp⟩, ?_⟩
          refine ⟨⟨(by repeat' (first | exact trivial | refine ⟨Or.inl rfl, ?_⟩ | refine ⟨Or.inr ⟨rfl, Nat.le_of_ble_eq_true rfl, _, rfl, rfl, rfl⟩, ?_⟩)), by simp⟩, ?_⟩
          refine ⟨⟨(by repeat' (first | exact trivial | refine ⟨Or.inl rfl, ?_⟩ | refine ⟨Or.inr ⟨rfl, Nat.le_of_ble_eq_true rfl, _, rfl, rfl, rfl⟩, ?_⟩)), by simp⟩, ?_⟩
          refine ⟨⟨(by repeat' (first | exact trivial | refine ⟨Or.inl rfl, ?_⟩ | refine ⟨Or.inr ⟨rfl, Nat.le_of_ble_eq_true rfl, _, rfl, rfl, rfl⟩, ?_⟩)), by simp⟩, ?_⟩
          refine endR_weak (wk_seal (j := 3) (v := .slice x4 x.known.length y4) (m := x.known.length) (enc := staL) (xs := x.known) (.inl rfl) staL_len rfl rfl) ?_
          refine endR_weak (wk_seal (j := 4) (v := .slice x5 x.slots.length y5) (m := x.slots.length) (enc := sltL) (xs := x.slots) (.inl rfl) sltL_len rfl rfl) ?_
          refine endR_weak (wk_seal (j := 2) (v := .slice x6 x.tries.length y6) (m := x.tries.length) (enc := tryL) (xs := x.tries) (.inl rfl) tryL_len rfl rfl) ?_
          exact endR_ok (lckF x ⟨t, x4, y4, x5, y5, x6, y6⟩) rfl rfl ⟨rfl, rfl⟩ rfl (fun _ => ⟨⟨t, x4, y4, x5, y5, x6, y6⟩, rfl, rfl⟩) (by simp [lckF])
      · refine ⟨⟨⟨.inr ⟨rfl, Nat.le_of_ble_eq_true rfl, _, rfl, rfl, rfl⟩, trivial⟩, by simp⟩, ?_⟩
        refine ⟨⟨⟨.inr ⟨rfl, Nat.le_of_ble_eq_true rfl, _, rfl, rfl, rfl⟩, trivial⟩, by simp⟩, ?_⟩
        refine ojs_litOwn 7 4 [] rfl rfl rfl (by decide) ?_
        intro g1
        refine ojs_append 4 (m' := x.known.length) (news := x.known.flatMap staL) rfl rfl rfl rfl rfl rfl rfl rfl rfl (by decide) rfl rfl rfl (srcF (enc := staL) (ys := x.known) rfl (by simp) staL_len) (flat_lenR staL_len x.known) staL_one (by omega) (by simp only [maxLen]; omega) ?_
        intro x4 y4
        rw [List.nil_append, show 0 + x.known.length = x.known.length from Nat.zero_add _]
        refine ⟨⟨⟨.inr ⟨rfl, Nat.le_of_ble_eq_true rfl, _, rfl, rfl, rfl⟩, trivial⟩, by simp⟩, ?_⟩
        refine ojs_litOwn 11 8 [] rfl rfl rfl (by decide) ?_
        intro g2
        refine ojs_append 3 (m' := x.slots.length) (news := x.slots.flatMap sltL) rfl rfl rfl rfl rfl rfl rfl rfl rfl (by decide) rfl rfl rfl (srcF (enc := sltL) (ys := x.slots) rfl (by simp) sltL_len) (flat_lenR sltL_len x.slots) sltL_one (by omega) (by simp only [maxLen]; omega) ?_
        intro x5 y5
        rw [List.nil_append, show 0 + x.slots.length = x.slots.length from Nat.zero_add _]
        refine ⟨⟨⟨.inr ⟨rfl, Nat.le_of_ble_eq_true rfl, _, rfl, rfl, rfl⟩, trivial⟩, by simp⟩, ?_⟩
        refine ojs_litOwn 15 3 [] rfl rfl rfl (by decide) ?_
        intro g3
        refine ojs_append 2 (m' := x.tries.length) (news := x.tries.flatMap tryL) rfl rfl rfl rfl rfl rfl rfl rfl rfl (by decide) rfl rfl rfl (srcF (enc := tryL) (ys := x.tries) rfl (by simp) tryL_len) (flat_lenR tryL_len x.tries) tryL_one (by omega) (by simp only [maxLen]; omega) ?_
        intro x6 y6
        rw [List.nil_append, show 0 + x.tries.length = x.tries.length from Nat.zero_add _]
        refine ⟨⟨⟨.inr ⟨rfl, Nat.le_of_ble_eq_true rfl, _, rfl, rfl, rfl⟩, trivial⟩, by simp⟩, ?_⟩
        refine ⟨⟨(by repeat' (first | exact trivial | refine ⟨Or.inl rfl, ?_⟩ | refine ⟨Or.inr ⟨rfl, Nat.le_of_ble_eq_true rfl, _, rfl, rfl, rfl⟩, ?_⟩)), by simp⟩, ?_⟩
        refine ⟨⟨(by repeat' (first | exact trivial | refine ⟨Or.inl rfl, ?_⟩ | refine ⟨Or.inr ⟨rfl, Nat.le_of_ble_eq_true rfl, _, rfl, rfl, rfl⟩, ?_⟩)), by simp⟩, ?_⟩
        refine ⟨⟨(by repeat' (first | exact trivial | refine ⟨Or.inl rfl, ?_⟩ | refine ⟨Or.inr ⟨rfl, Nat.le_of_ble_eq_true rfl, _, rfl, rfl, rfl⟩, ?_⟩)), by simp⟩, ?_⟩
        refine endR_weak (wk_seal (j := 4) (v := .slice x4 x.known.length y4) (m := x.known.length) (enc := staL) (xs := x.known) (.inl rfl) staL_len rfl rfl) ?_
        refine endR_weak (wk_seal (j := 3) (v := .slice x5 x.slots.length y5) (m := x.slots.length) (enc := sltL) (xs := x.slots) (.inl rfl) sltL_len rfl rfl) ?_
        refine endR_weak (wk_seal (j := 2) (v := .slice x6 x.tries.length y6) (m := x.tries.length) (enc := tryL) (xs := x.tries) (.inl rfl) tryL_len rfl rfl) ?_
        exact endR_ok (lckF x ⟨t, x4, y4, x5, y5, x6, y6⟩) rfl rfl ⟨rfl, rfl⟩ rfl (fun _ => ⟨⟨t, x4, y4, x5, y5, x6, y6⟩, rfl, rfl⟩) (by simp [lckF])
end Go.Proofs.YtmhnlkakbadkgaaGreat
