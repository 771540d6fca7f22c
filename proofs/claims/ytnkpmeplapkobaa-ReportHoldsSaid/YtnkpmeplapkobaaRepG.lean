/- Reports: Missing's iterator; whole; the reference's Tally. -/
import Derived.Test.YtnkpmeplapkobaaRepF
namespace Go.Proofs.Ytnkpmeplapkobaa
open Go.RowKit Go.Shelf
attribute [local go_sem] Oper.semAt_some

set_option maxRecDepth 100000 in
set_option maxHeartbeats 2000000 in
theorem missing_seq (n : Nat) (hn : 2 ≤ n) (B : Nat) (sv : Value) (xs : List Nat) (hlen : xs.length ≤ 1099511627776) (w0 : World) (hc : w0.cell? ⟨B, 0, none⟩ = some sv) (hS : Sl encI 1 w0 sv (natI xs)) :
    SeqP n Try.prog 32 #[.pointer (some ⟨B, 0, none⟩)] (fun p : Nat => #[.int .i64 (p : Int)]) w0 xs := fun lp J Jx W hW hJ hJx hY h0 => by
  have hl : (natI xs).length = xs.length := by unfold natI; simp
  have lB := World.block_lt_of_cell? _ _ hc
  dsimp only at lB
  obtain ⟨a3, c3, rfl⟩ := hS.shape
  rw [hl] at hS hc
  have HS := Lib.hid hS
  have HL := Lib.hid hl
  have hsz := hW.size
  have p2 := (hW.cell (p := ⟨B, 0, none⟩) lB).trans hc
  have hn1 : 1 ≤ n := by omega
  have hJ := Lib.hid hJ
  have hJx := Lib.hid hJx
  have hY := Lib.hid hY
  have hWW := Lib.hid hW
  have H0 := Lib.hid h0
  clear hS hc hW h0 hl
  refine callsIn_of_wp Try.func32 rfl trivial ?_ rfl
  simp only [Try.ntmps32, List.size_toArray, List.length_cons, List.length_nil, Nat.reduceAdd, Nat.reduceSub, Array.replicate_succ, Array.replicate_zero, List.push_toArray, List.append_toArray, List.nil_append, List.cons_append]
  refine wpIn_scope_w ?_
  gi_wp2
  refine wpIn_label ?_
  gi_wp2
  gi_loopw [7] (fun i wr => ∃ k : Nat, k ≤ xs.length ∧ i = .int .i64 k ∧ J k wr ∧ Below w0.heap.size w0 wr) (fun i _ => xs.length - (intOf i).toNat)
  case atStart => exact ⟨0, Nat.zero_le _, rfl, H0.out, hWW.out⟩
  case round =>
    obtain ⟨k, hk, rfl, hJk, hB⟩ := hrel
    have HJK := Lib.hid hJk
    by_cases hlt : k < xs.length
    · obtain ⟨b, off, cap', hv, hb, hcell⟩ := HS.out.atI (k := k) (by rw [HL.out]; exact hlt)
      rw [HL.out] at hv
      cases hv
      obtain ⟨x, hx⟩ := at_some hlt
      have hcx := (hB.cell (p := ⟨b, off + k, none⟩) hb).trans (hcell k (x : Int) (by unfold natI; rw [List.getElem?_map, hx]; rfl))
      have HV := Lib.hid (hY.out k x wr hx HJK.out)
      obtain ⟨fn, tmps, assign, body, hy, hR⟩ := HV.out
      have HB := Lib.hid hB
      have i0 : (0 : Int) ≤ (k : Int) := by omega
      clear hcell hx hJk hB
      gi_wp2
      refine hR.mono ?_
      rintro e W6 (⟨rfl, hJ6, hR6⟩ | ⟨rfl, hJx6⟩)
      · have B6 := Lib.hid (HB.out.trans (hR6.belowLo (Nat.le_trans (Nat.le_refl _) HB.out.size)))
        have J6 := Lib.hid hJ6
        clear hR6 hJ6
        gi_wp2
        exact ⟨⟨k + 1, by omega, by go_num, J6.out, B6.out⟩, by simp [intOf]; omega⟩
      · have JX := Lib.hid hJx6
        clear hJx6
        gi_wp2
        rw [Exit.noGoto_normal]
        go_end0
        exact ⟨⟨_, rfl⟩, .inr ⟨_, JX.out, by omega, by omega⟩⟩
    · obtain rfl : k = xs.length := by omega
      clear hJk
      gi_wp2
      rw [Exit.noGoto_normal]
      go_end0
      exact ⟨⟨_, rfl⟩, .inl HJK.out⟩

end Go.Proofs.Ytnkpmeplapkobaa
