/- Link: LinkEach, walked: up to the iterator. -/
import Derived.Test.YtijifbkikgooiaaEachA
import Derived.Test.YtijifbkikgooiaaLinkQ
import Derived.Test.YtijifbkikgooiaaLib2
import Derived.Deep.LoopGhost
import Derived.Deep.DeepCutAuto
import Derived.Deep.CutBlock
import Derived.Deep.RegionHeld3
import Derived.Deep.QuietTactic
import Derived.BigQuiet
import Derived.Deep.Light
namespace Go.Proofs.Ytijifbkikgooiaa
open Go.RowKit Go.Shelf

set_option maxHeartbeats 1000000 in
theorem each_big (w : World) (i fr many : Int) (a b e : Option Addr) (n m len c d f : Nat) (h : (decide (n ≤ 100) && decide (m ≤ 100)) = false ∨ 40 < len) :
    Calls Try.prog 7 #[.agg #[.int .i64 i, .slice a n c, .slice b m d], .slice e len f, .agg #[.int .i64 fr, .int .i64 many]] w fun e w' => e = .returned (.bool true) ∧ Below w.heap.size w w' := by
  cases hb : (decide (n ≤ 100) && decide (m ≤ 100))
  all_goals
    have H := Lib.hid hb
    have h40 : (decide (n ≤ 100) && decide (m ≤ 100)) = true → 40 < len := fun h' => by rw [h'] at h; simpa using h
    rw [hb] at h40
    have H40 := Lib.hid h40
    clear hb h h40
  · go_enter Try.func7, Try.ntmps7
    go_wp2_with fail
    obtain ⟨V, hV⟩ : ∃ V, V = (((w.alloc (.cells #[.int .i64 i, .slice a n c, .slice b m d] 25)).alloc (.cells #[.slice e len f] 23)).alloc (.cells #[.int .i64 fr, .int .i64 many] 58)).alloc (.cells #[.bool false] 4) := ⟨_, rfl⟩
    rw [← hV]
    have E := below_alloc4s w (.cells #[.int .i64 i, .slice a n c, .slice b m d] 25) (.cells #[.slice e len f] 23) (.cells #[.int .i64 fr, .int .i64 many] 58) (.cells #[.bool false] 4)
    obtain ⟨q0, q1, q2, q3⟩ := alloc4s w (.cells #[.int .i64 i, .slice a n c, .slice b m d] 25) (.cells #[.slice e len f] 23) (.cells #[.int .i64 fr, .int .i64 many] 58) (.cells #[.bool false] 4)
    rw [← hV] at E q0 q1 q2 q3
    have kk := few_any V (.int .i64 i) a b n m c d
    rw [H.out] at kk
    refine kk.mono ?_
    clear kk hV
    rintro e W1 ⟨rfl, hB1⟩
    have E1 := E.trans (hB1.mono E.size)
    have p1 := cells1 (blk_keep q1 hB1)
    have Q3 := Lib.hid (blk_keep q3 hB1)
    clear q0 q1 q2 q3 hB1 E
    go_wp2_with fail
    refine (works_any W1).mono ?_
    rintro e W2 ⟨rfl, hB2⟩
    have E2 := E1.trans (hB2.mono E1.size)
    have p3 := cells1 (blk_keep Q3.out hB2)
    have Q4 := Lib.hid (blk_set (i := 0) (.bool true) (blk_keep Q3.out hB2))
    clear p1 hB2 E1
    go_wp2
    have p5 := cells1 Q4.out
    refine bodyPost_ret (v := .bool true) (by simp [results, Try.results7, go_sem, p5]) rfl ⟨rfl, E2.setCell (p := ⟨_, _, _⟩) (by dsimp only; omega) _⟩
  · have h40' : 40 < len := H40.out rfl
    go_enter Try.func7, Try.ntmps7
    go_wp2_with fail
    obtain ⟨V, hV⟩ : ∃ V, V = (((w.alloc (.cells #[.int .i64 i, .slice a n c, .slice b m d] 25)).alloc (.cells #[.slice e len f] 23)).alloc (.cells #[.int .i64 fr, .int .i64 many] 58)).alloc (.cells #[.bool false] 4) := ⟨_, rfl⟩
    rw [← hV]
    have E := below_alloc4s w (.cells #[.int .i64 i, .slice a n c, .slice b m d] 25) (.cells #[.slice e len f] 23) (.cells #[.int .i64 fr, .int .i64 many] 58) (.cells #[.bool false] 4)
    obtain ⟨q0, q1, q2, q3⟩ := alloc4s w (.cells #[.int .i64 i, .slice a n c, .slice b m d] 25) (.cells #[.slice e len f] 23) (.cells #[.int .i64 fr, .int .i64 many] 58) (.cells #[.bool false] 4)
    rw [← hV] at E q0 q1 q2 q3
    have kk := few_any V (.int .i64 i) a b n m c d
    rw [H.out] at kk
    refine kk.mono ?_
    clear kk hV
    rintro e W1 ⟨rfl, hB1⟩
    have E1 := E.trans (hB1.mono E.size)
    have p1 := cells1 (blk_keep q1 hB1)
    have Q3 := Lib.hid (blk_keep q3 hB1)
    clear q0 q1 q2 q3 hB1 E
    go_wp2_with fail
    refine (works_any W1).mono ?_
    rintro e W2 ⟨rfl, hB2⟩
    have E2 := E1.trans (hB2.mono E1.size)
    have p3 := cells1 (blk_keep Q3.out hB2)
    have Q4 := Lib.hid (blk_set (i := 0) (.bool true) (blk_keep Q3.out hB2))
    clear p1 hB2 E1
    go_wp2
    have p5 := cells1 Q4.out
    refine bodyPost_ret (v := .bool true) (by simp [results, Try.results7, go_sem, p5]) rfl ⟨rfl, E2.setCell (p := ⟨_, _, _⟩) (by dsimp only; omega) _⟩

end Go.Proofs.Ytijifbkikgooiaa
