/- Sites, by the symbolic run: the library's contracts; which tickets may be; their names. -/
import Derived.Test.YtehfodoocfpkoaaDoorStC
import Derived.Test.YtehfodoocfpkoaaDoorShelf
import Derived.Lib.SmallJoins
import Derived.Shelf.SlSorted.Search
import Derived.Lib.ItoaLen
import Derived.Lib.Join
namespace Go.Proofs.YtehfodoocfpkoaaDoor
open Go.RowKit Go.Shelf

theorem var_keep {P : Program} {w w' : World} {name : String} {g : Nat} (hg : P.globalNamed name = some g) (h : w'.heap[g]? = w.heap[g]?) : w'.var? P name = w.var? P name := by
  simp [World.var?, hg, h]
def errCell (b : Nat) (w : World) : Prop := ∃ ev, w.cell? ⟨b, 0, none⟩ = some ev ∧ (ev = .nilIface ∨ ∃ te pe, ev = .iface te pe)
theorem gPow : Tryd.prog.globalNamed "internal/strconv.uint64pow10" = some 0 := by kernel_rfl
/-- The library's own variables that are read. -/
def libF : Fact where
  h A w := (∀ b, b < 4 → A b) ∧ Lib.TabIs Tryd.prog w "internal/strconv.uint64pow10" .u64 Lib.pow10Tab ∧ (∃ m, w.cell? ⟨3, 0, none⟩ = some (.int .i64 m)) ∧ errCell 1 w ∧ errCell 2 w
  ok := by
    rintro A A' w w' hA hw _ ⟨h1, h2, ⟨m, h3⟩, h4, h5⟩
    have hb : ∀ b, b < 4 → w'.heap[b]? = w.heap[b]? := fun b hb => hw b (h1 b hb)
    have hc : ∀ b o, b < 4 → w'.cell? ⟨b, o, none⟩ = w.cell? ⟨b, o, none⟩ := fun b o h => World.cell?_of_block (hb b h)
    refine ⟨fun b h => hA b (h1 b h), (var_keep gPow (hb 0 (by omega))).trans h2, ⟨m, (hc 3 0 (by omega)).trans h3⟩, ?_, ?_⟩
    · unfold errCell; rw [hc 1 0 (by omega)]; exact h4
    · unfold errCell; rw [hc 2 0 (by omega)]; exact h5
def strV (l : List UInt8) : Value := .string ⟨l.toArray⟩
theorem formatInt_c (n : Int) (h0 : -9223372036854775808 ≤ n) (h1 : n ≤ 9223372036854775807) : Cm Tryd.prog 34 [.int .i64 n, .int .i64 10] [] [libF] (rets (.string ⟨(Lib.itoa n).toArray⟩)) :=
  cm_old fun A w _ hF => (Tryd.strconv_FormatInt_10 n h0 h1 w (hF _ (List.mem_singleton.2 rfl)).2.1).mono fun e w' ⟨he, k, os, hw⟩ => ⟨he, by rw [hw]; exact below_grown_sl _ _ _ _ (Nat.le_refl _)⟩
theorem itoa_c (n : Int) (h0 : -9223372036854775808 ≤ n) (h1 : n ≤ 9223372036854775807) : Cm Tryd.prog 40 [.int .i64 n] [] [libF] (rets (.string ⟨(Lib.itoa n).toArray⟩)) :=
  cm_old fun A w _ hF => (Tryd.strconv_Itoa n h0 h1 w (hF _ (List.mem_singleton.2 rfl)).2.1).mono fun e w' ⟨he, k, os, hw⟩ => ⟨he, by rw [hw]; exact below_grown_sl _ _ _ _ (Nat.le_refl _)⟩
def encS (s : ByteArray) : List Value := [.string s]
theorem encS_len (s : ByteArray) : (encS s).length = 1 := rfl
theorem join_c (a : Option Addr) (cap : Nat) (xs : List ByteArray) (hx : xs ≠ []) (hN : xs.length ≤ 1000) (hlen : (Lib.join (xs.map (·.data.toList)) [46]).length ≤ 140737488355328) :
    Cm Tryd.prog 35 [.slice a xs.length cap, .string ⟨#[46]⟩] [] [slF encS 1 (.slice a xs.length cap) xs] (rets (.string ⟨(Lib.join (xs.map (·.data.toList)) [46]).toArray⟩)) :=
  cm_old fun A w hA hF => by
    have h := hF _ (List.mem_singleton.2 rfl)
    obtain ⟨bk, o, rfl⟩ := slF_addr h hx
    have hc := (slF_len h).2
    have hb : bk < w.heap.size := by
      obtain ⟨a', c', e, _, h3⟩ := h
      cases e
      rcases h3 with h3 | ⟨b, off, e, h5, _⟩
      · exact absurd h3 hx
      · cases e; exact hA _ h5
    exact Tryd.strings_Join bk o cap xs ⟨#[46]⟩ w (fun j x hj => by have := slF_at hj (j := 0) (u := .string x) rfl A w h; simpa using this) hb (by omega) hc hlen
/-- A ticket: node, lock, slot, use. -/
abbrev Tk := Int × Int × Int × Int
def encT (t : Tk) : List Value := [.int .i64 t.1, .int .i64 t.2.1, .int .i64 t.2.2.1, .int .i64 t.2.2.2]
def partsV (n l s : Int) : List Value := [.func (.func 50) #[] #[], .func (.func 51) #[] #[], .int .i64 0, .int .i64 (n - 1), .func (.func 52) #[] #[], .func (.func 53) #[] #[], .int .i64 0, .int .i64 (l - 1),
  .func (.func 54) #[] #[], .func (.func 55) #[] #[], .int .i64 0, .int .i64 (s - 1), .func (.func 56) #[] #[], .func (.func 57) #[] #[], .int .i64 1, .int .i64 1099511627776]
theorem parts_c (n l s : Int) (hs : shapeB n l s = true) : Cm Tryd.prog 33 [.agg #[.int .i64 n, .int .i64 l, .int .i64 s]] [] [] (rets (.agg (partsV n l s).toArray)) := by
  refine cm_of (tab := tb) (ok := tbOk) [.g [.v (.int .i64 n), .v (.int .i64 l), .v (.int .i64 s)]] Tryd.func33 Tryd.ntmps33 rfl rfl (fun _ _ => rfl) ?_
  intro w0 A0
  have h := shapeB_is hs
  refine ojs_arith (z := n - 1) (by rw [wrap_in] <;> omega) rfl rfl rfl rfl ?_
  refine ojs_arith (z := l - 1) (by rw [wrap_in] <;> omega) rfl rfl rfl rfl ?_
  refine ojs_arith (z := s - 1) (by rw [wrap_in] <;> omega) rfl rfl rfl rfl ?_
  refine optK_of (yd_buildA rfl rfl rfl rfl rfl) ?_
  exact endR_ok [] rfl rfl ⟨rfl, rfl⟩ rfl (fun _ => ⟨rfl, rfl⟩) (by simp)
theorem part1_c (t : Tk) (b : Nat) : Cm Tryd.prog 50 [.pointer (some ⟨b, 0, none⟩)] [] [blkF b (encT t) 38] (rets (.int .i64 t.1)) := by
  refine cm_of (tab := tb) (ok := tbOk) [.o (.v (.pointer (some ⟨b, 0, none⟩)))] Tryd.func50 Tryd.ntmps50 rfl rfl (fun _ _ => rfl) ?_
  intro w0 A0
  refine ojs_load1 (v := .int .i64 t.1) (blkF b (encT t) 38) (by simp) (blk_cell (o := 0) rfl) rfl rfl rfl ?_
  exact endR_ok [] rfl rfl ⟨rfl, rfl⟩ rfl (fun _ => ⟨rfl, rfl⟩) (by simp)
theorem part3_c (t : Tk) (b : Nat) : Cm Tryd.prog 52 [.pointer (some ⟨b, 0, none⟩)] [] [blkF b (encT t) 38] (rets (.int .i64 t.2.1)) := by
  refine cm_of (tab := tb) (ok := tbOk) [.o (.v (.pointer (some ⟨b, 0, none⟩)))] Tryd.func52 Tryd.ntmps52 rfl rfl (fun _ _ => rfl) ?_
  intro w0 A0
  refine ojs_load1 (v := .int .i64 t.2.1) (blkF b (encT t) 38) (by simp) (blk_cell (o := 1) rfl) rfl rfl rfl ?_
  exact endR_ok [] rfl rfl ⟨rfl, rfl⟩ rfl (fun _ => ⟨rfl, rfl⟩) (by simp)
theorem part5_c (t : Tk) (b : Nat) : Cm Tryd.prog 54 [.pointer (some ⟨b, 0, none⟩)] [] [blkF b (encT t) 38] (rets (.int .i64 t.2.2.1)) := by
  refine cm_of (tab := tb) (ok := tbOk) [.o (.v (.pointer (some ⟨b, 0, none⟩)))] Tryd.func54 Tryd.ntmps54 rfl rfl (fun _ _ => rfl) ?_
  intro w0 A0
  refine ojs_load1 (v := .int .i64 t.2.2.1) (blkF b (encT t) 38) (by simp) (blk_cell (o := 2) rfl) rfl rfl rfl ?_
  exact endR_ok [] rfl rfl ⟨rfl, rfl⟩ rfl (fun _ => ⟨rfl, rfl⟩) (by simp)
theorem part7_c (t : Tk) (b : Nat) : Cm Tryd.prog 56 [.pointer (some ⟨b, 0, none⟩)] [] [blkF b (encT t) 38] (rets (.int .i64 t.2.2.2)) := by
  refine cm_of (tab := tb) (ok := tbOk) [.o (.v (.pointer (some ⟨b, 0, none⟩)))] Tryd.func56 Tryd.ntmps56 rfl rfl (fun _ _ => rfl) ?_
  intro w0 A0
  refine ojs_load1 (v := .int .i64 t.2.2.2) (blkF b (encT t) 38) (by simp) (blk_cell (o := 3) rfl) rfl rfl rfl ?_
  exact endR_ok [] rfl rfl ⟨rfl, rfl⟩ rfl (fun _ => ⟨rfl, rfl⟩) (by simp)

end Go.Proofs.YtehfodoocfpkoaaDoor
