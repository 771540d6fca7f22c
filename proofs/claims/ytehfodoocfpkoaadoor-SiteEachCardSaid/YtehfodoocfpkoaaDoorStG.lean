/- Sites, by the symbolic run: the ticket of a text. -/
import Derived.Test.YtehfodoocfpkoaaDoorStM
import Derived.Lib.SplitLaws
import Derived.Lib.ParseIntBTie
namespace Go.Proofs.YtehfodoocfpkoaaDoor
open Go.RowKit Go.Shelf

theorem split_c (s : ByteArray) (hs : s.size < 4294967281) : Cm Tryd.prog 38 [.string s, .string ⟨#[46]⟩] [] [libF] (fun e _ F1 => ∃ (xs : List ByteArray) (b : Nat), xs.map (·.data.toList) = splitL s.data.toList ∧ e = .returned (.slice (some ⟨b, 0, none⟩) xs.length xs.length) ∧ F1 = [slF encS 1 (.slice (some ⟨b, 0, none⟩) xs.length xs.length) xs]) := by
  intro A w _ _ hA hF
  obtain ⟨m, hm⟩ := (hF _ (List.mem_singleton.2 rfl)).2.2.1
  refine (Tryd.strings_Split s ⟨#[46]⟩ m w hs hm (by decide)).mono ?_
  rintro e w' ⟨rfl, rfl⟩
  have hl := Lib.splitB_all ⟨#[46]⟩ (by decide) 0 _ s rfl
  have hd := Lib.splitB_data ⟨#[46]⟩ 0 (Lib.countB s ⟨#[46]⟩) s
  obtain ⟨xs, hxs⟩ : ∃ xs, xs = Lib.splitB ⟨#[46]⟩ 0 (Lib.countB s ⟨#[46]⟩) s := ⟨_, rfl⟩
  rw [← hxs] at hl hd ⊢
  rw [← hl]
  have hb : Below w.heap.size w (w.alloc (.cells (xs.map Value.string).toArray 9)) := (Below.refl _ w).alloc (Nat.le_refl _) _
  refine ⟨[], _, ⟨xs, w.heap.size, ?_, rfl, rfl⟩, Kp.of_below hb, rfl, fun i x c hx => by simp at hx, fun b => b = w.heap.size, fun b h => .inr (by omega), fun b h => by subst h; simp, fun f hf => ?_⟩
  · rw [hd]
    exact split_eq _ _ (Nat.le_refl _)
  · cases List.mem_singleton.1 hf
    refine ⟨some ⟨w.heap.size, 0, none⟩, xs.length, rfl, ⟨Nat.le_refl _, fun e => by cases e⟩, .inr ⟨w.heap.size, 0, rfl, rfl, fun i x hx j u hu => ?_⟩⟩
    have hc := cell_of_list (o := i) (World.alloc_heap_new w (.cells (xs.map Value.string).toArray 9))
    match j, hu with
    | 0, hu =>
      cases hu
      rw [Nat.zero_add, Nat.mul_one, Nat.add_zero, hc]
      simp [hx]
theorem parseOk_c (s : ByteArray) (hs : s.size < 4294967281) (v : Int) (h : Lib.parseIntB 64 s.data.toList = .ok v) : Cm Tryd.prog 39 [.string s, .int .i64 10, .int .i64 64] [] [] (rets (.tuple #[.int .i64 v, .nilIface])) :=
  cm_old fun A w _ _ => (Tryd.strconv_ParseInt_10_at64_ok s (by omega) v h w).mono fun e w' ⟨he, hw⟩ => ⟨he, by
    rcases hw with rfl | ⟨t, rfl⟩
    · exact Below.refl _ _
    · exact Joins.below_bytesWorld _ _ _ _ (Nat.le_refl _)⟩
theorem parseBad_c (s : ByteArray) (hs : s.size < 4294967281) (h : ∀ v, Lib.parseIntB 64 s.data.toList ≠ .ok v) : Cm Tryd.prog 39 [.string s, .int .i64 10, .int .i64 64] [] [libF] (fun e _ F1 => (∃ z N, e = .returned (.tuple #[.int .i64 z, .iface 118 (.pointer (some ⟨N, 0, none⟩))])) ∧ F1 = []) := by
  refine cm_any (R := fun e => ∃ z N, e = .returned (.tuple #[.int .i64 z, .iface 118 (.pointer (some ⟨N, 0, none⟩))])) fun A w _ hF => ?_
  obtain ⟨_, _, _, ⟨e1, c1, k1⟩, e2, c2, k2⟩ := hF _ (List.mem_singleton.2 rfl)
  cases hp : Lib.parseIntB 64 s.data.toList
  · exact absurd hp (h _)
  · exact (Tryd.strconv_ParseInt_10_at64_none s (by omega) hp e1 w c1 k1).mono fun e w' ⟨N, he, _, _, hb⟩ => ⟨⟨_, N, he⟩, hb⟩
  · exact (Tryd.strconv_ParseInt_10_at64_range s (by omega) hp e2 w c2 k2).mono fun e w' ⟨N, he, _, _, hb⟩ => ⟨⟨_, N, he⟩, hb⟩
theorem put2_c (c : List Value) (hc : c.length = 4) (v : Int) (b : Nat) : Cm Tryd.prog 51 [.pointer (some ⟨b, 0, none⟩), .int .i64 v] [(b, c, 38)] [] (fun e cs F1 => e = .returned (.tuple #[]) ∧ cs = [c.set 0 (.int .i64 v)] ∧ F1 = []) := by
  match c, hc with
  | [c0, c1, c2, c3], _ =>
    refine cm_of (tab := tb) (ok := tbOk) [.o (.p 0 0), .o (.v (.int .i64 v))] Tryd.func51 Tryd.ntmps51 rfl rfl (fun ρ h => by simp [TV.den, SV.den, h 0 b rfl]) ?_
    intro w0 A0
    exact endR_ok [] rfl rfl ⟨rfl, rfl⟩ rfl (fun _ => ⟨rfl, rfl, rfl⟩) (by simp)
theorem put4_c (c : List Value) (hc : c.length = 4) (v : Int) (b : Nat) : Cm Tryd.prog 53 [.pointer (some ⟨b, 0, none⟩), .int .i64 v] [(b, c, 38)] [] (fun e cs F1 => e = .returned (.tuple #[]) ∧ cs = [c.set 1 (.int .i64 v)] ∧ F1 = []) := by
  match c, hc with
  | [c0, c1, c2, c3], _ =>
    refine cm_of (tab := tb) (ok := tbOk) [.o (.p 0 0), .o (.v (.int .i64 v))] Tryd.func53 Tryd.ntmps53 rfl rfl (fun ρ h => by simp [TV.den, SV.den, h 0 b rfl]) ?_
    intro w0 A0
    exact endR_ok [] rfl rfl ⟨rfl, rfl⟩ rfl (fun _ => ⟨rfl, rfl, rfl⟩) (by simp)
theorem put6_c (c : List Value) (hc : c.length = 4) (v : Int) (b : Nat) : Cm Tryd.prog 55 [.pointer (some ⟨b, 0, none⟩), .int .i64 v] [(b, c, 38)] [] (fun e cs F1 => e = .returned (.tuple #[]) ∧ cs = [c.set 2 (.int .i64 v)] ∧ F1 = []) := by
  match c, hc with
  | [c0, c1, c2, c3], _ =>
    refine cm_of (tab := tb) (ok := tbOk) [.o (.p 0 0), .o (.v (.int .i64 v))] Tryd.func55 Tryd.ntmps55 rfl rfl (fun ρ h => by simp [TV.den, SV.den, h 0 b rfl]) ?_
    intro w0 A0
    exact endR_ok [] rfl rfl ⟨rfl, rfl⟩ rfl (fun _ => ⟨rfl, rfl, rfl⟩) (by simp)
theorem put8_c (c : List Value) (hc : c.length = 4) (v : Int) (b : Nat) : Cm Tryd.prog 57 [.pointer (some ⟨b, 0, none⟩), .int .i64 v] [(b, c, 38)] [] (fun e cs F1 => e = .returned (.tuple #[]) ∧ cs = [c.set 3 (.int .i64 v)] ∧ F1 = []) := by
  match c, hc with
  | [c0, c1, c2, c3], _ =>
    refine cm_of (tab := tb) (ok := tbOk) [.o (.p 0 0), .o (.v (.int .i64 v))] Tryd.func57 Tryd.ntmps57 rfl rfl (fun ρ h => by simp [TV.den, SV.den, h 0 b rfl]) ?_
    intro w0 A0
    exact endR_ok [] rfl rfl ⟨rfl, rfl⟩ rfl (fun _ => ⟨rfl, rfl, rfl⟩) (by simp)
theorem ne_nil (N : Nat) : ∀ W, (binOp .neq 77 (.iface 118 (.pointer (some ⟨N, 0, none⟩))) .nilIface).run Tryd.prog W = .ok (.bool true) W := fun _ => by kernel_rfl
theorem nil_nil : ∀ W, (binOp .neq 77 .nilIface .nilIface).run Tryd.prog W = .ok (.bool false) W := fun _ => by kernel_rfl
theorem guard_nil (N : Nat) (x : Operand) : ∀ W, (eqGuard .neq 77 x (.const .nilIface) (.iface 118 (.pointer (some ⟨N, 0, none⟩))) .nilIface).run Tryd.prog W = .ok () W := fun _ => by unfold eqGuard; simp
theorem guard_nil2 (x : Operand) : ∀ W, (eqGuard .neq 77 x (.const .nilIface) .nilIface .nilIface).run Tryd.prog W = .ok () W := fun _ => by unfold eqGuard; simp
theorem numB_bad {p : Bs} (h : ∀ v, Lib.parseIntB 64 p ≠ .ok v) (lo hi : Int) : numB p lo hi = none := by
  unfold numB
  split
  · rename_i v hv; exact absurd hv (h v)
  · rfl
theorem numB_ok {p : Bs} {v : Int} (h : Lib.parseIntB 64 p = .ok v) (lo hi : Int) : numB p lo hi = if Lib.itoa v = p ∧ (lo ≤ v ∧ v ≤ hi) then some v else none := by
  unfold numB
  rw [h]
theorem str_ne {v : Int} {s : ByteArray} : (!((itoaS v).data.toList == s.data.toList)) = decide (Lib.itoa v ≠ s.data.toList) := by
  have : (itoaS v).data.toList = Lib.itoa v := rfl
  rw [this]
  by_cases h : Lib.itoa v = s.data.toList
  · simp [h]
  · have hb : (Lib.itoa v == s.data.toList) = false := by simpa using h
    rw [hb]; simp [h]

end Go.Proofs.YtehfodoocfpkoaaDoor
