/- Sites, by the symbolic run: the reference's names; how tickets stand. -/
import Derived.Test.YtehfodoocfpkoaaDoorStE
namespace Go.Proofs.YtehfodoocfpkoaaDoor
open Go.RowKit Go.Shelf

theorem data_append (a b : ByteArray) : (a ++ b).data.toList = a.data.toList ++ b.data.toList := by
  rw [ByteArray.data_append, Array.toList_append]
theorem size_itoaS {z : Int} (h0 : -9223372036854775808 ≤ z) (h1 : z ≤ 9223372036854775807) : (itoaS z).size ≤ 21 := by
  have := Lib.itoa_length_le z h0 h1
  show (Lib.itoa z).toArray.size ≤ 21
  rw [List.size_toArray]; exact this
theorem itoaN_c (n : Int) (h0 : -9223372036854775808 ≤ n) (h1 : n ≤ 9223372036854775807) {s : ByteArray} (hs : s = itoaS n) : Cm Tryd.prog 40 [.int .i64 n] [] [libF] (rets (.string s)) := by
  rw [hs]; exact itoa_c n h0 h1
theorem formatN_c (n : Int) (h0 : -9223372036854775808 ≤ n) (h1 : n ≤ 9223372036854775807) {s : ByteArray} (hs : s = itoaS n) : Cm Tryd.prog 34 [.int .i64 n, .int .i64 10] [] [libF] (rets (.string s)) := by
  rw [hs]; exact formatInt_c n h0 h1
theorem refText_c (t : Tk) (h1 : 0 ≤ t.1 ∧ t.1 ≤ 1000) (h2 : 0 ≤ t.2.1 ∧ t.2.1 ≤ 1000) (h3 : 0 ≤ t.2.2.1 ∧ t.2.2.1 ≤ 1000) (h4 : 0 ≤ t.2.2.2 ∧ t.2.2.2 ≤ 1099511627776) :
    Cm Tryd.prog 21 [.agg (encT t).toArray] [] [libF] (fun e _ F1 => (∃ r : ByteArray, e = .returned (.string r) ∧ r.data.toList = nameL t) ∧ F1 = []) := by
  refine cm_of (tab := tb) (ok := tbOk) [.g [.v (.int .i64 t.1), .v (.int .i64 t.2.1), .v (.int .i64 t.2.2.1), .v (.int .i64 t.2.2.2)]] Tryd.func21 Tryd.ntmps21 rfl rfl (fun _ _ => rfl) ?_
  intro w0 A0
  have s1 := size_itoaS (z := t.1) (by omega) (by omega)
  have s2 := size_itoaS (z := t.2.1) (by omega) (by omega)
  have s3 := size_itoaS (z := t.2.2.1) (by omega) (by omega)
  have s4 := size_itoaS (z := t.2.2.2) (by omega) (by omega)
  obtain ⟨i1, e1⟩ : ∃ i, i = itoaS t.1 := ⟨_, rfl⟩
  obtain ⟨i2, e2⟩ : ∃ i, i = itoaS t.2.1 := ⟨_, rfl⟩
  obtain ⟨i3, e3⟩ : ∃ i, i = itoaS t.2.2.1 := ⟨_, rfl⟩
  obtain ⟨i4, e4⟩ : ∃ i, i = itoaS t.2.2.2 := ⟨_, rfl⟩
  rw [← e1] at s1
  rw [← e2] at s2
  rw [← e3] at s3
  rw [← e4] at s4
  have d : (ByteArray.mk #[46]).size = 1 := rfl
  obtain ⟨r1, f1⟩ : ∃ r, i1 ++ ⟨#[46]⟩ = r := ⟨_, rfl⟩
  obtain ⟨r2, f2⟩ : ∃ r, r1 ++ i2 = r := ⟨_, rfl⟩
  obtain ⟨r3, f3⟩ : ∃ r, r2 ++ ⟨#[46]⟩ = r := ⟨_, rfl⟩
  obtain ⟨r4, f4⟩ : ∃ r, r3 ++ i3 = r := ⟨_, rfl⟩
  obtain ⟨r5, f5⟩ : ∃ r, r4 ++ ⟨#[46]⟩ = r := ⟨_, rfl⟩
  obtain ⟨r6, f6⟩ : ∃ r, r5 ++ i4 = r := ⟨_, rfl⟩
  have z1 : r1.size ≤ 22 := by rw [← f1, ByteArray.size_append]; omega
  have z2 : r2.size ≤ 43 := by rw [← f2, ByteArray.size_append]; omega
  have z3 : r3.size ≤ 44 := by rw [← f3, ByteArray.size_append]; omega
  have z4 : r4.size ≤ 65 := by rw [← f4, ByteArray.size_append]; omega
  have z5 : r5.size ≤ 66 := by rw [← f5, ByteArray.size_append]; omega
  refine cjs_drawn [2, 6, 11, 16] (.op 0 <| .op 1 <| .op 4 <| .op 5 <| .op 9 <| .op 10 <| .op 14 <| .op 15 <| .op 2 <| .op 3 <| .op 6 <| .op 7 <| .op 8 <| .op 11 <| .op 12 <| .op 13 <| .op 16 <| .op 17 <| .op 18 .z) [0] [] [] [] (by kernel_rfl) (by kernel_rfl) rfl (by simp) (by simp) ?_
  intro N
  refine ojs_call [] [] rfl rfl rfl rfl rfl rfl rfl (by simp) (fun _ => itoaN_c t.1 (by omega) (by omega) e1) (by simp) (.inl rfl) ?_
  rintro e cs F1 _ ⟨rfl, rfl⟩
  refine ⟨⟨(by repeat' (first | exact trivial | refine ⟨Or.inl rfl, ?_⟩ | refine ⟨Or.inr ⟨rfl, Nat.le_of_ble_eq_true rfl, _, rfl, rfl, rfl⟩, ?_⟩)), by simp⟩, ?_⟩
  refine ⟨_, yd_strAdd f1 (by omega) rfl rfl rfl, ?_⟩
  refine ojs_call [] [] rfl rfl rfl rfl rfl rfl rfl (by simp) (fun _ => itoaN_c t.2.1 (by omega) (by omega) e2) (by simp) (.inl rfl) ?_
  rintro e cs F1 _ ⟨rfl, rfl⟩
  refine ⟨⟨(by repeat' (first | exact trivial | refine ⟨Or.inl rfl, ?_⟩ | refine ⟨Or.inr ⟨rfl, Nat.le_of_ble_eq_true rfl, _, rfl, rfl, rfl⟩, ?_⟩)), by simp⟩, ?_⟩
  refine ⟨_, yd_strAdd f2 (by omega) rfl rfl rfl, ?_⟩
  refine ⟨_, yd_strAdd f3 (by omega) rfl rfl rfl, ?_⟩
  refine ojs_call [] [] rfl rfl rfl rfl rfl rfl rfl (by simp) (fun _ => itoaN_c t.2.2.1 (by omega) (by omega) e3) (by simp) (.inl rfl) ?_
  rintro e cs F1 _ ⟨rfl, rfl⟩
  refine ⟨⟨(by repeat' (first | exact trivial | refine ⟨Or.inl rfl, ?_⟩ | refine ⟨Or.inr ⟨rfl, Nat.le_of_ble_eq_true rfl, _, rfl, rfl, rfl⟩, ?_⟩)), by simp⟩, ?_⟩
  refine ⟨_, yd_strAdd f4 (by omega) rfl rfl rfl, ?_⟩
  refine ⟨_, yd_strAdd f5 (by omega) rfl rfl rfl, ?_⟩
  refine ojs_call [] [] rfl rfl rfl rfl rfl rfl rfl (by simp) (fun _ => formatN_c t.2.2.2 (by omega) (by omega) e4) (by simp) (.inl rfl) ?_
  rintro e cs F1 _ ⟨rfl, rfl⟩
  refine ⟨⟨(by repeat' (first | exact trivial | refine ⟨Or.inl rfl, ?_⟩ | refine ⟨Or.inr ⟨rfl, Nat.le_of_ble_eq_true rfl, _, rfl, rfl, rfl⟩, ?_⟩)), by simp⟩, ?_⟩
  refine ⟨_, yd_strAdd f6 (by omega) rfl rfl rfl, ?_⟩
  refine endR_ok [] rfl rfl ⟨rfl, rfl⟩ rfl (fun _ => ⟨⟨r6, rfl, ?_⟩, rfl⟩) (by simp)
  rw [← f6, ← f5, ← f4, ← f3, ← f2, ← f1, e1, e2, e3, e4]
  simp only [data_append, nameL_eq]
  rfl
def cmpI (x y : Int) : Int := if x < y then -1 else if y < x then 1 else 0
theorem isNaN_c (x : Int) : Cm Tryd.prog 66 [.int .i64 x] [] [] (rets (.bool false)) := by
  refine cm_of (tab := tb) (ok := tbOk) [.o (.v (.int .i64 x))] Tryd.func66 Tryd.ntmps66 rfl rfl (fun _ _ => rfl) ?_
  intro w0 A0
  exact endR_ok [] rfl rfl ⟨rfl, rfl⟩ rfl (fun _ => ⟨ret_bool (by simp), rfl⟩) (by simp)
theorem isNaNL_c (x : Int) : Cm Tryd.prog 67 [.int .i64 x] [] [] (rets (.bool false)) := by
  refine cm_of (tab := tb) (ok := tbOk) [.o (.v (.int .i64 x))] Tryd.func67 Tryd.ntmps67 rfl rfl (fun _ _ => rfl) ?_
  intro w0 A0
  exact endR_ok [] rfl rfl ⟨rfl, rfl⟩ rfl (fun _ => ⟨ret_bool (by simp), rfl⟩) (by simp)
theorem cmp_c (x y : Int) : Cm Tryd.prog 45 [.int .i64 x, .int .i64 y] [] [] (rets (.int .i64 (cmpI x y))) := by
  refine cm_of (tab := tb) (ok := tbOk) [.o (.v (.int .i64 x)), .o (.v (.int .i64 y))] Tryd.func45 Tryd.ntmps45 rfl rfl (fun _ _ => rfl) ?_
  intro w0 A0
  refine ojs_call [] [] rfl rfl rfl rfl rfl rfl rfl (by simp) (fun _ => isNaN_c x) (by simp) (.inl rfl) ?_
  rintro e cs F1 _ ⟨rfl, rfl⟩
  refine ojs_call [] [] rfl rfl rfl rfl rfl rfl rfl (by simp) (fun _ => isNaN_c y) (by simp) (.inl rfl) ?_
  rintro e cs F1 _ ⟨rfl, rfl⟩
  refine brB_dec (fun h1 => ?_) (fun h1 => ?_)
  · exact endR_ok [] rfl rfl ⟨rfl, rfl⟩ rfl (fun _ => ⟨by unfold cmpI; rw [if_pos h1]; rfl, rfl⟩) (by simp)
  refine brB_dec (fun h2 => ?_) (fun h2 => ?_)
  · exact endR_ok [] rfl rfl ⟨rfl, rfl⟩ rfl (fun _ => ⟨by unfold cmpI; rw [if_neg h1, if_pos h2]; rfl, rfl⟩) (by simp)
  · exact endR_ok [] rfl rfl ⟨rfl, rfl⟩ rfl (fun _ => ⟨by unfold cmpI; rw [if_neg h1, if_neg h2]; rfl, rfl⟩) (by simp)
theorem cmpL_c (x y : Int) : Cm Tryd.prog 46 [.int .i64 x, .int .i64 y] [] [] (rets (.int .i64 (cmpI x y))) := by
  refine cm_of (tab := tb) (ok := tbOk) [.o (.v (.int .i64 x)), .o (.v (.int .i64 y))] Tryd.func46 Tryd.ntmps46 rfl rfl (fun _ _ => rfl) ?_
  intro w0 A0
  refine ojs_call [] [] rfl rfl rfl rfl rfl rfl rfl (by simp) (fun _ => isNaNL_c x) (by simp) (.inl rfl) ?_
  rintro e cs F1 _ ⟨rfl, rfl⟩
  refine ojs_call [] [] rfl rfl rfl rfl rfl rfl rfl (by simp) (fun _ => isNaNL_c y) (by simp) (.inl rfl) ?_
  rintro e cs F1 _ ⟨rfl, rfl⟩
  refine brB_dec (fun h1 => ?_) (fun h1 => ?_)
  · exact endR_ok [] rfl rfl ⟨rfl, rfl⟩ rfl (fun _ => ⟨by unfold cmpI; rw [if_pos h1]; rfl, rfl⟩) (by simp)
  refine brB_dec (fun h2 => ?_) (fun h2 => ?_)
  · exact endR_ok [] rfl rfl ⟨rfl, rfl⟩ rfl (fun _ => ⟨by unfold cmpI; rw [if_neg h1, if_pos h2]; rfl, rfl⟩) (by simp)
  · exact endR_ok [] rfl rfl ⟨rfl, rfl⟩ rfl (fun _ => ⟨by unfold cmpI; rw [if_neg h1, if_neg h2]; rfl, rfl⟩) (by simp)
def orI : List Int → Int
  | [] => 0
  | x :: r => if x ≠ 0 then x else orI r
theorem orI_zero : ∀ {xs : List Int}, (∀ x ∈ xs, x = 0) → orI xs = 0
  | [], _ => rfl
  | x :: r, h => by
    unfold orI
    rw [if_neg (by simp [h x (List.mem_cons_self ..)])]
    exact orI_zero fun y hy => h y (List.mem_cons_of_mem _ hy)
theorem orI_at : ∀ {xs : List Int} {k : Nat} {x : Int}, xs[k]? = some x → (∀ j y, j < k → xs[j]? = some y → y = 0) → x ≠ 0 → orI xs = x
  | y :: r, 0, x, h, _, hx => by
    simp at h; subst h
    unfold orI; rw [if_pos hx]
  | y :: r, k + 1, x, h, hz, hx => by
    unfold orI
    rw [if_neg (by simp [hz 0 y (by omega) rfl])]
    exact orI_at (k := k) (by simpa using h) (fun j z hj hz' => hz (j + 1) z (by omega) (by simpa using hz')) hx
theorem or_c (a : Option Addr) (cap : Nat) (xs : List Int) (hlen : xs.length ≤ 1000) : Cm Tryd.prog 44 [.slice a xs.length cap] [] [slF encI 1 (.slice a xs.length cap) xs] (rets (.int .i64 (orI xs))) := by
  refine cm_of (tab := tb) (ok := tbOk) [.o (.v (.slice a xs.length cap))] Tryd.func44 Tryd.ntmps44 rfl rfl (fun _ _ => rfl) ?_
  intro w0 A0
  refine cjs_loopP (γ := Nat) (fun k => k ≤ xs.length ∧ ∀ j y, j < k → xs[j]? = some y → y = 0) (fun k => [(8, .o (.v (.int .i64 k)))]) (fun _ => []) (fun _ => []) (fun k => xs.length - k) 0 ⟨Nat.zero_le _, fun j x hj => by omega⟩ (wk_patch (by repeat' (first | exact trivial | exact Or.inl rfl | refine Or.inr ⟨?_, ?_⟩ | rfl | refine ⟨?_, ?_⟩ | exact lt_all_v)) (by repeat' (first | exact trivial | exact Or.inl rfl | refine Or.inr ⟨?_, ?_⟩ | rfl | refine ⟨?_, ?_⟩ | exact lt_all_v)) (by simp) (by simp) D_nil) ?_
  rintro k ⟨hk, hz⟩
  refine brB_dec (fun h1 => ?_) (fun h1 => ?_)
  · obtain ⟨x, hx⟩ := at_some (xs := xs) (k := k) (by omega)
    refine ojs_fact (slF encI 1 (.slice a xs.length cap) xs) (by simp) (slF_ne hx) ?_
    rintro ⟨b, off, rfl⟩
    refine ojs_index rfl (by omega) rfl rfl rfl rfl ?_
    refine ojs_load1 (slF encI 1 (.slice (some ⟨b, off, none⟩) xs.length cap) xs) (by simp) (slF_at hx (j := 0) rfl) rfl rfl rfl ?_
    refine brB_split (fun h2 => ?_) (fun h2 => ?_)
    · exact endR_ok [] rfl rfl ⟨rfl, rfl⟩ rfl (fun _ => ⟨by rw [orI_at hx hz (by simpa using h2)]; rfl, rfl⟩) (by simp)
    · refine ojs_arith (z := ((k + 1 : Nat) : Int)) (by first | decide | (rw [wrap_in] <;> omega) | (dsimp only; rw [wrap_in] <;> omega)) rfl rfl rfl rfl ?_
      refine ⟨k + 1, ⟨by omega, fun j y hj hy => ?_⟩, (by first | omega | (dsimp only; omega)), (wk_patch (by repeat' (first | exact trivial | exact Or.inl rfl | refine Or.inr ⟨?_, ?_⟩ | rfl | refine ⟨?_, ?_⟩ | exact lt_all_v)) (by repeat' (first | exact trivial | exact Or.inl rfl | refine Or.inr ⟨?_, ?_⟩ | rfl | refine ⟨?_, ?_⟩ | exact lt_all_v)) (by simp) (by simp) D_nil)⟩
      rcases Nat.lt_succ_iff_lt_or_eq.1 hj with h | rfl
      · exact hz j y h hy
      · rw [hx] at hy; cases hy; simpa using h2
  · obtain rfl : k = xs.length := by omega
    refine endR_ok [] rfl rfl ⟨rfl, rfl⟩ rfl (fun _ => ⟨?_, rfl⟩) (by simp)
    rw [orI_zero fun x hx => by
      obtain ⟨j, hj⟩ := List.mem_iff_getElem?.1 hx
      exact hz j x (List.getElem?_eq_some_iff.1 hj).1 hj]
    rfl
def lexI : List (Int × Int) → Int
  | [] => 0
  | (x, y) :: r => if x < y then -1 else if y < x then 1 else lexI r
def ordX (a b : Tk) : Int := lexI [(a.2.1, b.2.1), (a.1, b.1), (a.2.2.1, b.2.2.1), (a.2.2.2, b.2.2.2)]
theorem or_lex : ∀ l : List (Int × Int), orI (l.map fun p => cmpI p.1 p.2) = lexI l
  | [] => rfl
  | (x, y) :: r => by
    rw [List.map_cons, orI, lexI, or_lex r]
    dsimp only
    unfold cmpI
    by_cases h1 : x < y
    · simp [h1]
    · by_cases h2 : y < x
      · simp [h1, h2]
      · simp [h1, h2]
theorem order_c (a b : Tk) : Cm Tryd.prog 24 [.agg (encT a).toArray, .agg (encT b).toArray] [] [] (rets (.int .i64 (ordX a b))) := by
  refine cm_of (tab := tb) (ok := tbOk) [.g [.v (.int .i64 a.1), .v (.int .i64 a.2.1), .v (.int .i64 a.2.2.1), .v (.int .i64 a.2.2.2)], .g [.v (.int .i64 b.1), .v (.int .i64 b.2.1), .v (.int .i64 b.2.2.1), .v (.int .i64 b.2.2.2)]] Tryd.func24 Tryd.ntmps24 rfl rfl (fun _ _ => rfl) ?_
  intro w0 A0
  refine cjs_drawn [4, 9, 14, 19, 20, 21] (.op 0 <| .op 1 <| .op 2 <| .op 3 <| .op 5 <| .op 6 <| .op 7 <| .op 8 <| .op 10 <| .op 11 <| .op 12 <| .op 13 <| .op 15 <| .op 16 <| .op 17 <| .op 18 <| .op 4 <| .op 9 <| .op 14 <| .op 19 <| .op 20 <| .op 21 <| .op 22 .z) [0, 1] [] [] [] (by kernel_rfl) (by kernel_rfl) rfl (by simp) (by simp) ?_
  intro N
  refine ojs_call [] [] rfl rfl rfl rfl rfl rfl rfl (by simp) (fun _ => cmp_c a.2.1 b.2.1) (by simp) (.inl rfl) ?_
  rintro e cs F1 _ ⟨rfl, rfl⟩
  refine ⟨⟨(by repeat' (first | exact trivial | refine ⟨Or.inl rfl, ?_⟩ | refine ⟨Or.inr ⟨rfl, Nat.le_of_ble_eq_true rfl, _, rfl, rfl, rfl⟩, ?_⟩)), by simp⟩, ?_⟩
  refine ojs_call [] [] rfl rfl rfl rfl rfl rfl rfl (by simp) (fun _ => cmp_c a.1 b.1) (by simp) (.inl rfl) ?_
  rintro e cs F1 _ ⟨rfl, rfl⟩
  refine ⟨⟨(by repeat' (first | exact trivial | refine ⟨Or.inl rfl, ?_⟩ | refine ⟨Or.inr ⟨rfl, Nat.le_of_ble_eq_true rfl, _, rfl, rfl, rfl⟩, ?_⟩)), by simp⟩, ?_⟩
  refine ojs_call [] [] rfl rfl rfl rfl rfl rfl rfl (by simp) (fun _ => cmp_c a.2.2.1 b.2.2.1) (by simp) (.inl rfl) ?_
  rintro e cs F1 _ ⟨rfl, rfl⟩
  refine ⟨⟨(by repeat' (first | exact trivial | refine ⟨Or.inl rfl, ?_⟩ | refine ⟨Or.inr ⟨rfl, Nat.le_of_ble_eq_true rfl, _, rfl, rfl, rfl⟩, ?_⟩)), by simp⟩, ?_⟩
  refine ojs_call [] [] rfl rfl rfl rfl rfl rfl rfl (by simp) (fun _ => cmpL_c a.2.2.2 b.2.2.2) (by simp) (.inl rfl) ?_
  rintro e cs F1 _ ⟨rfl, rfl⟩
  refine ⟨⟨(by repeat' (first | exact trivial | refine ⟨Or.inl rfl, ?_⟩ | refine ⟨Or.inr ⟨rfl, Nat.le_of_ble_eq_true rfl, _, rfl, rfl, rfl⟩, ?_⟩)), by simp⟩, ?_⟩
  refine ⟨⟨(by repeat' (first | exact trivial | refine ⟨Or.inl rfl, ?_⟩ | refine ⟨Or.inr ⟨rfl, Nat.le_of_ble_eq_true rfl, _, rfl, rfl, rfl⟩, ?_⟩)), by simp⟩, ?_⟩
  have ct : ∀ ρ : Nm, Cm Tryd.prog 44 [.slice (some ⟨ρ 2, 0, none⟩) 4 4] [] [blkF (ρ 2) [.int .i64 (cmpI a.2.1 b.2.1), .int .i64 (cmpI a.1 b.1), .int .i64 (cmpI a.2.2.1 b.2.2.1), .int .i64 (cmpI a.2.2.2 b.2.2.2)] 3] (rets (.int .i64 (ordX a b))) := fun ρ => by
    have := or_c (some ⟨ρ 2, 0, none⟩) 4 [cmpI a.2.1 b.2.1, cmpI a.1 b.1, cmpI a.2.2.1 b.2.2.1, cmpI a.2.2.2 b.2.2.2] (by simp)
    rw [show orI [cmpI a.2.1 b.2.1, cmpI a.1 b.1, cmpI a.2.2.1 b.2.2.1, cmpI a.2.2.2 b.2.2.2] = ordX a b from or_lex [(a.2.1, b.2.1), (a.1, b.1), (a.2.2.1, b.2.2.1), (a.2.2.2, b.2.2.2)]] at this
    exact this.facts fun A w => facts_cons (fun h => slF_blk (f := Value.int .i64) (by rfl) (h _ (List.mem_cons_self ..))) (by simp)
  refine ojs_call [2] [] rfl rfl rfl rfl rfl rfl rfl (by simp) (fun ρ => ct ρ) (by simp) (.inr (by rintro e cs F1 ⟨_, rfl⟩; rfl)) ?_
  rintro e cs F1 _ ⟨rfl, rfl⟩
  refine ⟨⟨(by repeat' (first | exact trivial | refine ⟨Or.inl rfl, ?_⟩ | refine ⟨Or.inr ⟨rfl, Nat.le_of_ble_eq_true rfl, _, rfl, rfl, rfl⟩, ?_⟩)), by simp⟩, ?_⟩
  exact endR_ok [] rfl rfl ⟨rfl, rfl⟩ rfl (fun _ => ⟨rfl, rfl⟩) (by simp)
set_option maxHeartbeats 1000000 in
theorem refOrder_c (a b : Tk) : Cm Tryd.prog 25 [.agg (encT a).toArray, .agg (encT b).toArray] [] [] (rets (.int .i64 (ordX a b))) := by
  refine cm_of (tab := tb) (ok := tbOk) [.g [.v (.int .i64 a.1), .v (.int .i64 a.2.1), .v (.int .i64 a.2.2.1), .v (.int .i64 a.2.2.2)], .g [.v (.int .i64 b.1), .v (.int .i64 b.2.1), .v (.int .i64 b.2.2.1), .v (.int .i64 b.2.2.2)]] Tryd.func25 Tryd.ntmps25 rfl rfl (fun _ _ => rfl) ?_
  intro w0 A0
  refine optK_of (yd_buildA rfl rfl rfl rfl rfl) ?_
  refine optK_of (yd_buildA rfl rfl rfl rfl rfl) ?_
  refine cjs_turns 5 ?_
  refine cjs_drawn [] (.op 0 <| .op 1 <| .op 2 <| .op 3 <| .op 4 <| .op 5 <| .op 6 .z) [2, 3] [] [] [] (by kernel_rfl) (by kernel_rfl) rfl (by simp) (by simp) ?_
  intro N
  refine ⟨_, yd_indexA (i := 0) rfl (by decide) rfl rfl rfl rfl, ?_⟩
  refine ⟨_, yd_indexA (i := 0) rfl (by decide) rfl rfl rfl rfl, ?_⟩
  refine brB_dec (fun h1 => ?_) (fun h1 => ?_)
  · exact endR_ok [] rfl rfl ⟨rfl, rfl⟩ rfl (fun _ => ⟨by unfold ordX; simp only [lexI]; rw [if_pos h1]; rfl, rfl⟩) (by simp)
  refine cjs_drawn [] (.op 0 <| .op 1 <| .op 2 <| .op 3 <| .op 4 <| .op 5 <| .op 6 .z) [2, 3] [] [] [] (by kernel_rfl) (by kernel_rfl) rfl (by simp) (by simp) ?_
  intro N
  refine ⟨_, yd_indexA (i := 0) rfl (by decide) rfl rfl rfl rfl, ?_⟩
  refine ⟨_, yd_indexA (i := 0) rfl (by decide) rfl rfl rfl rfl, ?_⟩
  refine brB_dec (fun g1 => ?_) (fun g1 => ?_)
  · exact endR_ok [] rfl rfl ⟨rfl, rfl⟩ rfl (fun _ => ⟨by unfold ordX; simp only [lexI]; rw [if_neg h1, if_pos g1]; rfl, rfl⟩) (by simp)
  refine ojs_arith (z := (((0 + 1 : Nat)) : Int)) (by first | decide | (rw [wrap_in] <;> omega) | (dsimp only; rw [wrap_in] <;> omega)) rfl rfl rfl rfl ?_
  refine cjs_drawn [] (.op 0 <| .op 1 <| .op 2 <| .op 3 <| .op 4 <| .op 5 <| .op 6 .z) [2, 3] [] [] [] (by kernel_rfl) (by kernel_rfl) rfl (by simp) (by simp) ?_
  intro N
  refine ⟨_, yd_indexA (i := 1) rfl (by decide) rfl rfl rfl rfl, ?_⟩
  refine ⟨_, yd_indexA (i := 1) rfl (by decide) rfl rfl rfl rfl, ?_⟩
  refine brB_dec (fun h2 => ?_) (fun h2 => ?_)
  · exact endR_ok [] rfl rfl ⟨rfl, rfl⟩ rfl (fun _ => ⟨by unfold ordX; simp only [lexI]; rw [if_neg h1, if_neg g1, if_pos h2]; rfl, rfl⟩) (by simp)
  refine cjs_drawn [] (.op 0 <| .op 1 <| .op 2 <| .op 3 <| .op 4 <| .op 5 <| .op 6 .z) [2, 3] [] [] [] (by kernel_rfl) (by kernel_rfl) rfl (by simp) (by simp) ?_
  intro N
  refine ⟨_, yd_indexA (i := 1) rfl (by decide) rfl rfl rfl rfl, ?_⟩
  refine ⟨_, yd_indexA (i := 1) rfl (by decide) rfl rfl rfl rfl, ?_⟩
  refine brB_dec (fun g2 => ?_) (fun g2 => ?_)
  · exact endR_ok [] rfl rfl ⟨rfl, rfl⟩ rfl (fun _ => ⟨by unfold ordX; simp only [lexI]; rw [if_neg h1, if_neg g1, if_neg h2, if_pos g2]; rfl, rfl⟩) (by simp)
  refine ojs_arith (z := (((1 + 1 : Nat)) : Int)) (by first | decide | (rw [wrap_in] <;> omega) | (dsimp only; rw [wrap_in] <;> omega)) rfl rfl rfl rfl ?_
  refine cjs_drawn [] (.op 0 <| .op 1 <| .op 2 <| .op 3 <| .op 4 <| .op 5 <| .op 6 .z) [2, 3] [] [] [] (by kernel_rfl) (by kernel_rfl) rfl (by simp) (by simp) ?_
  intro N
  refine ⟨_, yd_indexA (i := 2) rfl (by decide) rfl rfl rfl rfl, ?_⟩
  refine ⟨_, yd_indexA (i := 2) rfl (by decide) rfl rfl rfl rfl, ?_⟩
  refine brB_dec (fun h3 => ?_) (fun h3 => ?_)
  · exact endR_ok [] rfl rfl ⟨rfl, rfl⟩ rfl (fun _ => ⟨by unfold ordX; simp only [lexI]; rw [if_neg h1, if_neg g1, if_neg h2, if_neg g2, if_pos h3]; rfl, rfl⟩) (by simp)
  refine cjs_drawn [] (.op 0 <| .op 1 <| .op 2 <| .op 3 <| .op 4 <| .op 5 <| .op 6 .z) [2, 3] [] [] [] (by kernel_rfl) (by kernel_rfl) rfl (by simp) (by simp) ?_
  intro N
  refine ⟨_, yd_indexA (i := 2) rfl (by decide) rfl rfl rfl rfl, ?_⟩
  refine ⟨_, yd_indexA (i := 2) rfl (by decide) rfl rfl rfl rfl, ?_⟩
  refine brB_dec (fun g3 => ?_) (fun g3 => ?_)
  · exact endR_ok [] rfl rfl ⟨rfl, rfl⟩ rfl (fun _ => ⟨by unfold ordX; simp only [lexI]; rw [if_neg h1, if_neg g1, if_neg h2, if_neg g2, if_neg h3, if_pos g3]; rfl, rfl⟩) (by simp)
  refine ojs_arith (z := (((2 + 1 : Nat)) : Int)) (by first | decide | (rw [wrap_in] <;> omega) | (dsimp only; rw [wrap_in] <;> omega)) rfl rfl rfl rfl ?_
  refine cjs_drawn [] (.op 0 <| .op 1 <| .op 2 <| .op 3 <| .op 4 <| .op 5 <| .op 6 .z) [2, 3] [] [] [] (by kernel_rfl) (by kernel_rfl) rfl (by simp) (by simp) ?_
  intro N
  refine ⟨_, yd_indexA (i := 3) rfl (by decide) rfl rfl rfl rfl, ?_⟩
  refine ⟨_, yd_indexA (i := 3) rfl (by decide) rfl rfl rfl rfl, ?_⟩
  refine brB_dec (fun h4 => ?_) (fun h4 => ?_)
  · exact endR_ok [] rfl rfl ⟨rfl, rfl⟩ rfl (fun _ => ⟨by unfold ordX; simp only [lexI]; rw [if_neg h1, if_neg g1, if_neg h2, if_neg g2, if_neg h3, if_neg g3, if_pos h4]; rfl, rfl⟩) (by simp)
  refine cjs_drawn [] (.op 0 <| .op 1 <| .op 2 <| .op 3 <| .op 4 <| .op 5 <| .op 6 .z) [2, 3] [] [] [] (by kernel_rfl) (by kernel_rfl) rfl (by simp) (by simp) ?_
  intro N
  refine ⟨_, yd_indexA (i := 3) rfl (by decide) rfl rfl rfl rfl, ?_⟩
  refine ⟨_, yd_indexA (i := 3) rfl (by decide) rfl rfl rfl rfl, ?_⟩
  refine brB_dec (fun g4 => ?_) (fun g4 => ?_)
  · exact endR_ok [] rfl rfl ⟨rfl, rfl⟩ rfl (fun _ => ⟨by unfold ordX; simp only [lexI]; rw [if_neg h1, if_neg g1, if_neg h2, if_neg g2, if_neg h3, if_neg g3, if_neg h4, if_pos g4]; rfl, rfl⟩) (by simp)
  refine ojs_arith (z := (((3 + 1 : Nat)) : Int)) (by first | decide | (rw [wrap_in] <;> omega) | (dsimp only; rw [wrap_in] <;> omega)) rfl rfl rfl rfl ?_
  exact endR_ok [] rfl rfl ⟨rfl, rfl⟩ rfl (fun _ => ⟨by simp only [ordX, lexI, if_neg h1, if_neg g1, if_neg h2, if_neg g2, if_neg h3, if_neg g3, if_neg h4, if_neg g4]; rfl, rfl⟩) (by simp)

end Go.Proofs.YtehfodoocfpkoaaDoor
