/- Reports, by the symbolic run: those of a node. -/
import Derived.Test.YtnkpmeplapkobaaRpE
namespace Go.Proofs.Ytnkpmeplapkobaa
open Go.RowKit Go.Shelf

def bkV (x : Bk) : Value := .agg #[.int .i64 x.1, .int .i64 x.2.1, .int .i64 x.2.2]
def notP (node : Int) (x : Bk) : Bool := x.2.1 != node
theorem of1_c (x : Bk) (node : Int) (b : Nat) : Cm Try.prog 44 [bkV x, .pointer (some ⟨b, 0, none⟩)] [] [blkF b [.int .i64 node] 3] (rets (.bool (notP node x))) := by
  refine cm_of (tab := tb) (ok := tbOk) [.g [.v (.int .i64 x.1), .v (.int .i64 x.2.1), .v (.int .i64 x.2.2)], .o (.v (.pointer (some ⟨b, 0, none⟩)))] Try.func44 Try.ntmps44 rfl rfl (fun _ _ => rfl) ?_
  intro w0 A0
  refine ojs_load1 (v := .int .i64 node) (blkF b [.int .i64 node] 3) (by simp) (fun A w h => by have := cell_of_list (o := 0) h.2; simpa using this) rfl rfl rfl ?_
  exact endR_ok [] rfl rfl ⟨rfl, rfl⟩ rfl (fun _ => ⟨rfl, rfl⟩) (by simp)
def idxP (p : Bk → Bool) (xs : List Bk) : Int := match xs.findIdx? p with | some i => (i : Int) | none => -1
theorem indexFunc_c (a : Option Addr) (cap : Nat) (xs : List Bk) (node : Int) (b : Nat) (hlen : xs.length ≤ 1000) :
    Cm Try.prog 48 [.slice a xs.length cap, .func (.func 44) #[] #[.pointer (some ⟨b, 0, none⟩)]] [] [slF encB 3 (.slice a xs.length cap) xs, blkF b [.int .i64 node] 3] (rets (.int .i64 (idxP (notP node) xs))) := by
  refine cm_of (tab := tb) (ok := tbOk) [.o (.v (.slice a xs.length cap)), .o (.v (.func (.func 44) #[] #[.pointer (some ⟨b, 0, none⟩)]))] Try.func48 Try.ntmps48 rfl rfl (fun _ _ => rfl) ?_
  intro w0 A0
  refine cjs_loop (γ := Nat) (fun k => k ≤ xs.length ∧ ∀ j x, j < k → xs[j]? = some x → notP node x = false) (fun k => ⟨[(0, .o (.v (.slice a xs.length cap))), (1, .o (.v (.func (.func 44) #[] #[.pointer (some ⟨b, 0, none⟩)]))), (7, .o (.v (.int .i64 xs.length))), (8, .o (.v (.int .i64 k)))], [], 0, [slF encB 3 (.slice a xs.length cap) xs, blkF b [.int .i64 node] 3], fun _ => []⟩) (fun k => xs.length - k) 0 ⟨by omega, fun j r hj => by omega⟩ (wk_same (by repeat' (first | exact trivial | rfl | refine ⟨?_, ?_⟩ | exact lt_all_v | exact (congrArg some idN_ren_lc.symm) | omega)) (by repeat' (first | exact trivial | rfl | refine ⟨?_, ?_⟩ | exact lt_all_v | exact (congrArg some idN_ren_lc.symm) | omega)) (by simp) (by simp)) ?_
  rintro k ⟨hk, hno⟩
  refine brB_dec (fun h => ?_) (fun h => ?_)
  · obtain ⟨x, hx⟩ := at_some (xs := xs) (k := k) (by omega)
    refine ojs_fact (slF encB 3 (.slice a xs.length cap) xs) (by simp) (fun A w hF => slF_addr hF (by intro e; rw [e] at hx; simp at hx)) ?_
    rintro ⟨b', off, rfl⟩
    refine ojs_index rfl (by omega) rfl rfl rfl rfl ?_
    refine ojs_loadN (vs := [.int .i64 x.1, .int .i64 x.2.1, .int .i64 x.2.2]) (slF encB 3 (.slice (some ⟨b', off, none⟩) xs.length cap) xs) (by simp) (fun A w h j u hu => slF_at hx hu A w h) rfl rfl rfl ?_
    refine ojs_call [] [] rfl rfl rfl rfl rfl rfl rfl (by simp) (fun _ => of1_c x node b) (by simp) (.inl rfl) ?_
    rintro e cs F1 _ ⟨rfl, rfl⟩
    cases hp : notP node x
    · refine ojs_arith (z := ((k + 1 : Nat) : Int)) (by rw [wrap_in] <;> omega) rfl rfl rfl rfl ?_
      refine ⟨k + 1, ⟨by omega, fun j y hj hy => ?_⟩, by dsimp only; omega, wk_same (by repeat' (first | exact trivial | rfl | refine ⟨?_, ?_⟩ | exact lt_all_v | exact (congrArg some idN_ren_lc.symm) | omega)) (by repeat' (first | exact trivial | rfl | refine ⟨?_, ?_⟩ | exact lt_all_v | exact (congrArg some idN_ren_lc.symm) | omega)) (by simp) (by simp)⟩
      rcases Nat.lt_succ_iff_lt_or_eq.1 hj with h | rfl
      · exact hno j y h hy
      · rw [hx] at hy; cases hy; exact hp
    · refine endR_ok [] rfl rfl ⟨rfl, rfl⟩ rfl (fun _ => ⟨?_, rfl⟩) (by simp)
      have : xs.findIdx? (notP node) = some k := by
        rw [List.findIdx?_eq_some_iff_getElem]
        obtain ⟨hkl, hxe⟩ := List.getElem?_eq_some_iff.1 hx
        refine ⟨hkl, by rw [hxe]; exact hp, fun j hj => ?_⟩
        rw [hno j _ hj (List.getElem?_eq_getElem (by omega))]
        simp
      unfold idxP
      rw [this]
      rfl
  · obtain rfl : k = xs.length := by omega
    refine endR_ok [] rfl rfl ⟨rfl, rfl⟩ rfl (fun _ => ⟨?_, rfl⟩) (by simp)
    have : xs.findIdx? (notP node) = none := by
      rw [List.findIdx?_eq_none_iff]
      intro x hx
      obtain ⟨j, hj⟩ := List.mem_iff_getElem?.1 hx
      exact hno j x (List.getElem?_eq_some_iff.1 hj).1 hj
    unfold idxP
    rw [this]
    rfl

set_option maxHeartbeats 1000000 in
theorem cloneB_any (w : World) (sv : Value) (xs : List Bk) (hlen : xs.length ≤ 1099511627776) (hS : Sl encB 3 w sv xs) :
    Calls Try.prog 43 #[sv] w fun e w' => ∃ v, e = .returned v ∧ w'.ownsRow w.heap.size 44 3 v xs.length (xs.flatMap encB) ∧ Below w.heap.size w w' := by
  obtain ⟨a, cap, rfl⟩ := hS.shape
  obtain ⟨i0, hi, hz0, hz1, hz2⟩ := info_parts Try.infoB
  cases a with
  | none =>
    obtain rfl := hS.nil_of_none
    have heq := fun w' => Lib.run_eql_slice_nil (P := Try.prog) w' 38 44 none 0 cap 0 0 Try.underlying38
    go_enter Try.func43, Try.ntmps43
    go_wp2
    go_ret
    exact ⟨_, rfl, World.ownsRow_nil _ _ _ _, Below.refl _ _⟩
  | some ad =>
    have heq := fun w' => Lib.run_eql_slice_nil (P := Try.prog) w' 38 44 (some ad) xs.length cap 0 0 Try.underlying38
    have hnews := (hS.below (w' := w.alloc (.cells #[] 44)) (by (repeat (first | (with_reducible exact Below.refl _ _) | (with_reducible assumption) | (with_reducible refine below_drewN ?_ _) | (with_reducible refine Below.drew ?_) | ((with_reducible refine Below.alloc ?_ ?_ _); rotate_left; focus (first | (with_reducible exact Nat.le_refl _) | omega | (simp; done) | (simp; omega))) | ((with_reducible refine Below.setCell (p := ⟨_, _, _⟩) ?_ ?_ _); rotate_left; focus (first | (with_reducible exact Nat.le_refl _) | omega | (simp; done) | (simp; omega))))))).news encB_len
    have hfl := flat_length encB_len xs
    have Hfl := Lib.hid hfl
    have Hnews := Lib.hid hnews
    clear hfl hnews hS
    have hown := World.ownsRow_made (w := w) (base := w.heap.size) (e := 44) (size := 3) #[] 0 (Nat.le_refl _) (by decide) rfl
    have Hown := Lib.hid hown
    clear hown
    go_enter Try.func43, Try.ntmps43
    go_wp2_with (at_builtin; refine wpList_append_own _ rfl _ _ 38 rfl w.heap.size 44 i0 (.agg #[.int .i64 0, .int .i64 0, .int .i64 0]) 3 24 Try.underlying38 hi hz0 hz1 hz2 rfl (by decide) _ _ _ rfl Hown.out ad xs.length cap (xs.flatMap encB) rfl Hfl.out Hnews.out encB_one (by unfold maxLen; omega) (by omega) (by simp) ?_; intro v' w1 hown' hgrow _; have hv' := Lib.hid hown'; clear hown')
    go_ret
    refine ⟨v', rfl, by simpa using hv'.out, ((Below.refl _ w).alloc (Nat.le_refl _) _).grown hgrow (by simp) (fun k e => ?_)⟩
    have e1 : w.heap.size = k := Option.some.inj (show some w.heap.size = some k from e)
    omega
theorem cloneB_co (a : Option Addr) (cap : Nat) (xs : List Bk) (hlen : xs.length ≤ 1099511627776) : Co Try.prog 43 [.slice a xs.length cap] [slF encB 3 (.slice a xs.length cap) xs] id 44 3 xs.length (xs.flatMap encB) :=
  fun _ w hA hF => cloneB_any w _ xs hlen (slF_sl (hF _ (List.mem_singleton.2 rfl)) hA)

theorem refOf_c (a : Option Addr) (cap : Nat) (xs : List Bk) (node : Int) (hlen : xs.length ≤ 1000) :
    Cm Try.prog 25 [.slice a xs.length cap, .int .i64 node] [] [slF encB 3 (.slice a xs.length cap) xs] (fun e _ F1 => ∃ a' c', e = .returned (.slice a' (xs.filter fun x => !notP node x).length c') ∧ F1 = [slF encB 3 (.slice a' (xs.filter fun x => !notP node x).length c') (xs.filter fun x => !notP node x)]) := by
  refine cm_of (tab := tb) (ok := tbOk) [.o (.v (.slice a xs.length cap)), .o (.v (.int .i64 node))] Try.func25 Try.ntmps25 rfl rfl (fun _ _ => rfl) ?_
  intro w0 A0
  refine cjs_weak (wk_own 44 3) ?_
  obtain ⟨fl, hfl⟩ : ∃ fl : Nat → List Bk, fl = fun k => (xs.take k).filter fun x => !notP node x := ⟨_, rfl⟩
  have hfl0 : fl 0 = [] := by rw [hfl]; simp
  have hflen : ∀ k, (fl k).length ≤ 1000 := fun k => by rw [hfl]; exact Nat.le_trans (List.length_filter_le _ _) (by rw [List.length_take]; omega)
  refine cjs_loop (γ := Nat × Option Addr × Nat) (fun g => g.1 ≤ xs.length) (fun g => ⟨[(0, .o (.v (.slice a xs.length cap))), (1, .o (.v (.int .i64 node))), (5, .o (.v (.slice g.2.1 (fl g.1).length g.2.2))), (6, .o (.v (.int .i64 g.1)))], [(0, .own (.slice g.2.1 (fl g.1).length g.2.2) 44 3 (fl g.1).length ((fl g.1).flatMap encB))], 1, [slF encB 3 (.slice a xs.length cap) xs], fun _ => []⟩) (fun g => xs.length - g.1) (0, none, 0) (Nat.zero_le _) ?_ ?_
  · dsimp only
    rw [hfl0]
    exact wk_same (by repeat' (first | exact trivial | rfl | refine ⟨?_, ?_⟩ | exact lt_all_v | exact (congrArg some idN_ren_lc.symm) | omega)) (by repeat' (first | exact trivial | rfl | refine ⟨?_, ?_⟩ | exact lt_all_v | exact (congrArg some idN_ren_lc.symm) | omega)) (by simp) (by simp)
  rintro ⟨k, a1, c1⟩ hk
  simp only at hk
  have hf := hflen k
  refine brB_dec (fun h => ?_) (fun h => ?_)
  · have hkl : k < xs.length := by dsimp only at h; omega
    obtain ⟨x, hx⟩ := at_some (xs := xs) (k := k) hkl
    have hst : fl (k + 1) = fl k ++ if !notP node x then [x] else [] := by
      rw [hfl]; dsimp only
      rw [take_snoc hx, List.filter_append]
      simp only [List.filter_cons, List.filter_nil]
    refine ojs_fact (slF encB 3 (.slice a xs.length cap) xs) (by simp) (fun A w hF => slF_addr hF (by intro e; rw [e] at hx; simp at hx)) ?_
    rintro ⟨b', off, rfl⟩
    refine ojs_index rfl hkl rfl rfl rfl rfl ?_
    refine ojs_load1 (slF encB 3 (.slice (some ⟨b', off, none⟩) xs.length cap) xs) (by simp) (slF_at hx (j := 1) rfl) rfl rfl rfl ?_
    refine brB_split (fun hn => ?_) (fun hn => ?_)
    · have hn : notP node x = false := by simp at hn; simp [notP, hn]
      rw [hn] at hst
      simp only [Bool.not_false, if_true] at hst
      refine ojs_index rfl hkl rfl rfl rfl rfl ?_
      refine ojs_loadN (vs := [.int .i64 x.1, .int .i64 x.2.1, .int .i64 x.2.2]) (slF encB 3 (.slice (some ⟨b', off, none⟩) xs.length cap) xs) (by simp) (fun A w h j u hu => slF_at hx hu A w h) rfl rfl rfl ?_
      refine ojs_append 0 rfl rfl rfl rfl rfl rfl rfl rfl rfl (by omega) rfl rfl rfl (srcL (news := [.int .i64 x.1, .int .i64 x.2.1, .int .i64 x.2.2]) rfl rfl) rfl (by simp [Value.oneCell']) (by dsimp only; omega) (by dsimp only; simp [maxLen]; omega) ?_
      intro a3 c3
      refine ojs_arith (z := ((k + 1 : Nat) : Int)) (by rw [wrap_in] <;> omega) rfl rfl rfl rfl ?_
      refine ⟨(k + 1, a3, c3), by dsimp only; omega, by dsimp only; omega, ?_⟩
      have e1 : (fl (k + 1)).length = (fl k).length + 1 := by rw [hst]; simp
      have e2 : (fl (k + 1)).flatMap encB = (fl k).flatMap encB ++ [.int .i64 x.1, .int .i64 x.2.1, .int .i64 x.2.2] := by rw [hst]; simp [encB]
      dsimp only
      rw [e1, e2]
      exact wk_same (by repeat' (first | exact trivial | rfl | refine ⟨?_, ?_⟩ | exact lt_all_v | exact (congrArg some idN_ren_lc.symm) | omega)) (by repeat' (first | exact trivial | rfl | refine ⟨?_, ?_⟩ | exact lt_all_v | exact (congrArg some idN_ren_lc.symm) | omega)) (by simp) (by simp)
    · have hn : notP node x = true := by simp at hn; simp [notP, hn]
      rw [hn] at hst
      simp only [Bool.not_true, Bool.false_eq_true, if_false, List.append_nil] at hst
      refine ojs_arith (z := ((k + 1 : Nat) : Int)) (by rw [wrap_in] <;> omega) rfl rfl rfl rfl ?_
      refine ⟨(k + 1, a1, c1), by dsimp only; omega, by dsimp only; omega, ?_⟩
      dsimp only
      rw [hst]
      exact wk_same (by repeat' (first | exact trivial | rfl | refine ⟨?_, ?_⟩ | exact lt_all_v | exact (congrArg some idN_ren_lc.symm) | omega)) (by repeat' (first | exact trivial | rfl | refine ⟨?_, ?_⟩ | exact lt_all_v | exact (congrArg some idN_ren_lc.symm) | omega)) (by simp) (by simp)
  · obtain rfl : k = xs.length := by dsimp only at h; omega
    have hfe : fl xs.length = xs.filter fun x => !notP node x := by rw [hfl]; simp
    dsimp only
    rw [hfe]
    refine endR_weak (wk_seal (j := 0) (enc := encB) (xs := xs.filter fun x => !notP node x) (.inl rfl) encB_len rfl rfl) ?_
    refine endR_ok [slF encB 3 (.slice a1 (xs.filter fun x => !notP node x).length c1) (xs.filter fun x => !notP node x)] rfl rfl ⟨rfl, rfl⟩ rfl (fun _ => ?_) (by simp)
    exact ⟨_, _, rfl, rfl⟩

end Go.Proofs.Ytnkpmeplapkobaa
