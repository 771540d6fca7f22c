/- Acts, by the symbolic run: Each, Acts. -/
import Derived.Test.YthnkjgffahkecaaGreatScM
namespace Go.Proofs.YthnkjgffahkecaaGreat
open Go.RowKit Go.Shelf

theorem own_blk {W : World} {base : Nat} {e : TypeId} {k : Nat} {v : Value} {n : Nat} {xs : List Value} (h : W.ownsRow base e k v n xs) : ∀ g, v.ownBlock = some g → base ≤ g := by
  intro g hg
  rcases h.2 with ⟨rfl, _⟩ | ⟨g', cap, cur, rfl, hb, hh, _⟩
  · simp [Value.ownBlock] at hg
  · simp only [Value.ownBlock, Option.some.injEq] at hg
    subst hg
    exact hb
def natI (l : List Nat) : List Int := l.map (fun p => ((p : Nat) : Int))

set_option maxRecDepth 100000 in
set_option maxHeartbeats 2000000 in
theorem cm_ownR {α : Type} {P : Program} {g : FuncId} {args : List Value} {F0 : List Fact} {enc : α → List Value} {xs : List α} {k : Nat} {ty : TypeId} (hk : ∀ x, (enc x).length = k)
    (h : ∀ A w, (∀ b, A b → b < w.heap.size) → (∀ f ∈ F0, f.h A w) → Calls P g args.toArray w fun e w' => ∃ r, e = .returned r ∧ w'.ownsRow w.heap.size ty k r xs.length (xs.flatMap enc) ∧ Below w.heap.size w w') :
    Cm P g args [] F0 (fun e _ F1 => ∃ a c, e = .returned (.slice a xs.length c) ∧ F1 = [slF enc k (.slice a xs.length c) xs]) := by
  intro A w _ _ hA hF
  refine (h A w hA hF).mono ?_
  rintro e w' ⟨r, rfl, hown, hb⟩
  have hS := Sl.of_owns hk hown
  have hbk := own_blk hown
  obtain ⟨a, c, rfl, h2, h3⟩ := hS
  refine ⟨[], _, ⟨a, c, rfl, rfl⟩, Kp.of_below hb, rfl, fun i x c hx => by simp at hx, fun b => w.heap.size ≤ b ∧ b < w'.heap.size, fun b h => .inr h.1, fun b h => h.2, fun f hf => ?_⟩
  cases List.mem_singleton.1 hf
  refine ⟨a, c, rfl, h2, h3.imp id ?_⟩
  rintro ⟨b, off, rfl, h5, h6⟩
  exact ⟨b, off, rfl, ⟨hbk b rfl, h5⟩, h6⟩
theorem Tryz.infoY : (Tryz.prog.info? 5).map (fun i => (i.zero, i.size, i.bytes)) = some (some (.int .u8 0), 1, 1) := by kernel_rfl
theorem byE_one {xs : List Int} : ∀ u ∈ xs.flatMap byE, u.oneCell' = true := by
  intro u hu
  obtain ⟨x, _, hx⟩ := List.mem_flatMap.1 hu
  simp only [byE, List.mem_cons, List.not_mem_nil, or_false] at hx
  subst hx; rfl
set_option maxHeartbeats 1000000 in
theorem cloneY_any (w : World) (sv : Value) (xs : List Int) (hlen : xs.length ≤ 1099511627776) (hS : Sl byE 1 w sv xs) :
    Calls Tryz.prog 23 #[sv] w fun e w' => ∃ v, e = .returned v ∧ w'.ownsRow w.heap.size 5 1 v xs.length (xs.flatMap byE) ∧ Below w.heap.size w w' := by
  obtain ⟨a, cap, rfl⟩ := hS.shape
  obtain ⟨i0, hi, hz0, hz1, hz2⟩ := info_parts Tryz.infoY
  cases a with
  | none =>
    obtain rfl := hS.nil_of_none
    have heq := fun w' => Lib.run_eql_slice_nil (P := Tryz.prog) w' 41 5 none 0 cap 0 0 Tryz.underlying41
    go_enter Tryz.func23, Tryz.ntmps23
    go_wp2
    go_ret
    exact ⟨_, rfl, World.ownsRow_nil _ _ _ _, Below.refl _ _⟩
  | some ad =>
    have heq := fun w' => Lib.run_eql_slice_nil (P := Tryz.prog) w' 41 5 (some ad) xs.length cap 0 0 Tryz.underlying41
    have hnews := (hS.below (w' := w.alloc (.cells #[] 5)) (by (repeat (first | (with_reducible exact Below.refl _ _) | (with_reducible assumption) | (with_reducible refine below_drewN ?_ _) | (with_reducible refine Below.drew ?_) | ((with_reducible refine Below.alloc ?_ ?_ _); rotate_left; focus (first | (with_reducible exact Nat.le_refl _) | omega | (simp; done) | (simp; omega))) | ((with_reducible refine Below.setCell (p := ⟨_, _, _⟩) ?_ ?_ _); rotate_left; focus (first | (with_reducible exact Nat.le_refl _) | omega | (simp; done) | (simp; omega))))))).news byE_len
    have hfl := flat_length byE_len xs
    have Hfl := Lib.hid hfl
    have Hnews := Lib.hid hnews
    clear hfl hnews hS
    have hown := World.ownsRow_made (w := w) (base := w.heap.size) (e := 5) (size := 1) #[] 0 (Nat.le_refl _) (by decide) rfl
    have Hown := Lib.hid hown
    clear hown
    go_enter Tryz.func23, Tryz.ntmps23
    go_wp2_with (at_builtin; refine wpList_append_own _ rfl _ _ 41 rfl w.heap.size 5 i0 (.int .u8 0) 1 1 Tryz.underlying41 hi hz0 hz1 hz2 rfl (by decide) _ _ _ rfl Hown.out ad xs.length cap (xs.flatMap byE) rfl Hfl.out Hnews.out byE_one (by unfold maxLen; omega) (by omega) (by simp) ?_; intro v' w1 hown' hgrow _; have hv' := Lib.hid hown'; clear hown')
    go_ret
    refine ⟨v', rfl, by simpa using hv'.out, ((Below.refl _ w).alloc (Nat.le_refl _) _).grown hgrow (by simp) (fun k e => ?_)⟩
    have e1 : w.heap.size = k := Option.some.inj (show some w.heap.size = some k from e)
    omega
theorem cloneY_c (a : Option Addr) (cap : Nat) (xs : List Int) (hlen : xs.length ≤ 1099511627776) : Cm Tryz.prog 23 [.slice a xs.length cap] [] [slF byE 1 (.slice a xs.length cap) xs] (fun e _ F1 => ∃ a c, e = .returned (.slice a xs.length c) ∧ F1 = [slF byE 1 (.slice a xs.length c) xs]) :=
  cm_ownR byE_len fun _ w hA hF => cloneY_any w _ xs hlen (slF_sl (hF _ (List.mem_singleton.2 rfl)) hA)

/-- Acts that are read one behind the other, with their places. -/
def runN (n l s : Int) (bs : List Int) : Nat → Nat → List (Nat × Ac)
  | 0, _ => []
  | f + 1, at_ => match parseA n l s (bs.drop at_) with
    | none => []
    | some (x, r) => (at_, x) :: runN n l s bs f (bs.length - r.length)
def eachX (c : Cfg) (bs : List Int) : List (Nat × Ac) := bif cfgB c then runN c.n c.l c.s bs bs.length 0 else []
def encEa (p : Nat × Ac) : List Value := [.int .i64 p.1, .agg (actL p.2).toArray]
theorem parseA_lt {n l s : Int} {bs : List Int} {x : Ac} {r : List Int} (h : parseA n l s bs = some (x, r)) : r.length < bs.length := by
  have hstep : ∀ f i x0 bs, stepA n l s f i x0 bs = some (x, r) → r.length ≤ bs.length := by
    intro f
    induction f with
    | zero => intro i x0 bs h; simp [stepA] at h
    | succ f ih =>
      intro i x0 bs h
      unfold stepA at h
      split at h
      · cases h; exact Nat.le_refl _
      · cases bs with
        | nil => simp at h
        | cons b r' => have := ih _ _ _ h; simp; omega
  cases bs with
  | nil => simp [parseA] at h
  | cons b r' => have := hstep _ _ _ _ h; simp; omega
theorem runN_le {n l s : Int} {bs : List Int} : ∀ {f at_ : Nat}, (runN n l s bs f at_).length ≤ bs.length - at_ := by
  intro f
  induction f with
  | zero => intro at_; simp [runN]
  | succ f ih =>
    intro at_
    unfold runN
    split
    · simp
    · rename_i x r h
      have h1 := parseA_lt h
      have h2 := ih (at_ := bs.length - r.length)
      rw [List.length_drop] at h1
      rw [List.length_cons]
      omega
theorem shape_ofC {c : Cfg} (hc : cfgB c = true) : 1 ≤ c.n ∧ c.n ≤ 64 ∧ 1 ≤ c.l ∧ c.l ≤ 8 ∧ 1 ≤ c.s ∧ c.s ≤ 4 := by
  have hs : shapeB c.n c.l c.s = true := by simp only [cfgB, Bool.and_eq_true] at hc; exact hc.1.1.1.1.1.1.1
  have := shapeB_is hs
  omega
theorem inF_out {P : Program} {α : Type} {enc : α → List Value} {xs : List α} {S : It P enc xs} {f : Fact} {A : Nat → Prop} {w : World} (h : (S.inF f).h A w) : f.h A w := f.ok h.1 (fun _ _ => rfl) (by first | exact Nat.le_refl _ | exact .refl _ | trivial) h.2
abbrev eachF (b1 b2 b3 : Nat) (a : Option Addr) (cap : Nat) (bs : List Int) (c : Cfg) (ad : Option Addr) (capd : Nat) : List Fact :=
  [blkF b1 [.slice a bs.length cap] 41, blkF b2 [.bool (cfgB c)] 4, blkF b3 (cfgL c ad capd) 26, slF byE 1 (.slice a bs.length cap) bs]
set_option maxHeartbeats 2000000 in
theorem seqAct_c (c : Cfg) (ad : Option Addr) (capd : Nat) (a : Option Addr) (cap : Nat) (bs : List Int) (b1 b2 b3 : Nat) (h1 : bs.length ≤ 1000000) (hb : ∀ b ∈ bs, 0 ≤ b ∧ b ≤ 255) :
    SeqC Tryz.prog 24 [.pointer (some ⟨b1, 0, none⟩), .pointer (some ⟨b2, 0, none⟩), .pointer (some ⟨b3, 0, none⟩)] (eachF b1 b2 b3 a cap bs c ad capd) encEa (eachX c bs) := by
  refine seq_of (tab := tb) (ok := tbOk) [.o (.v (.pointer (some ⟨b1, 0, none⟩))), .o (.v (.pointer (some ⟨b2, 0, none⟩))), .o (.v (.pointer (some ⟨b3, 0, none⟩)))] Tryz.func24 Tryz.ntmps24 rfl rfl (fun _ => rfl) ?_
  intro S
  refine cjs_scope rfl ?_
  refine ojs_load1 (S.inF (blkF b1 [.slice a bs.length cap] 41)) (by simp) (fun A w h => blk_cell (o := 0) rfl _ w h.2) rfl rfl rfl ?_
  obtain ⟨xs, hxs⟩ : ∃ xs, xs = eachX c bs := ⟨_, rfl⟩
  refine cjs_loopX (γ := Nat × Nat) (fun g => g.1 ≤ xs.length ∧ g.2 ≤ bs.length ∧ (cfgB c = true → ∃ f, bs.length ≤ g.2 + f ∧ xs.drop g.1 = runN c.n c.l c.s bs f g.2)) (fun _ => []) (fun g => [(0, .c [.v (.slice a bs.length cap), .v (.int .i64 ((g.2 : Nat) : Int))] 76)]) (fun g => [S.jF g.1, S.inF (blkF b2 [.bool (cfgB c)] 4), S.inF (blkF b3 (cfgL c ad capd) 26), S.inF (slF byE 1 (.slice a bs.length cap) bs)]) (fun g => bs.length - g.2) (0, 0) ⟨Nat.zero_le _, Nat.zero_le _, fun hc => ⟨bs.length, by omega, by rw [hxs, List.drop_zero, eachX, hc]; rfl⟩⟩ (wk_patch (by repeat' (first | exact trivial | exact Or.inl rfl | refine Or.inr ⟨?_, ?_⟩ | rfl | refine ⟨?_, ?_⟩ | exact lt_all_v)) (by repeat' (first | exact trivial | exact Or.inl rfl | refine Or.inr ⟨?_, ?_⟩ | rfl | refine ⟨?_, ?_⟩ | exact lt_all_v)) (by simp) (by simp [It.X]) D_nil) ?_
  rintro ⟨k, at_⟩ ⟨hk, hat, hrun⟩
  simp only at hk hat hrun
  cases hc : cfgB c
  · have hx0 : xs = [] := by rw [hxs, eachX, hc]; rfl
    refine cjs_drawn [10] (.op 0 <| .op 1 <| .op 2 <| .op 3 <| .op 4 <| .op 5 <| .op 6 <| .op 7 <| .op 8 <| .op 9 <| .op 10 <| .op 11 <| .op 12 .z) [0] [] [] [S.inF (blkF b2 [.bool false] 4)] (by kernel_rfl) (by kernel_rfl) rfl (by simp [It.X]) (by rw [← hc]; simp) ?_
    intro N
    refine ⟨_, yd_load1 (S.inF (blkF b2 [.bool false] 4)) (by simp) (fun A w h => blk_cell (o := 0) rfl _ w h.2) rfl rfl rfl, ?_⟩
    have hk0 : k = (eachX c bs).length := by rw [← hxs]; rw [hx0] at hk ⊢; simpa using hk
    exact endS_done (by rw [hk0]; simp) rfl rfl
  obtain ⟨f, hf, hrun⟩ := hrun hc
  refine cjs_drawn [10] (.op 0 <| .op 1 <| .op 2 <| .op 3 <| .op 4 <| .op 5 <| .op 6 <| .op 7 <| .op 8 <| .op 9 <| .op 10 <| .op 11 <| .op 12 .z) [0] [] [] [S.inF (blkF b2 [.bool true] 4)] (by kernel_rfl) (by kernel_rfl) rfl (by simp [It.X]) (by rw [← hc]; simp) ?_
  intro N
  refine ⟨_, yd_load1 (S.inF (blkF b2 [.bool true] 4)) (by simp) (fun A w h => blk_cell (o := 0) rfl _ w h.2) rfl rfl rfl, ?_⟩
  refine ojs_call [] [] rfl rfl rfl rfl rfl rfl rfl (by simp) (fun _ => left_c a bs.length cap at_ h1 (by omega)) (by simp) (.inl rfl) ?_
  rintro e cs F1 _ ⟨rfl, rfl⟩
  refine ⟨⟨(by repeat' (first | exact trivial | refine ⟨Or.inl rfl, ?_⟩ | refine ⟨Or.inr ⟨rfl, Nat.le_of_ble_eq_true rfl, _, rfl, rfl, rfl⟩, ?_⟩)), by simp⟩, ?_⟩
  refine brB_dec (fun g1 => ?_) (fun g1 => ?_)
  rotate_left
  · have hx0 : xs.drop k = [] := by
      rw [hrun]
      cases f with
      | zero => rfl
      | succ f => rw [runN, List.drop_of_length_le (by omega)]; rfl
    have hk0 : k = (eachX c bs).length := by rw [← hxs]; have := congrArg List.length hx0; simp at this; omega
    exact endS_done (by rw [hk0]; simp) rfl rfl
  obtain ⟨f, rfl⟩ : ∃ f', f = f' + 1 := ⟨f - 1, by omega⟩
  refine ojs_loadN (vs := shL c.n c.l c.s) (S.inF (blkF b3 (cfgL c ad capd) 26)) (by simp) (fun A w h j u hu => ?_) rfl rfl rfl ?_
  · rw [Nat.zero_add]
    refine blk_cell ?_ _ w h.2
    match j, hu with
    | 0, hu => exact hu
    | 1, hu => exact hu
    | 2, hu => exact hu
  refine ojs_facts (slF byE 1 (.slice a bs.length cap) bs :: _) (fun A w => facts_cons (fun h => inF_out (S := S) (h (S.inF (slF byE 1 (.slice a bs.length cap) bs)) (by simp))) (fun _ h => h)) ?_
  refine ojs_call [] [0] rfl rfl rfl rfl rfl rfl rfl (by simp) (fun ρ => act_c c.n c.l c.s (ρ 0) a cap bs at_ (shape_ofC hc) h1 hat hb) (by simp) (.inl rfl) ?_
  rintro e cs F1 _ ⟨⟨x, r, at2, hx, ha2, ha3, rfl, rfl, rfl⟩ | ⟨at2, hx, rfl, rfl⟩, rfl⟩
  rotate_left
  · have hx0 : xs.drop k = [] := by rw [hrun, runN, hx]
    have hk0 : k = (eachX c bs).length := by rw [← hxs]; have := congrArg List.length hx0; simp at this; omega
    exact endS_done (by rw [hk0]; simp) rfl rfl
  have hnx : xs.drop k = (at_, x) :: runN c.n c.l c.s bs f at2 := by
    have e : bs.length - (bs.drop at2).length = at2 := by rw [List.length_drop]; omega
    rw [hrun, runN, hx]
    dsimp only
    rw [e]
  have hat1 : (eachX c bs)[k]? = some (at_, x) := by
    have := congrArg (fun l => l[0]?) hnx
    simp only [List.getElem?_drop, List.getElem?_cons_zero, Nat.add_zero] at this
    rw [← hxs]; exact this
  have hkl : k < xs.length := by have := congrArg List.length hnx; simp at this; omega
  refine ojs_yield k [blkF b2 [.bool true] 4, blkF b3 (cfgL c ad capd) 26, slF byE 1 (.slice a bs.length cap) bs] rfl rfl rfl rfl hat1 (fun _ => rfl) (by simp) (by simp) ?_ ?_
  · refine ⟨(k + 1, at2), ⟨hkl, ha2, fun _ => ⟨f, by dsimp only; omega, ?_⟩⟩, by dsimp only; omega, wk_patch (by repeat' (first | exact trivial | exact Or.inl rfl | refine Or.inr ⟨?_, ?_⟩ | rfl | refine ⟨?_, ?_⟩ | exact lt_all_v)) (by repeat' (first | exact trivial | exact Or.inl rfl | refine Or.inr ⟨?_, ?_⟩ | rfl | refine ⟨?_, ?_⟩ | exact lt_all_v)) (by simp) (by simp [It.X]) D_nil⟩
    dsimp only
    rw [← List.drop_drop, hnx]; rfl
  · exact endS_stop (k + 1) (by simp) (by omega) (by rw [← hxs]; omega) rfl rfl
def eachR (c : Cfg) (ad : Option Addr) (capd : Nat) (bs : List Int) : OutT := fun e _ F1 => ∃ b1 b2 b3 a cap, e = .returned (.func (.func 24) #[] #[.pointer (some ⟨b1, 0, none⟩), .pointer (some ⟨b2, 0, none⟩), .pointer (some ⟨b3, 0, none⟩)]) ∧ F1 = eachF b1 b2 b3 a cap bs c ad capd
theorem each_c (c : Cfg) (ad : Option Addr) (capd : Nat) (a : Option Addr) (cap : Nat) (bs : List Int) (hlen : c.fs.length ≤ 1099511627776) (hr : -9223372036854775808 ≤ c.ret) (hb : bs.length ≤ 1099511627776) :
    Cm Tryz.prog 14 [.agg (cfgL c ad capd).toArray, .slice a bs.length cap] [] [slF frmL 4 (.slice ad c.fs.length capd) c.fs, slF byE 1 (.slice a bs.length cap) bs] (eachR c ad capd bs) := by
  refine cm_of (tab := tb) (ok := tbOk) [.g [.v (.int .i64 c.n), .v (.int .i64 c.l), .v (.int .i64 c.s), .v (.slice ad c.fs.length capd), .v (.int .i64 c.lim), .v (.int .i64 c.ret), .v (.int .i64 c.far), .v (.int .i64 c.sus), .v (.int .i64 c.apt)], .o (.v (.slice a bs.length cap))] Tryz.func14 Tryz.ntmps14 rfl rfl (fun _ _ => rfl) ?_
  intro w0 A0
  refine ojs_call [] [] rfl rfl rfl rfl rfl rfl rfl (by simp) (fun _ => nodeRightC_c c ad capd hlen hr) (by simp) (.inl rfl) ?_
  rintro e cs F1 _ ⟨rfl, rfl⟩
  refine ojs_call [] [] rfl rfl rfl rfl rfl rfl rfl (by simp) (fun _ => cloneY_c a cap bs hb) (by simp) (.inl rfl) ?_
  rintro e cs F1 _ ⟨a2, c2, rfl, rfl⟩
  cases hc : cfgB c
  · exact endR_seal [2, 1, 0] [slF byE 1 (.slice a2 bs.length c2) bs] rfl rfl rfl rfl ⟨rfl, rfl⟩ rfl (fun ρ => ⟨ρ 2, ρ 1, ρ 0, a2, c2, rfl, by rw [eachF, hc]; rfl⟩) (by simp)
  · exact endR_seal [2, 1, 0] [slF byE 1 (.slice a2 bs.length c2) bs] rfl rfl rfl rfl ⟨rfl, rfl⟩ rfl (fun ρ => ⟨ρ 2, ρ 1, ρ 0, a2, c2, rfl, by rw [eachF, hc]; rfl⟩) (by simp)

end Go.Proofs.YthnkjgffahkecaaGreat
