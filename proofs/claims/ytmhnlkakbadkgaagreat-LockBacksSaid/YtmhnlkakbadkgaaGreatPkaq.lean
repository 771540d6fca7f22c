/- Part 17 of the proof of LockBacks: contracts of functions that the law reaches, or the rules by which they are walked. No condition. -/
import Derived.Test.YtmhnlkakbadkgaaGreatPkap
namespace Go.Proofs.YtmhnlkakbadkgaaGreat.Ck
open Go Go.RowKit Go.Shelf
set_option maxRecDepth 100000
section
variable (P : Program)
def DrawS (ops : Array Oper) (F : Fr) (H : CH) (e : Ex) (F' : Fr) (H' : CH) : Prop := F'.q = F.q ∧
  ∀ (id : Nat) (r : Option Nat) (nn : Nat) al G0 a w Q, QR al G0 F.q r → FS al G0 F a → HS al G0 H w → Thence al G0 H w e F' H' Q → (Code.region id ops true).wpIn (feR r) nn P Q a w
def DefS (l : List Deferred) (H : CH) (e : Ex) (H' : CH) : Prop := e = .normal ∧
  ∀ (nn : Nat) (fn : Func) (tm : Array Value) al G0 w (R : Ending → World → Prop) (ds : List Deferred), (∀ G, Ag al G0 G → ds = l.map (denD G)) → HS al G0 H w →
    (∀ al' G' w', To al G0 H w al' G' H' w' → HS al' G' H' w' → LeavesInM Fence.wide nn P fn tm R [] .returning w') → LeavesInM Fence.wide nn P fn tm R ds .returning w
def TaskS : Task → Fr → CH → Ex → Fr → CH → Prop
  | .fn g args, _, H, e, _, H' => FnS P g args H e H'
  | .code c, F, H, e, F', H' => CodeS P c F H e F' H'
  | .lp b, F, H, e, F', H' => LoopS P b F H e F' H'
  | .sc b c, F, H, e, F', H' => ScS P b c F H e F' H'
  | .defers l, _, H, e, _, H' => DefS P l H e H'
variable {β : Type} (z : β)
def Sound (ih : Ev β) : Prop := ∀ t F H K, ih t F H K = z ∨ ∃ e F' H', ih t F H K = K e F' H' ∧ TaskS P t F H e F' H'
variable {P} {z} {ih : Ev β}
theorem code_sound (hs : Sound P z ih) (hops : ∀ (ops : Array Oper) (F : Fr) (H : CH) (K : Kont β), (opsF P z ops ops.toList).f ih F H K = z ∨ ∃ e F' H', (opsF P z ops ops.toList).f ih F H K = K e F' H' ∧ OpsL P ops ops.toList F H e F' H')
    (hdraw : ∀ (ops : Array Oper) (F : Fr) (H : CH) (K : Kont β), drawK P z ih ops F H K = z ∨ ∃ e F' H', drawK P z ih ops F H K = K e F' H' ∧ DrawS P ops F H e F' H')
    (hr : ∀ f (ps : Array Tmp) x y F H K, rangeK P z ih f ps.toList x y F H K = z ∨ ∃ e F' H', rangeK P z ih f ps.toList x y F H K = K e F' H' ∧ CodeS P (.rangeFunc f ps x y) F H e F' H') :
    ∀ (c : Code) (F : Fr) (H : CH) (K : Kont β), (codeF P z c).f ih F H K = z ∨ ∃ e F' H', (codeF P z c).f ih F H K = K e F' H' ∧ CodeS P c F H e F' H'
  | .skip, F, H, K => .inr ⟨.normal, F, H, rfl, rfl, fun r nn al G0 a w Q hq hf hS hT => wpIn_skip (hT al G0 a w .rfl hS hf)⟩
  | .label l, F, H, K => .inr ⟨.normal, F, H, rfl, rfl, fun r nn al G0 a w Q hq hf hS hT => wpIn_label (hT al G0 a w .rfl hS hf)⟩
  | .ret, F, H, K => .inr ⟨.ret, F, H, rfl, rfl, fun r nn al G0 a w Q hq hf hS hT => wpIn_ret (hT al G0 a w .rfl hS hf)⟩
  | .exit id, F, H, K => .inr ⟨.exit id, F, H, rfl, rfl, fun r nn al G0 a w Q hq hf hS hT => wpIn_exit (hT al G0 a w .rfl hS hf)⟩
  | .goto l, F, H, K => .inr ⟨.goto l, F, H, rfl, rfl, fun r nn al G0 a w Q hq hf hS hT => wpIn_goto (hT al G0 a w .rfl hS hf)⟩
  | .refuse why, F, H, K => .inl rfl
  | .region id ops d, F, H, K => by
    cases d with
    | false =>
      rcases hops ops F H K with h | ⟨e, F', H', h, h1, h2⟩
      · exact .inl h
      · refine .inr ⟨e, F', H', h, h1, fun r nn al G0 a w Q hq hf hS hT => wpIn_region_list (h2 r nn al G0 a w Q hq hf hS hT)⟩
    | true =>
      rcases hdraw ops F H K with h | ⟨e, F', H', h, h1, h2⟩
      · exact .inl h
      · exact .inr ⟨e, F', H', h, h1, fun r nn al G0 a w Q hq hf hS hT => h2 id r nn al G0 a w Q hq hf hS hT⟩
  | .seq x y, F, H, K => by
    have e0 : (codeF P z (.seq x y)).f ih F H K = (codeF P z x).f ih F H (seqF ih (codeF P z y) K) := rfl
    rw [e0]
    rcases code_sound hs hops hdraw hr x F H (seqF ih (codeF P z y) K) with h | ⟨e, F1, H1, h, h1, h2⟩
    · exact .inl h
    · cases e with
      | normal =>
        rcases code_sound hs hops hdraw hr y F1 H1 K with h3 | ⟨e2, F2, H2, h3, h4, h5⟩
        · exact .inl (h.trans h3)
        · refine .inr ⟨e2, F2, H2, h.trans h3, h4.trans h1, fun r nn al G0 a w Q hq hf hS hT => wpIn_seq (h2 r nn al G0 a w _ hq hf hS fun al' G' a' w' t1 t2 t3 => ?_)⟩
          exact h5 r nn al' G' a' w' Q (by rw [h1]; exact hq.to t1) t3 t2 (hT.to t1)
      | _ => exact .inr ⟨_, F1, H1, h, h1, fun r nn al G0 a w Q hq hf hS hT => wpIn_seq (h2 r nn al G0 a w _ hq hf hS fun al' G' a' w' t1 t2 t3 => hT al' G' a' w' t1 t2 t3)⟩
  | .cond c x y, F, H, K => by
    have e0 : codeF P z (.cond c x y) = match opdOk c with
      | true => ⟨fun ih F H K => condK z ih (evT F.T c) (codeF P z x) (codeF P z y) F H K⟩
      | false => ⟨fun _ _ _ _ => z⟩ := rfl
    rw [e0]
    cases hc : opdOk c with
    | false => exact .inl rfl
    | true =>
      dsimp only
      unfold condK
      split
      · rename_i v hv
        split
        · rcases code_sound hs hops hdraw hr x F H K with h | ⟨e, F', H', h, h1, h2⟩
          · exact .inl h
          · refine .inr ⟨e, F', H', h, h1, fun r nn al G0 a w Q hq hf hS hT => wpIn_cond_true ?_ (h2 r nn al G0 a w Q hq hf hS hT)⟩
            have e1 := ev_den (hf G0 .rfl).1 hc
            rw [hv] at e1
            exact e1
        · rcases code_sound hs hops hdraw hr y F H K with h | ⟨e, F', H', h, h1, h2⟩
          · exact .inl h
          · refine .inr ⟨e, F', H', h, h1, fun r nn al G0 a w Q hq hf hS hT => wpIn_cond_false ?_ (h2 r nn al G0 a w Q hq hf hS hT)⟩
            have e1 := ev_den (hf G0 .rfl).1 hc
            rw [hv] at e1
            exact e1
      · exact .inl rfl
  | .block id x, F, H, K => by
    have e0 : (codeF P z (.block id x)).f ih F H K = (codeF P z x).f ih F H (blockC id K) := rfl
    rw [e0]
    rcases code_sound hs hops hdraw hr x F H (blockC id K) with h | ⟨e, F1, H1, h, h1, h2⟩
    · exact .inl h
    · cases e with
      | exit i =>
        by_cases hi : i = id
        · subst hi
          have h' : (codeF P z x).f ih F H (blockC i K) = K .normal F1 H1 := h.trans (by simp [blockC])
          exact .inr ⟨_, F1, H1, h', h1, fun r nn al G0 a w Q hq hf hS hT => wpIn_block (h2 r nn al G0 a w _ hq hf hS fun al' G' a' w' t1 t2 t3 => by
            simp only [exD, Exit.inBlock, if_true]
            exact hT al' G' a' w' t1 t2 t3)⟩
        · have h' : (codeF P z x).f ih F H (blockC id K) = K (.exit i) F1 H1 := h.trans (by
            have : Nat.beq i id = false := by
              cases hb : Nat.beq i id with
              | true => exact absurd (Nat.eq_of_beq_eq_true hb) hi
              | false => rfl
            simp only [blockC, this])
          exact .inr ⟨_, F1, H1, h', h1, fun r nn al G0 a w Q hq hf hS hT => wpIn_block (h2 r nn al G0 a w _ hq hf hS fun al' G' a' w' t1 t2 t3 => by
            simp only [exD, Exit.inBlock, hi, if_false]
            exact hT al' G' a' w' t1 t2 t3)⟩
      | _ => exact .inr ⟨_, F1, H1, h, h1, fun r nn al G0 a w Q hq hf hS hT => wpIn_block (h2 r nn al G0 a w _ hq hf hS fun al' G' a' w' t1 t2 t3 => hT al' G' a' w' t1 t2 t3)⟩
  | .loop x, F, H, K => by
    rcases hs (.lp x) F H K with h | ⟨e, F', H', h, h1, h2⟩
    · exact .inl h
    · exact .inr ⟨e, F', H', h, h1, fun r nn al G0 a w Q hq hf hS hT => (h2 r nn al G0 a w Q hq hf hS hT).loop⟩
  | .scope x, F, H, K => by
    rcases hs (.sc x x) F H K with h | ⟨e, F', H', h, h1, h2⟩
    · exact .inl h
    · exact .inr ⟨e, F', H', h, h1, fun r nn al G0 a w Q hq hf hS hT => (h2 r nn al G0 a w Q hq hf hS hT).scope⟩
  | .rangeFunc f ps x y, F, H, K => hr f ps x y F H K
theorem loop_sound (hs : Sound P z ih) (c : Code) (F : Fr) (H : CH) (K : Kont β) : ih (.code c) F H (loopC ih c K) = z ∨ ∃ e F' H', ih (.code c) F H (loopC ih c K) = K e F' H' ∧ LoopS P c F H e F' H' := by
  rcases hs (.code c) F H (loopC ih c K) with h | ⟨e, F1, H1, h, h1, h2⟩
  · exact .inl h
  · cases e with
    | normal =>
      rcases hs (.lp c) F1 H1 K with h3 | ⟨e2, F2, H2, h3, h4, h5⟩
      · exact .inl (h.trans h3)
      · refine .inr ⟨e2, F2, H2, h.trans h3, h4.trans h1, fun r nn al G0 a w Q hq hf hS hT => LoopW.turn (h2 r nn al G0 a w _ hq hf hS fun al' G' a' w' t1 t2 t3 => ?_)⟩
        exact h5 r nn al' G' a' w' Q (by rw [h1]; exact hq.to t1) t3 t2 (hT.to t1)
    | _ => exact .inr ⟨_, F1, H1, h, h1, fun r nn al G0 a w Q hq hf hS hT => LoopW.turn (h2 r nn al G0 a w _ hq hf hS fun al' G' a' w' t1 t2 t3 => hT al' G' a' w' t1 t2 t3)⟩
theorem sc_sound (hs : Sound P z ih) (s c : Code) (F : Fr) (H : CH) (K : Kont β) : scK ih s c F H K = z ∨ ∃ e F' H', scK ih s c F H K = K e F' H' ∧ ScS P s c F H e F' H' := by
  rcases hs (.code c) F H (scC ih s K) with h | ⟨e, F1, H1, h, h1, h2⟩
  · exact .inl h
  · cases e with
    | goto l =>
      cases hl : findLabel s l with
      | some rest =>
        rcases hs (.sc s rest) F1 H1 K with h3 | ⟨e2, F2, H2, h3, h4, h5⟩
        · exact .inl (h.trans (by simp only [scC, hl]; exact h3))
        · refine .inr ⟨e2, F2, H2, h.trans (by simp only [scC, hl]; exact h3), h4.trans h1, fun r nn al G0 a w Q hq hf hS hT => ScW.turn (h2 r nn al G0 a w _ hq hf hS fun al' G' a' w' t1 t2 t3 => ?_)⟩
          simp only [exD, scPost, hl]
          exact h5 r nn al' G' a' w' Q (by rw [h1]; exact hq.to t1) t3 t2 (hT.to t1)
      | none =>
        have h' : scK ih s c F H K = K (.goto l) F1 H1 := h.trans (by simp only [scC, hl])
        refine .inr ⟨_, F1, H1, h', h1, fun r nn al G0 a w Q hq hf hS hT => ScW.turn (h2 r nn al G0 a w _ hq hf hS fun al' G' a' w' t1 t2 t3 => ?_)⟩
        simp only [exD, scPost, hl]
        exact hT al' G' a' w' t1 t2 t3
    | _ => exact .inr ⟨_, F1, H1, h, h1, fun r nn al G0 a w Q hq hf hS hT => ScW.turn (h2 r nn al G0 a w _ hq hf hS fun al' G' a' w' t1 t2 t3 => hT al' G' a' w' t1 t2 t3)⟩
end
end Go.Proofs.YtmhnlkakbadkgaaGreat.Ck
namespace Go.Proofs.YtmhnlkakbadkgaaGreat.Ck
open Go Go.RowKit Go.Shelf
set_option maxRecDepth 100000
section
variable {P : Program} {β : Type} {z : β} {ih : Ev β}
def RunS (P : Program) (o : Oper) (all : Array Oper) (l : List Oper) (F : Fr) (H : CH) (e : Ex) (F' : Fr) (H' : CH) : Prop := F'.q = F.q ∧
  ∀ (r : Option Nat) (nn : Nat) al G0 a w Q (K' : Act → World → Prop), QR al G0 F.q r → FS al G0 F a → HS al G0 H w → Thence al G0 H w e F' H' Q → (∀ a w, wpListIn (feR r) nn P all Q l a w → K' a w) → o.wpIn (feR r) nn P a w K' Q
theorem FS.ts {al : Nat → Prop} {G0 : Gh} {F : Fr} {a : Act} (h : FS al G0 F a) : TS al G0 F.T F.m a := fun G hG => (h G hG).1
theorem wpIn_noDef {r : Option Nat} {nn : Nat} {o : Oper} {a : Act} {w : World} {K' : Act → World → Prop} {Q : Exit → Act → World → Prop} (hd : ∀ c, o.op ≠ .defer c) (h : o.uponIn (feR r) nn P a K' Q ((execOp a.eval o).run P w)) : o.wpIn (feR r) nn P a w K' Q := by
  refine ⟨fun _ _ => trivial, ?_⟩
  rw [Oper.semAt_eq _ _ _ hd]
  exact h
def NxS (P : Program) (z : β) (all : Array Oper) (l : List Oper) (nx : Fr → CH → β) (K : Kont β) : Prop := ∀ F H, nx F H = z ∨ ∃ e F' H', nx F H = K e F' H' ∧ OpsL P all l F H e F' H'
theorem val_sound {o : Oper} (hok : ∀ x ∈ o.op.operands.toList, opdOk x = true) (hd : ∀ c, o.op ≠ .defer c) (all : Array Oper) (l : List Oper) (F : Fr) (H : CH) (K : Kont β) {nx : Fr → CH → β} (hnx : NxS P z all l nx K) :
    (opV P z F.T o H fun v H => putF z o.dst v F fun F => nx F H) = z ∨ ∃ e F' H', (opV P z F.T o H fun v H => putF z o.dst v F fun F => nx F H) = K e F' H' ∧ RunS P o all l F H e F' H' := by
  rcases opV_spec (P := P) (T := F.T) (m := F.m) (z := z) (H := H) (o := o) hok (K := fun v H => putF z o.dst v F fun F => nx F H) with h | ⟨v, H1, h, hop⟩
  · exact .inl h
  · rcases putF_spec (z := z) (d := o.dst) (v := v) (F := F) (K := fun F => nx F H1) with h2 | ⟨F1, h2, hm, hD, hq1, hT1⟩
    · exact .inl (h.trans h2)
    · rcases hnx F1 H1 with h3 | ⟨e, F2, H2, h3, hq2, h4⟩
      · exact .inl (h.trans (h2.trans h3))
      · refine .inr ⟨e, F2, H2, h.trans (h2.trans h3), hq2.trans hq1, fun r nn al G0 a w Q K' hq hf hS hT hK => wpIn_noDef hd ?_⟩
        obtain ⟨al', G', w', t1, hS1, u, hr, hu⟩ := hop al G0 a w hf.ts hS
        have hf1 : FS al' G' F1 (a.put o.dst u) := (hf.to t1).put hu hD hT1
        have fin : K' (a.put o.dst u) w' := hK _ _ (h4 r nn al' G' _ w' Q (by rw [hq1]; exact hq.to t1) hf1 hS1 (hT.to t1))
        rcases hr with hr | ⟨hr, rfl⟩
        · rw [hr]; exact fin
        · rw [hr]; exact fin
theorem put_sound {d : Option Nat} (all : Array Oper) (l : List Oper) (F : Fr) (H : CH) (K : Kont β) {nx : Fr → CH → β} (hnx : NxS P z all l nx K) :
    (putF z d undef F fun F => nx F H) = z ∨ ∃ e F' H', (putF z d undef F fun F => nx F H) = K e F' H' ∧ F'.q = F.q ∧
      ∀ (r : Option Nat) (nn : Nat) al G0 a w Q, QR al G0 F.q r → FS al G0 F a → HS al G0 H w → Thence al G0 H w e F' H' Q → wpListIn (feR r) nn P all Q l (a.put d undef) w := by
  rcases putF_spec (z := z) (d := d) (v := undef) (F := F) (K := fun F => nx F H) with h2 | ⟨F1, h2, hm, hD, hq1, hT1⟩
  · exact .inl h2
  · rcases hnx F1 H with h3 | ⟨e, F2, H2, h3, hq2, h4⟩
    · exact .inl (h2.trans h3)
    · exact .inr ⟨e, F2, H2, h2.trans h3, hq2.trans hq1, fun r nn al G0 a w Q hq hf hS hT => h4 r nn al G0 _ w Q (by rw [hq1]; exact hq) (hf.put (v := undef) (fun G _ => by simp) hD hT1) hS hT⟩
theorem args_den {al : Nat → Prop} {G0 : Gh} {F : Fr} {a : Act} (hf : FS al G0 F a) {xs : Array Operand} (hok : ∀ x ∈ xs.toList, opdOk x = true) : ∀ G, Ag al G0 G → (xs.map a.eval).toList = (arrL (xs.map (evT F.T))).map (den G) := fun G hG => by
  rw [arrL_toList, Array.toList_map, Array.toList_map]
  exact evs_den (hf G hG).1 hok
theorem call_sound (hs : Sound P z ih) {o : Oper} {c : Call} {f : Operand} {g : FuncId} {first cap : Array Value} (ho : o.op = .call c) (hc : c.callee = .value f) (hok : ∀ x ∈ o.op.operands.toList, opdOk x = true) (all : Array Oper) (l : List Oper) (F : Fr) (H : CH) (K : Kont β) {nx : Fr → CH → β} (hnx : NxS P z all l nx K)
    (hv : evT F.T f = .func (.func g) first cap) : callK P z ih g (arrL first ++ (arrL (c.args.map (evT F.T)) ++ arrL cap)) o.dst nx F H K = z ∨ ∃ e F' H', callK P z ih g (arrL first ++ (arrL (c.args.map (evT F.T)) ++ arrL cap)) o.dst nx F H K = K e F' H' ∧ RunS P o all l F H e F' H' := by
  have hof : opdOk f = true := hok f (by simp [ho, Op.operands, Call.operands, hc])
  have hoa : ∀ x ∈ c.args.toList, opdOk x = true := fun x hx => hok x (by simp [ho, Op.operands, Call.operands, hc, Array.mem_toList_iff.1 hx])
  have hd : ∀ c, o.op ≠ .defer c := fun c' => by rw [ho]; simp
  unfold callK
  split
  · rename_i hB
    have hE : ∀ args w, (callFunc g args).run P w = .ok (.enter g args) w := tyB_spec hB
    have run : ∀ (al : Nat → Prop) (G0 : Gh) (a : Act) (w : World), FS al G0 F a → ∃ args' : Array Value, (execOp a.eval o).run P w = .ok (.enter g args') w ∧ ∀ G, Ag al G0 G → args' = ⟨(arrL first ++ (arrL (c.args.map (evT F.T)) ++ arrL cap)).map (den G)⟩ := fun al G0 a w hf => by
      have e : ∀ G, Ag al G0 G → a.eval f = .func (.func g) ⟨(arrL first).map (den G)⟩ ⟨(arrL cap).map (den G)⟩ := fun G hG => by
        rw [ev_den (hf G hG).1 hof, hv]
        exact den_func G _ _ _
      refine ⟨⟨(arrL first).map (den G0)⟩ ++ c.args.map a.eval ++ ⟨(arrL cap).map (den G0)⟩, ?_, fun G hG => ?_⟩
      · simp only [execOp, ho, resolve, hc, e G0 .rfl, Deferred.ofValue, invoke, hE, Sem.run_bind, Sem.run_pure, Result.andThen_ok]
      · have e1 := e G hG
        rw [e G0 .rfl] at e1
        injection e1 with _ e2 e3
        injection e2 with e2
        injection e3 with e3
        apply Array.ext'
        rw [e2, e3, Array.toList_append, Array.toList_append, args_den hf hoa G hG]
        simp
    rcases hs (.fn g (arrL first ++ (arrL (c.args.map (evT F.T)) ++ arrL cap))) noF H (callC z o.dst nx F K) with h | ⟨e, Fx, H1, h, hfn⟩
    · exact .inl h
    · cases e with
      | val v =>
        rcases putF_spec (z := z) (d := o.dst) (v := v) (F := F) (K := fun F => nx F H1) with h2 | ⟨F1, h2, hm, hD, hq1, hT1⟩
        · exact .inl (h.trans h2)
        · rcases hnx F1 H1 with h3 | ⟨e, F2, H2, h3, hq2, h4⟩
          · exact .inl (h.trans (h2.trans h3))
          · refine .inr ⟨e, F2, H2, h.trans (h2.trans h3), hq2.trans hq1, fun r nn al G0 a w Q K' hq hf hS hT hK => wpIn_noDef hd ?_⟩
            obtain ⟨args', hrun, hargs⟩ := run al G0 a w hf
            rw [hrun]
            refine ⟨fun h => (nomatch h), hfn r (nn - 1) al G0 args' w _ hargs hS (fun al' G' w' t1 hS1 u hu => ?_) (.inl ⟨v, rfl⟩)⟩
            exact hK _ _ (h4 r nn al' G' _ w' Q (by rw [hq1]; exact hq.to t1) ((hf.to t1).put hu hD hT1) hS1 (hT.to t1))
      | panic v =>
        refine .inr ⟨.panic v, F, H1, h, rfl, fun r nn al G0 a w Q K' hq hf hS hT hK => wpIn_noDef hd ?_⟩
        obtain ⟨args', hrun, hargs⟩ := run al G0 a w hf
        rw [hrun]
        exact ⟨fun h => (nomatch h), hfn r (nn - 1) al G0 args' w _ hargs hS (fun al' G' w' t1 hS1 => hT al' G' a w' t1 hS1 (hf.to t1)) (.inr ⟨v, rfl⟩)⟩
      | _ => exact .inl h
  · exact .inl rfl
theorem def_sound {o : Oper} {c : Call} {f : Operand} {fn : Fn} {first cap : Array Value} (ho : o.op = .defer c) (hc : c.callee = .value f) (hok : ∀ x ∈ o.op.operands.toList, opdOk x = true) (all : Array Oper) (l : List Oper) (F : Fr) (H : CH) (K : Kont β) {nx : Fr → CH → β} (hnx : NxS P z all l nx K)
    (hv : evT F.T f = .func fn first cap) : defK z fn first cap (arrL (c.args.map (evT F.T))) o.dst nx F H = z ∨ ∃ e F' H', defK z fn first cap (arrL (c.args.map (evT F.T))) o.dst nx F H = K e F' H' ∧ RunS P o all l F H e F' H' := by
  have hof : opdOk f = true := hok f (by simp [ho, Op.operands, Call.operands, hc])
  have hoa : ∀ x ∈ c.args.toList, opdOk x = true := fun x hx => hok x (by simp [ho, Op.operands, Call.operands, hc, Array.mem_toList_iff.1 hx])
  unfold defK
  split
  · rename_i g hq0
    rcases putF_spec (z := z) (d := o.dst) (v := undef) (F := F) (K := fun F1 => nx ⟨F1.T, F1.m, { target := .fn (.func g) cap, args := ⟨arrL first ++ arrL (c.args.map (evT F.T))⟩ } :: F1.D, none⟩ H) with h2 | ⟨F1, h2, hm, hD, hq1, hT1⟩
    · exact .inl h2
    · rcases hnx ⟨F1.T, F1.m, { target := .fn (.func g) cap, args := ⟨arrL first ++ arrL (c.args.map (evT F.T))⟩ } :: F1.D, none⟩ H with h3 | ⟨e, F2, H2, h3, hq2, h4⟩
      · exact .inl (h2.trans h3)
      · refine .inr ⟨e, F2, H2, h2.trans h3, hq2.trans hq0.symm, fun r nn al G0 a w Q K' hq hf hS hT hK => ?_⟩
        have hr : r = none := by rw [hq0] at hq; exact hq
        subst hr
        have e1 : ∀ G, Ag al G0 G → a.eval f = .func (.func g) ⟨(arrL first).map (den G)⟩ ⟨(arrL cap).map (den G)⟩ := fun G hG => by
          rw [ev_den (hf G hG).1 hof, hv]
          exact den_func G _ _ _
        have hrun : (execOp a.eval o).run P w = .ok (.defer { target := .fn (.func g) ⟨(arrL cap).map (den G0)⟩, args := ⟨(arrL first).map (den G0)⟩ ++ c.args.map a.eval }) w := by
          simp only [execOp, ho, resolve, hc, e1 G0 .rfl, Deferred.ofValue, Sem.run_bind, Sem.run_pure, Result.andThen_ok]
        refine ⟨fun _ _ => trivial, ?_⟩
        show o.uponIn (feR none) nn P a K' Q ((o.semAt none a.eval).run P w)
        rw [Oper.semAt_none, hrun]
        refine hK _ _ (h4 none nn al G0 _ w Q rfl (fun G hG => ?_) hS hT)
        obtain ⟨t1, t2⟩ := hf G hG
        have t3 := hT1 G a t1
        rw [den_undef] at t3
        constructor
        · cases hdst : o.dst with
          | none => rw [hdst] at t3; exact t3
          | some d => rw [hdst] at t3; exact t3
        · have e2 := e1 G hG
          rw [e1 G0 .rfl] at e2
          injection e2 with _ e3 e4
          have hx : denD G { target := .fn (.func g) cap, args := ⟨arrL first ++ arrL (c.args.map (evT F.T))⟩ } = { target := .fn (.func g) ⟨(arrL cap).map (den G0)⟩, args := ⟨(arrL first).map (den G0)⟩ ++ c.args.map a.eval } := by
            rw [e3, e4]
            unfold denD denT
            congr 1
            apply Array.ext'
            rw [Array.toList_append, args_den hf hoa G hG]
            simp
          rw [List.map_cons, hx, hD, ← t2]
          cases o.dst <;> rfl
  · exact .inl rfl
theorem yielded_den {G : Gh} {T : Tr Value} {m : Nat} {tm : Array Value} (ht : TR G T m tm) {all : Array Oper} {j d : Nat} {oj : Oper} (hj : all[j]? = some oj) (hd : oj.dst = some d) : yielded all tm j = match evT T (.tmp d) with
    | .bool b => some b
    | _ => none := by
  have h1 := ht.2 d
  rw [← evT_tmp] at h1
  unfold yielded
  rw [hj, Option.bind_some, hd, Option.bind_some]
  rw [Array.getD_eq_getD_getElem?] at h1
  cases hx : tm[d]? with
  | none =>
    rw [hx] at h1
    simp only [Option.getD_none] at h1
    cases hv : evT T (.tmp d) <;> rw [hv] at h1 <;> first | rfl | (exfalso; simp [undef] at h1)
  | some y =>
    rw [hx] at h1
    simp only [Option.getD_some] at h1
    subst h1
    cases hv : evT T (.tmp d) with
    | pointer a => cases a <;> rfl
    | slice a l c => cases a <;> rfl
    | map r => cases r <;> rfl
    | func fn f c => obtain ⟨f⟩ := f; obtain ⟨c⟩ := c; rfl
    | tuple vs => obtain ⟨vs⟩ := vs; rfl
    | agg vs => obtain ⟨vs⟩ := vs; rfl
    | _ => rfl
theorem one_sound (hs : Sound P z ih) {o : Oper} (hok : ∀ x ∈ o.op.operands.toList, opdOk x = true) (all : Array Oper) (l : List Oper) (F : Fr) (H : CH) (K : Kont β) {nx : Fr → CH → β} (hnx : NxS P z all l nx K)
    (hround : ∀ (c : Call) (f : Operand) (b : Nat) (cap : Array Value), o.op = .call c → c.callee = .value f → evT F.T f = .func (.yield b) #[] cap → roundK z ih b (arrL (c.args.map (evT F.T))) o.dst nx F H = z ∨ ∃ e F' H', roundK z ih b (arrL (c.args.map (evT F.T))) o.dst nx F H = K e F' H' ∧ RunS P o all l F H e F' H') :
    oneK P z ih o nx F H K = z ∨ ∃ e F' H', oneK P z ih o nx F H K = K e F' H' ∧ RunS P o all l F H e F' H' := by
  unfold oneK
  split
  · rename_i c ho
    split
    · rename_i f hc
      unfold valueK
      split
      · rename_i fn first cap hv
        split
        · rename_i g
          exact call_sound hs ho hc hok all l F H K hnx hv
        · rename_i b
          split
          · exact hround c f b cap ho hc hv
          · exact .inl rfl
        · exact .inl rfl
      · exact .inl rfl
    · exact val_sound hok (fun c' => by rw [ho]; simp) all l F H K hnx
  · rename_i c ho
    split
    · rename_i f hc
      unfold deferK
      split
      · rename_i fn first cap hv
        exact def_sound ho hc hok all l F H K hnx hv
      · exact .inl rfl
    · exact .inl rfl
  · rename_i x ho
    have hx : opdOk x = true := hok x (by simp [ho, Op.operands])
    unfold panicK
    split
    · rename_i t v hv
      refine .inr ⟨.panic (.iface t v), F, H, rfl, rfl, fun r nn al G0 a w Q K' hq hf hS hT hK => wpIn_noDef (fun c' => by rw [ho]; simp) ?_⟩
      have e := ev_den (hf G0 .rfl).1 hx
      rw [hv] at e
      have hrun : (execOp a.eval o).run P w = .halt (.panic (den G0 (.iface t v))) w := by
        simp [execOp, ho, e, den, Instr.panic, goPanic]
      rw [hrun]
      exact hT al G0 a w .rfl hS hf
    · exact .inl rfl
  · rename_i h1 h2 h3
    exact val_sound hok (fun c' h => h2 c' h) all l F H K hnx
def RoundS (P : Program) (z : β) (ih : Ev β) : Prop := ∀ (o : Oper) (all : Array Oper) (l : List Oper) (c : Call) (f : Operand) (b : Nat) (cap : Array Value) (F : Fr) (H : CH) (K : Kont β) (nx : Fr → CH → β), NxS P z all l nx K → (∀ x ∈ o.op.operands.toList, opdOk x = true) → o.op = .call c → c.callee = .value f → evT F.T f = .func (.yield b) #[] cap →
  roundK z ih b (arrL (c.args.map (evT F.T))) o.dst nx F H = z ∨ ∃ e F' H', roundK z ih b (arrL (c.args.map (evT F.T))) o.dst nx F H = K e F' H' ∧ RunS P o all l F H e F' H'
theorem evL_map (T : Tr Value) : ∀ xs : List Operand, evL T xs = xs.map (evT T)
  | [] => rfl
  | x :: xs => by
    have : evL T (x :: xs) = evT T x :: evL T xs := rfl
    rw [this, evL_map T xs]; rfl
theorem evL_eq (T : Tr Value) (xs : Array Operand) : evL T (arrL xs) = arrL (xs.map (evT T)) := by
  rw [evL_map, arrL_toList, arrL_toList, Array.toList_map]
theorem opF_eq (o : Oper) (T : Tr Value) (H : CH) (K : Value → CH → β) : (opF P z o).f T H K = opV P z T o H K := by
  unfold opF opV
  split
  all_goals (rename_i ho)
  all_goals (first | (simp only [ho]; done) | skip)
  · simp only [ho]
    split
    · dsimp only
      rw [evL_eq]
    · rfl
theorem oneU_eq (o : Oper) (r : W (RunT β)) (F : Fr) (H : CH) (K : Kont β) : (oneU P z o r).f ih F H K = oneK P z ih o (fun F H => r.f ih F H K) F H K := by
  have hu : (opU P z o r).f ih F H K = opV P z F.T o H fun v H => putF z o.dst v F fun F => r.f ih F H K := opF_eq o F.T H _
  unfold oneU oneK
  split
  · split
    · dsimp only
      rw [evL_eq]
    · exact hu
  · split
    · dsimp only
      rw [evL_eq]
    · rfl
  · rfl
  · exact hu
theorem ops_sound (hs : Sound P z ih) (hround : RoundS P z ih) (all : Array Oper) : ∀ (l : List Oper) (F : Fr) (H : CH) (K : Kont β), (opsF P z all l).f ih F H K = z ∨ ∃ e F' H', (opsF P z all l).f ih F H K = K e F' H' ∧ OpsL P all l F H e F' H'
  | [], F, H, K => .inr ⟨.normal, F, H, rfl, rfl, fun r nn al G0 a w Q hq hf hS hT => hT al G0 a w .rfl hS hf⟩
  | o :: l, F, H, K => by
    have e0 : opsF P z all (o :: l) = oneG P z all o (opsF P z all l) := rfl
    have hnx : NxS P z all l (fun F H => (opsF P z all l).f ih F H K) K := fun F H => ops_sound hs hround all l F H K
    rw [e0]
    generalize opsF P z all l = r at hnx
    unfold oneG
    split
    · rename_i hok
      have hok : ∀ x ∈ o.op.operands.toList, opdOk x = true := fun x hx => List.all_eq_true.1 hok x hx
      have one : ∀ (hw : ∀ al G0 a, FS al G0 F a → Region.wanted o (yielded all a.tmps) = true), (oneU P z o r).f ih F H K = z ∨ ∃ e F' H', (oneU P z o r).f ih F H K = K e F' H' ∧ OpsL P all (o :: l) F H e F' H' := fun hw => by
        rw [oneU_eq]
        rcases one_sound hs hok all l F H K hnx (fun c f b cap h1 h2 h3 => hround o all l c f b cap F H K _ hnx hok h1 h2 h3) with h | ⟨e, F', H', h, h1, h2⟩
        · exact .inl h
        · refine .inr ⟨e, F', H', h, h1, fun r nn al G0 a w Q hq hf hS hT => wpListIn_step fun K' hK => ?_⟩
          rw [if_pos (hw al G0 a hf)]
          exact h2 r nn al G0 a w Q K' hq hf hS hT hK
      have skip : ∀ (hw : ∀ al G0 a, FS al G0 F a → Region.wanted o (yielded all a.tmps) = false), (putF z o.dst undef F fun F => r.f ih F H K) = z ∨ ∃ e F' H', (putF z o.dst undef F fun F => r.f ih F H K) = K e F' H' ∧ OpsL P all (o :: l) F H e F' H' := fun hw => by
        rcases put_sound (d := o.dst) all l F H K hnx with h | ⟨e, F', H', h, h1, h2⟩
        · exact .inl h
        · refine .inr ⟨e, F', H', h, h1, fun r nn al G0 a w Q hq hf hS hT => wpListIn_step fun K' hK => ?_⟩
          rw [if_neg (by rw [hw al G0 a hf]; simp)]
          exact ⟨fun _ _ => trivial, hK _ _ (h2 r nn al G0 a w Q hq hf hS hT)⟩
      split
      · rename_i hg
        exact one fun al G0 a hf => wanted_none hg _
      · rename_i j wv hg
        split
        · rename_i oj hj
          split
          · rename_i d hd
            have hy := fun al G0 a (hf : FS al G0 F a) => yielded_den (hf G0 .rfl).1 hj hd
            unfold guardK
            dsimp only
            split
            · rename_i bv hb
              split
              · rename_i hbw
                exact one fun al G0 a hf => by
                  have h1 := hy al G0 a hf
                  rw [hb] at h1
                  rw [wanted_some hg h1]
                  exact hbw
              · rename_i hbw
                exact skip fun al G0 a hf => by
                  have h1 := hy al G0 a hf
                  rw [hb] at h1
                  rw [wanted_some hg h1]
                  exact hbw
            · rename_i hnb
              exact skip fun al G0 a hf => by
                have h1 := hy al G0 a hf
                have h2 : yielded all a.tmps j = none := by
                  rw [h1]
                  split
                  · rename_i b' hb'
                    exact absurd hb' (hnb b')
                  · rfl
                simp [Region.wanted, hg, h2]
          · exact .inl rfl
        · exact .inl rfl
    · exact .inl rfl
end
end Go.Proofs.YtmhnlkakbadkgaaGreat.Ck
