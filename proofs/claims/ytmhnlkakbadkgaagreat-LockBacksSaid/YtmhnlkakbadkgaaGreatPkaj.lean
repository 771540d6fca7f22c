/- Part 10 of the proof of LockBacks: contracts of functions that the law reaches, or the rules by which they are walked. No condition. -/
import Derived.Test.YtmhnlkakbadkgaaGreatPkai
namespace Go.Proofs.YtmhnlkakbadkgaaGreat.Ck
open Go Go.RowKit Go.Shelf
set_option maxRecDepth 100000
structure GI where
  b : Nat
  d : Nat := 0
  N : Nat := 0
  sz : Nat := 0
  xt : Nat := 0
abbrev Gh := Nat → GI
def ext (G : Gh) (a : Addr) (c : Nat) : Nat := if a.spot.isSome || decide (a.off + c * (G a.block).sz < (G a.block).N) then 0 else (G a.block).xt
def dA (G : Gh) (a : Addr) : Addr := ⟨(G a.block).b, a.off + (G a.block).d, none⟩
def dF (G : Gh) : Fn → Fn
  | .yield l => .yield (G l).b
  | f => f
mutual
def den (G : Gh) : Value → Value
  | .pointer (some a) => .pointer (some (dA G a))
  | .slice (some a) l c => .slice (some (dA G a)) l (c + ext G a c)
  | .map (some r) => .map (some (G r).b)
  | .func fn ⟨f⟩ ⟨c⟩ => .func (dF G fn) ⟨denL G f⟩ ⟨denL G c⟩
  | .iface t v => .iface t (den G v)
  | .agg ⟨cs⟩ => .agg ⟨denL G cs⟩
  | .tuple ⟨vs⟩ => .tuple ⟨denL G vs⟩
  | v => v
def denL (G : Gh) : List Value → List Value
  | [] => []
  | v :: vs => den G v :: denL G vs
end
theorem denL_map (G : Gh) : ∀ vs, denL G vs = vs.map (den G)
  | [] => rfl
  | v :: vs => by rw [denL, denL_map G vs]; rfl
theorem den_agg (G : Gh) (cs : List Value) : den G (.agg ⟨cs⟩) = .agg ⟨cs.map (den G)⟩ := by rw [den, denL_map]
theorem den_tuple (G : Gh) (cs : List Value) : den G (.tuple ⟨cs⟩) = .tuple ⟨cs.map (den G)⟩ := by rw [den, denL_map]
theorem den_func (G : Gh) (fn : Fn) (f c : List Value) : den G (.func fn ⟨f⟩ ⟨c⟩) = .func (dF G fn) ⟨f.map (den G)⟩ ⟨c.map (den G)⟩ := by rw [den, denL_map, denL_map]
@[simp] theorem den_int (G : Gh) (k : IntKind) (n : Int) : den G (.int k n) = .int k n := rfl
@[simp] theorem den_bool (G : Gh) (b : Bool) : den G (.bool b) = .bool b := rfl
@[simp] theorem den_string (G : Gh) (s : ByteArray) : den G (.string s) = .string s := rfl
@[simp] theorem den_undef (G : Gh) : den G undef = undef := by rw [undef, den_tuple]; rfl
theorem den_cells (G : Gh) (v : Value) : (den G v).cells.toList = v.cells.toList.map (den G) := by
  cases v with
  | agg cs => obtain ⟨cs⟩ := cs; rw [den_agg]; rfl
  | pointer a => cases a <;> rfl
  | slice a l c => cases a <;> rfl
  | map r => cases r <;> rfl
  | func fn f c => obtain ⟨f⟩ := f; obtain ⟨c⟩ := c; rfl
  | tuple vs => obtain ⟨vs⟩ := vs; rfl
  | _ => rfl
mutual
theorem den_plain (G : Gh) : ∀ v : Value, plainV v = true → den G v = v
  | .pointer none, _ => rfl
  | .pointer (some _), h => by simp [plainV] at h
  | .slice none _ _, _ => rfl
  | .slice (some _) _ _, h => by simp [plainV] at h
  | .map none, _ => rfl
  | .map (some _), h => by simp [plainV] at h
  | .func (.yield _) _ _, h => by simp [plainV] at h
  | .func (.func g) ⟨f⟩ ⟨c⟩, h => by
    simp only [plainV, Bool.and_eq_true] at h
    rw [den, denL_plain G f h.1, denL_plain G c h.2]; rfl
  | .func (.method g) ⟨f⟩ ⟨c⟩, h => by
    simp only [plainV, Bool.and_eq_true] at h
    rw [den, denL_plain G f h.1, denL_plain G c h.2]; rfl
  | .func (.methodOf t g) ⟨f⟩ ⟨c⟩, h => by
    simp only [plainV, Bool.and_eq_true] at h
    rw [den, denL_plain G f h.1, denL_plain G c h.2]; rfl
  | .func (.via t p g b) ⟨f⟩ ⟨c⟩, h => by
    simp only [plainV, Bool.and_eq_true] at h
    rw [den, denL_plain G f h.1, denL_plain G c h.2]; rfl
  | .iface t v, h => by rw [den, den_plain G v (by simpa [plainV] using h)]
  | .agg ⟨cs⟩, h => by rw [den, denL_plain G cs (by simpa [plainV] using h)]
  | .tuple ⟨vs⟩, h => by rw [den, denL_plain G vs (by simpa [plainV] using h)]
  | .bool _, _ => rfl
  | .int _ _, _ => rfl
  | .float _ _, _ => rfl
  | .complex _ _ _, _ => rfl
  | .string _, _ => rfl
  | .chan _, _ => rfl
  | .nilFunc, _ => rfl
  | .nilIface, _ => rfl
theorem denL_plain (G : Gh) : ∀ vs : List Value, plainL vs = true → denL G vs = vs
  | [], _ => rfl
  | v :: vs, h => by
    simp only [plainL, Bool.and_eq_true] at h
    rw [denL, den_plain G v h.1, denL_plain G vs h.2]
end
section
variable {α β : Type}
@[simp] theorem Tr.get_lf (k : Nat) : (Tr.lf : Tr α).get k = none := rfl
theorem Tr.get_nd (x : Option α) (a b c d : Tr α) (k : Nat) : (Tr.nd x a b c d).get k = match k with
    | 0 => x
    | j + 1 => if j % 4 = 0 then a.get (j / 4) else if j % 4 = 1 then b.get (j / 4) else if j % 4 = 2 then c.get (j / 4) else d.get (j / 4) := by
  cases k with
  | zero => rfl
  | succ j =>
    show Nat.rec (motive := fun _ => Option α) (a.get (j / 4)) (fun i _ => Nat.rec (motive := fun _ => Option α) (b.get (j / 4)) (fun i _ => Nat.rec (motive := fun _ => Option α) (c.get (j / 4)) (fun _ _ => d.get (j / 4)) i) i) (j % 4) = _
    have : j % 4 = 0 ∨ j % 4 = 1 ∨ j % 4 = 2 ∨ j % 4 = 3 := by omega
    rcases this with h | h | h | h <;> simp only [h] <;> rfl
theorem Tr.put1_spec (z : β) (v : α) : ∀ (f k : Nat) (K : Tr α → β), Tr.put1 z v f k K = z ∨ ∃ t, Tr.put1 z v f k K = K t ∧ ∀ j, t.get j = if j = k then some v else none
  | 0, _, _ => .inl rfl
  | f + 1, 0, K => .inr ⟨.nd (some v) .lf .lf .lf .lf, rfl, fun j => by
    rw [Tr.get_nd]; cases j <;> simp⟩
  | f + 1, k + 1, K => by
    have e : Tr.put1 z v (f + 1) (k + 1) K = Nat.rec (motive := fun _ => β) (Tr.put1 z v f (k / 4) fun t => K (.nd none t .lf .lf .lf)) (fun i _ => Nat.rec (motive := fun _ => β) (Tr.put1 z v f (k / 4) fun t => K (.nd none .lf t .lf .lf)) (fun i _ => Nat.rec (motive := fun _ => β) (Tr.put1 z v f (k / 4) fun t => K (.nd none .lf .lf t .lf)) (fun _ _ => Tr.put1 z v f (k / 4) fun t => K (.nd none .lf .lf .lf t)) i) i) (k % 4) := rfl
    have h : k % 4 = 0 ∨ k % 4 = 1 ∨ k % 4 = 2 ∨ k % 4 = 3 := by omega
    have fin : ∀ (m : Tr α → Tr α), (∀ t j, (∀ j, t.get j = if j = k / 4 then some v else none) → (m t).get j = if j = k + 1 then some v else none) → (Tr.put1 z v f (k / 4) fun t => K (m t)) = z ∨ ∃ t, (Tr.put1 z v f (k / 4) fun t => K (m t)) = K t ∧ ∀ j, t.get j = if j = k + 1 then some v else none := fun m hm => by
      rcases Tr.put1_spec z v f (k / 4) (fun t => K (m t)) with h1 | ⟨t, h1, h2⟩
      · exact .inl h1
      · exact .inr ⟨_, h1, fun j => hm t j h2⟩
    rcases h with h | h | h | h <;> rw [e, h]
    all_goals
      refine fin _ fun t j h2 => ?_
      rw [Tr.get_nd]
      cases j with
      | zero => simp
      | succ j =>
        simp only [h2, Tr.get_lf]
        repeat' split
        all_goals first | rfl | omega
theorem Tr.put_spec (z : β) (v : α) : ∀ (t : Tr α) (k : Nat) (K : Tr α → β), Tr.put z v t k K = z ∨ ∃ t', Tr.put z v t k K = K t' ∧ ∀ j, t'.get j = if j = k then some v else t.get j
  | .lf, k, K => Tr.put1_spec z v 40 k K
  | .nd x a b c d, 0, K => .inr ⟨.nd (some v) a b c d, rfl, fun j => by
    rw [Tr.get_nd, Tr.get_nd]; cases j <;> simp⟩
  | .nd x a b c d, k + 1, K => by
    have e : Tr.put z v (.nd x a b c d) (k + 1) K = Nat.rec (motive := fun _ => β) (Tr.put z v a (k / 4) fun t => K (.nd x t b c d)) (fun i _ => Nat.rec (motive := fun _ => β) (Tr.put z v b (k / 4) fun t => K (.nd x a t c d)) (fun i _ => Nat.rec (motive := fun _ => β) (Tr.put z v c (k / 4) fun t => K (.nd x a b t d)) (fun _ _ => Tr.put z v d (k / 4) fun t => K (.nd x a b c t)) i) i) (k % 4) := rfl
    have h : k % 4 = 0 ∨ k % 4 = 1 ∨ k % 4 = 2 ∨ k % 4 = 3 := by omega
    have fin : ∀ (s : Tr α) (m : Tr α → Tr α), ((Tr.put z v s (k / 4) fun t => K (m t)) = z ∨ ∃ t', (Tr.put z v s (k / 4) fun t => K (m t)) = K (m t') ∧ ∀ j, t'.get j = if j = k / 4 then some v else s.get j) → (∀ t j, (∀ j, t.get j = if j = k / 4 then some v else s.get j) → (m t).get j = if j = k + 1 then some v else (Tr.nd x a b c d).get j) → (Tr.put z v s (k / 4) fun t => K (m t)) = z ∨ ∃ t, (Tr.put z v s (k / 4) fun t => K (m t)) = K t ∧ ∀ j, t.get j = if j = k + 1 then some v else (Tr.nd x a b c d).get j := fun s m hs hm => by
      rcases hs with h1 | ⟨t, h1, h2⟩
      · exact .inl h1
      · exact .inr ⟨_, h1, fun j => hm t j h2⟩
    rcases h with h | h | h | h <;> rw [e, h]
    · refine fin a (fun t => .nd x t b c d) (Tr.put_spec z v a (k / 4) _) fun t j h2 => ?_
      rw [Tr.get_nd, Tr.get_nd]
      cases j with
      | zero => simp
      | succ j =>
        simp only [h2]
        repeat' split
        all_goals first | rfl | omega
    · refine fin b (fun t => .nd x a t c d) (Tr.put_spec z v b (k / 4) _) fun t j h2 => ?_
      rw [Tr.get_nd, Tr.get_nd]
      cases j with
      | zero => simp
      | succ j =>
        simp only [h2]
        repeat' split
        all_goals first | rfl | omega
    · refine fin c (fun t => .nd x a b t d) (Tr.put_spec z v c (k / 4) _) fun t j h2 => ?_
      rw [Tr.get_nd, Tr.get_nd]
      cases j with
      | zero => simp
      | succ j =>
        simp only [h2]
        repeat' split
        all_goals first | rfl | omega
    · refine fin d (fun t => .nd x a b c t) (Tr.put_spec z v d (k / 4) _) fun t j h2 => ?_
      rw [Tr.get_nd, Tr.get_nd]
      cases j with
      | zero => simp
      | succ j =>
        simp only [h2]
        repeat' split
        all_goals first | rfl | omega
theorem getS_eq (t : Tr α) : ∀ (f k : Nat), (getS f k).f t = t.get k := by
  intro f
  induction f generalizing t with
  | zero => exact fun k => rfl
  | succ f ih =>
    intro k
    cases k with
    | zero => cases t <;> rfl
    | succ j =>
      have e : getS (α := α) (f + 1) (j + 1) = Nat.rec (motive := fun _ => W (Tr α → Option α)) ⟨fun t => Tr.casesOn t none fun _ a _ _ _ => (getS f (j / 4)).f a⟩ (fun i _ => Nat.rec (motive := fun _ => W (Tr α → Option α)) ⟨fun t => Tr.casesOn t none fun _ _ b _ _ => (getS f (j / 4)).f b⟩
        (fun i _ => Nat.rec (motive := fun _ => W (Tr α → Option α)) ⟨fun t => Tr.casesOn t none fun _ _ _ c _ => (getS f (j / 4)).f c⟩ (fun _ _ => ⟨fun t => Tr.casesOn t none fun _ _ _ _ d => (getS f (j / 4)).f d⟩) i) i) (j % 4) := rfl
      have h : j % 4 = 0 ∨ j % 4 = 1 ∨ j % 4 = 2 ∨ j % 4 = 3 := by omega
      cases t with
      | lf => rcases h with h | h | h | h <;> rw [e, h] <;> rfl
      | nd x a b c d =>
        rw [Tr.get_nd]
        rcases h with h | h | h | h <;> rw [e, h]
        · exact (ih a (j / 4)).trans (by simp [h])
        · exact (ih b (j / 4)).trans (by simp [h])
        · exact (ih c (j / 4)).trans (by simp [h])
        · exact (ih d (j / 4)).trans (by simp [h])
theorem putS_spec (z : β) (v : α) : ∀ (f k : Nat) (t : Tr α) (K : Tr α → β), (putS z f k).f v t K = z ∨ ∃ t', (putS z f k).f v t K = K t' ∧ ∀ j, t'.get j = if j = k then some v else t.get j := by
  intro f
  induction f with
  | zero => exact fun k t K => Tr.put_spec z v t k K
  | succ f ih =>
    intro k t K
    cases k with
    | zero =>
      cases t with
      | lf => exact .inr ⟨.nd (some v) .lf .lf .lf .lf, rfl, fun j => by rw [Tr.get_nd]; cases j <;> simp⟩
      | nd x a b c d => exact .inr ⟨.nd (some v) a b c d, rfl, fun j => by rw [Tr.get_nd, Tr.get_nd]; cases j <;> simp⟩
    | succ k =>
      have h : k % 4 = 0 ∨ k % 4 = 1 ∨ k % 4 = 2 ∨ k % 4 = 3 := by omega
      have e : putS (α := α) z (f + 1) (k + 1) = Nat.rec (motive := fun _ => W (α → Tr α → (Tr α → β) → β))
        ⟨fun v t K => Tr.casesOn t ((putS z f (k / 4)).f v .lf fun t => K (.nd none t .lf .lf .lf)) fun x a b c d => (putS z f (k / 4)).f v a fun t => K (.nd x t b c d)⟩ (fun i _ => Nat.rec (motive := fun _ => W (α → Tr α → (Tr α → β) → β))
        ⟨fun v t K => Tr.casesOn t ((putS z f (k / 4)).f v .lf fun t => K (.nd none .lf t .lf .lf)) fun x a b c d => (putS z f (k / 4)).f v b fun t => K (.nd x a t c d)⟩ (fun i _ => Nat.rec (motive := fun _ => W (α → Tr α → (Tr α → β) → β))
        ⟨fun v t K => Tr.casesOn t ((putS z f (k / 4)).f v .lf fun t => K (.nd none .lf .lf t .lf)) fun x a b c d => (putS z f (k / 4)).f v c fun t => K (.nd x a b t d)⟩ (fun _ _ =>
        ⟨fun v t K => Tr.casesOn t ((putS z f (k / 4)).f v .lf fun t => K (.nd none .lf .lf .lf t)) fun x a b c d => (putS z f (k / 4)).f v d fun t => K (.nd x a b c t)⟩) i) i) (k % 4) := rfl
      have fin : ∀ (s t0 : Tr α) (m : Tr α → Tr α), (∀ t j, (∀ j, t.get j = if j = k / 4 then some v else s.get j) → (m t).get j = if j = k + 1 then some v else t0.get j) → ((putS z f (k / 4)).f v s fun t => K (m t)) = z ∨ ∃ t, ((putS z f (k / 4)).f v s fun t => K (m t)) = K t ∧ ∀ j, t.get j = if j = k + 1 then some v else t0.get j := fun s t0 m hm => by
        rcases ih (k / 4) s (fun t => K (m t)) with h1 | ⟨t, h1, h2⟩
        · exact .inl h1
        · exact .inr ⟨_, h1, fun j => hm t j h2⟩
      cases t with
      | lf =>
        rcases h with h | h | h | h <;> rw [e, h]
        all_goals
          refine fin .lf .lf _ fun t j h2 => ?_
          rw [Tr.get_nd]
          cases j with
          | zero => simp
          | succ j =>
            simp only [h2, Tr.get_lf]
            repeat' split
            all_goals first | rfl | omega
      | nd x a b c d =>
        rcases h with h | h | h | h <;> rw [e, h]
        · refine fin a _ (fun t => .nd x t b c d) fun t j h2 => ?_
          rw [Tr.get_nd, Tr.get_nd]
          cases j with
          | zero => simp
          | succ j =>
            simp only [h2]
            repeat' split
            all_goals first | rfl | omega
        · refine fin b _ (fun t => .nd x a t c d) fun t j h2 => ?_
          rw [Tr.get_nd, Tr.get_nd]
          cases j with
          | zero => simp
          | succ j =>
            simp only [h2]
            repeat' split
            all_goals first | rfl | omega
        · refine fin c _ (fun t => .nd x a b t d) fun t j h2 => ?_
          rw [Tr.get_nd, Tr.get_nd]
          cases j with
          | zero => simp
          | succ j =>
            simp only [h2]
            repeat' split
            all_goals first | rfl | omega
        · refine fin d _ (fun t => .nd x a b c t) fun t j h2 => ?_
          rw [Tr.get_nd, Tr.get_nd]
          cases j with
          | zero => simp
          | succ j =>
            simp only [h2]
            repeat' split
            all_goals first | rfl | omega
end
end Go.Proofs.YtmhnlkakbadkgaaGreat.Ck
namespace Go.Proofs.YtmhnlkakbadkgaaGreat.Ck
open Go Go.RowKit Go.Shelf
set_option maxRecDepth 100000
def denT (G : Gh) : Target → Target
  | .fn fn c => .fn (dF G fn) ⟨c.toList.map (den G)⟩
  | .collected r => .collected (G r).b
  | t => t
def denD (G : Gh) (d : Deferred) : Deferred := { target := denT G d.target, args := ⟨d.args.toList.map (den G)⟩ }
def denE (G : Gh) (e : MapEntry) : MapEntry := { key := den G e.key, val := den G e.val, born := e.born }
def live : Bk → Bool
  | .d => false
  | _ => true
def TR (G : Gh) (T : Tr Value) (m : Nat) (tm : Array Value) : Prop := tm.size = m ∧ ∀ t, tm.getD t undef = den G ((T.get t).getD undef)
def Room (g : GI) (l p j op : Nat) : Prop := (op = 0 → p = 0 ∧ j = 0 ∧ g.xt = 0) ∧ (op ≠ 0 → g.sz = op ∧ g.N = l ∧ j = g.xt * op) ∧ g.d = p
def BR (G : Gh) (k : Nat) (w : World) : Bk → Prop
  | .c cs t op => ∃ pr jk : List Value, w.heap[(G k).b]? = some (.cells ⟨pr ++ cs.map (den G) ++ jk⟩ t (0, 0)) ∧ Room (G k) cs.length pr.length jk.length op
  | .o (.map es n) => w.heap[(G k).b]? = some (.map ⟨es.toList.map (denE G)⟩ n)
  | .o (.deferred (some ds)) => w.heap[(G k).b]? = some (.deferred (some (ds.map (denD G))))
  | .o _ => False
  | .lp st T m ps pre body _ df jump => ∃ (tm : Array Value) (f0 : FuncId), w.heap[(G k).b]? = some (.loop { state := st, pending := jump, fn := f0, tmps := tm, params := ps.toArray, assign := pre, body := body, defers := (G df).b }) ∧ TR G T m tm
  | .d => True
structure HR (G : Gh) (h : Tr Bk) (w : World) : Prop where
  bk : ∀ k b, h.get k = some b → live b = true → BR G k w b
  inj : ∀ k k' b b', h.get k = some b → h.get k' = some b' → live b = true → live b' = true → (G k).b = (G k').b → k = k'
def Ag (al : Nat → Prop) (G G' : Gh) : Prop := ∀ k, al k → G' k = G k
theorem Ag.rfl {al : Nat → Prop} {G : Gh} : Ag al G G := fun _ _ => Eq.refl _
theorem Ag.mono {al al' : Nat → Prop} {G G1 G' : Gh} (h : Ag al' G1 G') (h1 : ∀ k, al k → al' k ∧ G1 k = G k) : Ag al G G' := fun k hk => (h k (h1 k hk).1).trans (h1 k hk).2
structure HS (al : Nat → Prop) (G0 : Gh) (H : CH) (w : World) : Prop where
  lt : ∀ k, al k → k < H.n
  pr : ∀ k b, H.h.get k = some b → al k
  hr : ∀ G, Ag al G0 G → HR G H.h w
def FS (al : Nat → Prop) (G0 : Gh) (F : Fr) (a : Act) : Prop := ∀ G, Ag al G0 G → TR G F.T F.m a.tmps ∧ a.defers = F.D.map (denD G)
def Img (H : CH) (G : Gh) (b : Nat) : Prop := ∃ k x, H.h.get k = some x ∧ live x = true ∧ (G k).b = b
structure To (al : Nat → Prop) (G : Gh) (H : CH) (w : World) (al' : Nat → Prop) (G' : Gh) (H' : CH) (w' : World) : Prop where
  n : H.n ≤ H'.n
  up : ∀ k, al k → al' k ∧ G' k = G k
  back : ∀ k, k < H.n → al' k → al k
  os : w'.os = w.os
  tape : w'.tape = w.tape
  output : w'.output = w.output
  size : w.heap.size ≤ w'.heap.size
  keep : ∀ b, b < w.heap.size → ¬ Img H G b → w'.heap[b]? = w.heap[b]?
  own : ∀ b, b < w.heap.size → Img H' G' b → Img H G b
theorem To.rfl {al : Nat → Prop} {G : Gh} {H : CH} {w : World} : To al G H w al G H w := ⟨Nat.le_refl _, fun _ h => ⟨h, Eq.refl _⟩, fun _ _ h => h, Eq.refl _, Eq.refl _, Eq.refl _, Nat.le_refl _, fun _ _ _ => Eq.refl _, fun _ _ h => h⟩
theorem To.trans {al al1 al2 : Nat → Prop} {G G1 G2 : Gh} {H H1 H2 : CH} {w w1 w2 : World} (h : To al G H w al1 G1 H1 w1) (h' : To al1 G1 H1 w1 al2 G2 H2 w2) : To al G H w al2 G2 H2 w2 where
  n := Nat.le_trans h.n h'.n
  up k hk := ⟨(h'.up k (h.up k hk).1).1, (h'.up k (h.up k hk).1).2.trans (h.up k hk).2⟩
  back k hk hk' := h.back k hk (h'.back k (Nat.lt_of_lt_of_le hk h.n) hk')
  os := h'.os.trans h.os
  tape := h'.tape.trans h.tape
  output := h'.output.trans h.output
  size := Nat.le_trans h.size h'.size
  keep b hb hi := (h'.keep b (Nat.lt_of_lt_of_le hb h.size) fun hc => hi (h.own b hb hc)).trans (h.keep b hb hi)
  own b hb hi := h.own b hb (h'.own b (Nat.lt_of_lt_of_le hb h.size) hi)
theorem FS.to {al al' : Nat → Prop} {G G' : Gh} {H H' : CH} {w w' : World} {F : Fr} {a : Act} (h : FS al G F a) (ht : To al G H w al' G' H' w') : FS al' G' F a := fun G1 h1 => h G1 (h1.mono ht.up)
theorem BR.lt {G : Gh} {k : Nat} {w : World} {b : Bk} (h : BR G k w b) (hl : live b = true) : (G k).b < w.heap.size := by
  have key : ∀ {o : Obj}, w.heap[(G k).b]? = some o → (G k).b < w.heap.size := fun h => by
    rcases Nat.lt_or_ge (G k).b w.heap.size with h' | h'
    · exact h'
    · rw [Array.getElem?_eq_none h'] at h; cases h
  cases b with
  | c cs t op => obtain ⟨_, _, h, _⟩ := h; exact key h
  | o x =>
    cases x with
    | map es n => exact key h
    | deferred ds =>
      cases ds with
      | some ds => exact key h
      | none => exact absurd h (by simp [BR])
    | _ => exact absurd h (by simp [BR])
  | lp => obtain ⟨_, _, h, _⟩ := h; exact key h
  | d => cases hl
theorem BR.keep {G : Gh} {k : Nat} {w w' : World} {b : Bk} (h : BR G k w b) (hw : w'.heap[(G k).b]? = w.heap[(G k).b]?) : BR G k w' b := by
  cases b with
  | c cs t op => obtain ⟨pr, jk, h1, h2⟩ := h; exact ⟨pr, jk, hw.trans h1, h2⟩
  | o x =>
    cases x with
    | map es n => exact hw.trans h
    | deferred ds =>
      cases ds with
      | some ds => exact hw.trans h
      | none => exact absurd h (by simp [BR])
    | _ => exact absurd h (by simp [BR])
  | lp => obtain ⟨tm, f0, h1, h2⟩ := h; exact ⟨tm, f0, hw.trans h1, h2⟩
  | d => trivial
theorem evT_tmp (T : Tr Value) (t : Tmp) : evT T (.tmp t) = (T.get t).getD undef := by
  have : ∀ x : Option Value, (Option.casesOn (motive := fun _ => Value) x undef fun v => v) = x.getD undef := fun x => by cases x <;> rfl
  exact (congrArg (fun o : Option Value => (Option.casesOn (motive := fun _ => Value) o undef fun v => v)) (getS_eq T 40 t)).trans (this (T.get t))
theorem ev_den {G : Gh} {T : Tr Value} {m : Nat} {a : Act} (h : TR G T m a.tmps) {x : Operand} (hx : opdOk x = true) : a.eval x = den G (evT T x) := by
  cases x with
  | tmp t => rw [evT_tmp]; exact h.2 t
  | const v => exact (den_plain G v hx).symm
  | global g => cases hx
  | func f => show Value.func (.func f) #[] #[] = den G (.func (.func f) ⟨[]⟩ ⟨[]⟩); rw [den_func]; rfl
theorem TR.put {G : Gh} {T T' : Tr Value} {m d : Nat} {tm : Array Value} {v : Value} (h : TR G T m tm) (hT : ∀ j, T'.get j = if j = d then some v else T.get j) (hd : d < m) : TR G T' m (tm.setIfInBounds d (den G v)) := by
  refine ⟨by rw [Array.size_setIfInBounds]; exact h.1, fun t => ?_⟩
  rw [hT]
  by_cases e : t = d
  · subst e
    have : t < tm.size := by rw [h.1]; exact hd
    simp [Array.getD_eq_getD_getElem?, this]
  · rw [if_neg e, ← h.2 t]
    simp [Array.getD_eq_getD_getElem?, Array.getElem?_setIfInBounds_ne (Ne.symm e)]
theorem putF_spec {β : Type} {z : β} {d : Option Nat} {v : Value} {F : Fr} {K : Fr → β} : putF z d v F K = z ∨ ∃ F', putF z d v F K = K F' ∧ F'.m = F.m ∧ F'.D = F.D ∧ F'.q = F.q ∧ ∀ (G : Gh) (a : Act), TR G F.T F.m a.tmps → TR G F'.T F'.m (a.put d (den G v)).tmps := by
  unfold putF
  obtain ⟨T0, m, D, q⟩ := F
  cases d with
  | none => exact .inr ⟨_, Eq.refl _, Eq.refl _, Eq.refl _, Eq.refl _, fun _ _ h => h⟩
  | some d =>
    dsimp only
    split
    · rename_i hd
      rcases putS_spec z v 40 d T0 (fun T => K ⟨T, m, D, q⟩) with h | ⟨T, h, hT⟩
      · exact .inl h
      · exact .inr ⟨_, h, Eq.refl _, Eq.refl _, Eq.refl _, fun G a ht => TR.put ht hT (by simpa [Nat.blt_eq] using hd)⟩
    · exact .inl (Eq.refl _)
theorem FS.put {al : Nat → Prop} {G0 : Gh} {F F' : Fr} {a : Act} {d : Option Nat} {u v : Value} (h : FS al G0 F a) (hv : ∀ G, Ag al G0 G → u = den G v) (hD : F'.D = F.D) (hT : ∀ (G : Gh) (a : Act), TR G F.T F.m a.tmps → TR G F'.T F'.m (a.put d (den G v)).tmps) : FS al G0 F' (a.put d u) := by
  intro G hG
  obtain ⟨h1, h2⟩ := h G hG
  refine ⟨by rw [hv G hG]; exact hT G a h1, ?_⟩
  rw [hD, ← h2]
  cases d <;> rfl
theorem HS.write {al : Nat → Prop} {G0 : Gh} {H : CH} {w w' : World} {k : Nat} {b b' : Bk} {h' : Tr Bk} (hs : HS al G0 H w) (hk : H.h.get k = some b) (hl : live b = true) (hh : ∀ j, h'.get j = if j = k then some b' else H.h.get j)
    (hw : ∀ G, Ag al G0 G → live b' = true → BR G k w' b') (ho : ∀ j, j ≠ (G0 k).b → w'.heap[j]? = w.heap[j]?) (hsz : w'.heap.size = w.heap.size) (h1 : w'.os = w.os) (h2 : w'.tape = w.tape) (h3 : w'.output = w.output) :
    HS al G0 ⟨h', H.n⟩ w' ∧ To al G0 H w al G0 ⟨h', H.n⟩ w' := by
  have hak := hs.pr k b hk
  refine ⟨⟨hs.lt, fun j c hj => ?_, fun G hG => ⟨fun j c hj hc => ?_, fun i j c c' hi hj hc hc' e => ?_⟩⟩, ⟨Nat.le_refl _, fun _ h => ⟨h, Eq.refl _⟩, fun _ _ h => h, h1, h2, h3, Nat.le_of_eq hsz.symm, fun j hj hi => ho j fun e => hi ⟨k, b, hk, hl, e.symm⟩, ?_⟩⟩
  · rw [hh] at hj
    split at hj
    · rename_i e; rw [e]; exact hak
    · exact hs.pr j c hj
  · rw [hh] at hj
    split at hj
    · rename_i e
      subst e
      cases hj
      exact hw G hG hc
    · rename_i e
      have hb := (hs.hr G hG).bk j c hj hc
      refine hb.keep (ho _ fun e' => e ?_)
      rw [← hG k hak] at e'
      exact (hs.hr G hG).inj j k c b hj hk hc hl e'
  · rw [hh] at hi hj
    split at hi <;> split at hj
    · rename_i e1 e2; rw [e1, e2]
    · rename_i e1 e2; subst e1; cases hi; exact (hs.hr G hG).inj i j b c' hk hj hl hc' e
    · rename_i e1 e2; subst e2; cases hj; exact (hs.hr G hG).inj i j c b hi hk hc hl e
    · exact (hs.hr G hG).inj i j c c' hi hj hc hc' e
  · rintro j hj ⟨i, c, hi, hc, e⟩
    rw [hh] at hi
    split at hi
    · rename_i e1; subst e1; exact ⟨i, b, hk, hl, e⟩
    · exact ⟨i, c, hi, hc, e⟩
theorem HS.write2 {al : Nat → Prop} {G0 : Gh} {H : CH} {w w' : World} {k : Nat} {b b' : Bk} {h' : Tr Bk} (hs : HS al G0 H w) (hk : H.h.get k = some b) (hl : live b = true) (hh : ∀ j, h'.get j = if j = k then some b' else H.h.get j)
    (hw : ∀ G, Ag al G0 G → live b' = true → BR G k w' b') (ho : ∀ j, j < w.heap.size → j ≠ (G0 k).b → w'.heap[j]? = w.heap[j]?) (hsz : w.heap.size ≤ w'.heap.size) (h1 : w'.os = w.os) (h2 : w'.tape = w.tape) (h3 : w'.output = w.output) :
    HS al G0 ⟨h', H.n⟩ w' ∧ To al G0 H w al G0 ⟨h', H.n⟩ w' := by
  have hak := hs.pr k b hk
  refine ⟨⟨hs.lt, fun j c hj => ?_, fun G hG => ⟨fun j c hj hc => ?_, fun i j c c' hi hj hc hc' e => ?_⟩⟩, ⟨Nat.le_refl _, fun _ h => ⟨h, Eq.refl _⟩, fun _ _ h => h, h1, h2, h3, hsz, fun j hj hi => ho j hj fun e => hi ⟨k, b, hk, hl, e.symm⟩, ?_⟩⟩
  · rw [hh] at hj
    split at hj
    · rename_i e; rw [e]; exact hak
    · exact hs.pr j c hj
  · rw [hh] at hj
    split at hj
    · rename_i e
      subst e
      cases hj
      exact hw G hG hc
    · rename_i e
      have hb := (hs.hr G hG).bk j c hj hc
      refine hb.keep (ho _ (hb.lt hc) fun e' => e ?_)
      rw [← hG k hak] at e'
      exact (hs.hr G hG).inj j k c b hj hk hc hl e'
  · rw [hh] at hi hj
    split at hi <;> split at hj
    · rename_i e1 e2; rw [e1, e2]
    · rename_i e1 e2; subst e1; cases hi; exact (hs.hr G hG).inj i j b c' hk hj hl hc' e
    · rename_i e1 e2; subst e2; cases hj; exact (hs.hr G hG).inj i j c b hi hk hc hl e
    · exact (hs.hr G hG).inj i j c c' hi hj hc hc' e
  · rintro j hj ⟨i, c, hi, hc, e⟩
    rw [hh] at hi
    split at hi
    · rename_i e1; subst e1; exact ⟨i, b, hk, hl, e⟩
    · exact ⟨i, c, hi, hc, e⟩
theorem HS.alloc {al : Nat → Prop} {G0 : Gh} {H : CH} {w w' : World} {b : Bk} {h' : Tr Bk} (g : GI) (hs : HS al G0 H w) (hh : ∀ j, h'.get j = if j = H.n then some b else H.h.get j)
    (hw : ∀ G, Ag al G0 G → G H.n = g → live b = true → BR G H.n w' b) (hold : ∀ j, j < w.heap.size → w'.heap[j]? = w.heap[j]?) (hnew : live b = true → w.heap.size ≤ g.b) (hsz : w.heap.size ≤ w'.heap.size) (h1 : w'.os = w.os) (h2 : w'.tape = w.tape) (h3 : w'.output = w.output) :
    HS (fun k => al k ∨ k = H.n) (fun k => if k = H.n then g else G0 k) ⟨h', H.n + 1⟩ w' ∧ To al G0 H w (fun k => al k ∨ k = H.n) (fun k => if k = H.n then g else G0 k) ⟨h', H.n + 1⟩ w' := by
  have hne : ∀ k, al k → k ≠ H.n := fun k hk => Nat.ne_of_lt (hs.lt k hk)
  have hA : ∀ k, al k → (al k ∨ k = H.n) ∧ (if k = H.n then g else G0 k) = G0 k := fun k hk => ⟨.inl hk, if_neg (hne k hk)⟩
  have old : ∀ G, Ag al G0 G → ∀ j c, H.h.get j = some c → live c = true → (G j).b < w.heap.size := fun G hG j c hj hc => ((hs.hr G hG).bk j c hj hc).lt hc
  refine ⟨⟨fun k hk => ?_, fun j c hj => ?_, fun G hG => ?_⟩, ⟨Nat.le_succ _, hA, fun k hk h => h.resolve_right (Nat.ne_of_lt hk), h1, h2, h3, hsz, fun j hj _ => hold j hj, ?_⟩⟩
  · rcases hk with hk | rfl
    · exact Nat.lt_succ_of_lt (hs.lt k hk)
    · exact Nat.lt_succ_self _
  · rw [hh] at hj
    split at hj
    · exact .inr (by assumption)
    · exact .inl (hs.pr j c hj)
  · have hG' : Ag al G0 G := hG.mono hA
    have hn : G H.n = g := (hG H.n (.inr (Eq.refl _))).trans (if_pos (Eq.refl _))
    refine ⟨fun j c hj hc => ?_, fun i j c c' hi hj hc hc' e => ?_⟩
    · rw [hh] at hj
      split at hj
      · rename_i e
        subst e
        cases hj
        exact hw G hG' hn hc
      · exact ((hs.hr G hG').bk j c hj hc).keep (hold _ (old G hG' j c hj hc))
    · rw [hh] at hi hj
      split at hi <;> split at hj
      · rename_i e1 e2; rw [e1, e2]
      · rename_i e1 e2; subst e1; cases hi; have := old G hG' j c' hj hc'; have := hnew hc; rw [hn] at e; omega
      · rename_i e1 e2; subst e2; cases hj; have := old G hG' i c hi hc; have := hnew hc'; rw [hn] at e; omega
      · exact (hs.hr G hG').inj i j c c' hi hj hc hc' e
  · rintro j hj ⟨i, c, hi, hc, e⟩
    rw [hh] at hi
    split at hi
    · rename_i e1
      subst e1
      cases hi
      dsimp only at e
      rw [if_pos (Eq.refl _)] at e
      have := hnew hc
      omega
    · rename_i e1
      dsimp only at e
      rw [if_neg e1] at e
      exact ⟨i, c, hi, hc, e⟩
end Go.Proofs.YtmhnlkakbadkgaaGreat.Ck
