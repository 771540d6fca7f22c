/- Link: LinkHolds, walked: the rounds' relations. -/
import Derived.Test.YtijifbkikgooiaaLinkW
import Derived.Test.YtijifbkikgooiaaLinkP
import Derived.Test.YtijifbkikgooiaaLib3
import Derived.Deep.LoopGhost
import Derived.Deep.DeepCutAuto
import Derived.Deep.RegionLaw
import Derived.Deep.Light
namespace Go.Proofs.Ytijifbkikgooiaa
open Go.RowKit Go.Shelf

/-- A block holds a link. -/
def BoxAt (W : World) (A : Nat) (l : Lk) : Prop :=
  ∃ a c d c', W.heap[A]? = some (.cells #[.int .i64 l.inc, .slice a l.out.length c, .slice d l.inn.length c'] 25 (0, 0)) ∧ LkR W (.agg #[.int .i64 l.inc, .slice a l.out.length c, .slice d l.inn.length c']) l
theorem BoxAt.below {W W' : World} {A : Nat} {l : Lk} (h : BoxAt W A l) (hb : Below W.heap.size W W') : BoxAt W' A l := by
  obtain ⟨a, c, d, c', h1, h2⟩ := h
  exact ⟨a, c, d, c', blk_keep h1 hb, h2.below hb⟩
theorem LkOwn.tch {W W' : World} {base A : Nat} {r : Option Nat} {v : Value} {l : Lk} (h : LkOwn W base v l) (ht : Tch A r W W') (hA : A < base) (hr : ∀ k, r = some k → k < base) : LkOwn W' base v l := by
  obtain ⟨s1, s2, hv, h1, h2⟩ := h
  have key : ∀ {e k v n xs}, W.ownsRow base e k v n xs → v.ownBlock = none ∨ v.ownBlock ≠ r := fun {e k v n xs} ho => by
    rcases ho.2 with ⟨rfl, _⟩ | ⟨g, cap, cur, rfl, hg, _⟩
    · exact .inl rfl
    · right
      intro he
      have := hr g he.symm
      omega
  exact ⟨s1, s2, hv, ht.own h1 hA (key h1), ht.own h2 hA (key h2)⟩

/-- What the sender's rounds keep. V: the world behind both links' making; A, B: the links' blocks. -/
def RelA (w V : World) (A B : Nat) (k : Nat) (v9 : Value) (wr : World) : Prop :=
  ∃ inc s st, Inv1 k inc s st ∧ BoxAt wr A (stL inc s) ∧ wr.ownsRow (B + 1) 27 2 v9 st.length (st.flatMap encP) ∧ Below w.heap.size w wr ∧ Tch A none V wr
/-- What stands behind a stamp's append. -/
def MidA (w V : World) (A B T : Nat) (l : Lk) (st : List (Int × Int)) (v9 : Value) (wr : World) : Prop :=
  BoxAt wr A l ∧ wr.ownsRow (B + 1) 27 2 v9 st.length (st.flatMap encP) ∧ Below w.heap.size w wr ∧ Tch A none V wr ∧
    (V.heap.size ≤ T ∧ ∃ v0 v1 v2, wr.heap[T]? = some (.cells #[v0, v1, v2] 25 (0, 0)))

theorem own_block {W : World} {base : Nat} {e : TypeId} {k : Nat} {v : Value} {n : Nat} {xs : List Value} (h : W.ownsRow base e k v n xs) : ∀ g, v.ownBlock = some g → base ≤ g ∧ g < W.heap.size := by
  intro g hg
  rcases h.2 with ⟨rfl, _⟩ | ⟨g', cap, cur, rfl, hb, hh, _⟩
  · simp [Value.ownBlock] at hg
  · simp only [Value.ownBlock, Option.some.injEq] at hg
    subst hg
    exact ⟨hb, lt_of_block hh⟩

theorem own_ne_blk {W : World} {base : Nat} {e t : TypeId} {k : Nat} {v : Value} {n : Nat} {xs : List Value} {T : Nat} {cs : Array Value} {fr : Nat × Nat} (h : W.ownsRow base e k v n xs) (hT : W.heap[T]? = some (.cells cs t fr)) (ht : t ≠ e) : v.ownBlock ≠ some T := by
  intro hg
  rcases h.2 with ⟨rfl, _⟩ | ⟨g', cap, cur, rfl, hb, hh, _⟩
  · simp [Value.ownBlock] at hg
  · simp only [Value.ownBlock, Option.some.injEq] at hg
    subst hg
    rw [hh] at hT
    simp at hT
    exact ht hT.2.1.symm
theorem LkOwn.setCell {W : World} {base : Nat} {v : Value} {l : Lk} (h : LkOwn W base v l) {p : Addr} (hp : p.block < base) (u : Value) : LkOwn (W.setCell p u) base v l := by
  obtain ⟨s1, s2, hv, h1, h2⟩ := h
  exact ⟨s1, s2, hv, ownsRow_setCell_below h1 hp u, ownsRow_setCell_below h2 hp u⟩
/-- Behind a restart: the new link is stored in T, then in A. -/
theorem rel_restart {w V wc W : World} {A B T k : Nat} {inc s : Int} {l : Lk} {v9 : Value} {a d : Option Addr} {c c' : Nat} {st : List (Int × Int)} {t0 t1 t2 a0 a1 a2 : Value}
    (hI : Inv1 (k + 1) inc s st) (hi : inc ≤ 1 + k) (hl : l = stL (inc + 1) 0) (hO : LkOwn W wc.heap.size (.agg #[.int .i64 l.inc, .slice a l.out.length c, .slice d l.inn.length c']) l) (hB : Below wc.heap.size wc W)
    (hT : W.heap[T]? = some (.cells #[t0, t1, t2] 25 (0, 0))) (hA : W.heap[A]? = some (.cells #[a0, a1, a2] 25 (0, 0))) (hTc : T < wc.heap.size) (hAc : A < wc.heap.size) (hVT : V.heap.size ≤ T) (hV : V.heap.size = B + 1) (hAB : A < B) (hwA : w.heap.size ≤ A)
    (own : wc.ownsRow (B + 1) 27 2 v9 st.length (st.flatMap encP)) (E : Below w.heap.size w wc) (ht : Tch A none V wc) :
    RelA w V A B (k + 1) v9 ((((((W.setCell ⟨T, 0, none⟩ (.int .i64 l.inc)).setCell ⟨T, 1, none⟩ (.slice a l.out.length c)).setCell ⟨T, 2, none⟩ (.slice d l.inn.length c')).setCell ⟨A, 0, none⟩ (.int .i64 l.inc)).setCell ⟨A, 1, none⟩ (.slice a l.out.length c)).setCell ⟨A, 2, none⟩ (.slice d l.inn.length c')) := by
  have hA' : (((W.setCell ⟨T, 0, none⟩ (.int .i64 l.inc)).setCell ⟨T, 1, none⟩ (.slice a l.out.length c)).setCell ⟨T, 2, none⟩ (.slice d l.inn.length c')).heap[A]? = some (.cells #[a0, a1, a2] 25 (0, 0)) := by
    rw [heap_setCell_other _ _ _ _ (by dsimp only; omega), heap_setCell_other _ _ _ _ (by dsimp only; omega), heap_setCell_other _ _ _ _ (by dsimp only; omega)]; exact hA
  have hne : v9.ownBlock ≠ some T := own_ne_blk (owns_below own hB) hT (by decide)
  have hO' := (((((hO.setCell (p := ⟨T, 0, none⟩) hTc (.int .i64 l.inc)).setCell (p := ⟨T, 1, none⟩) hTc (.slice a l.out.length c)).setCell (p := ⟨T, 2, none⟩) hTc (.slice d l.inn.length c')).setCell (p := ⟨A, 0, none⟩) hAc (.int .i64 l.inc)).setCell (p := ⟨A, 1, none⟩) hAc (.slice a l.out.length c)).setCell (p := ⟨A, 2, none⟩) hAc (.slice d l.inn.length c')
  have hwT : w.heap.size ≤ T := by omega
  subst hl
  refine ⟨inc + 1, 0, st, hI.restart hi, ⟨a, c, d, c', blk_set3 hA', hO'.reads⟩, ?_, ?_, ?_⟩
  · have o1 := ownsRow_setCell_other (ownsRow_setCell_other (ownsRow_setCell_other (owns_below own hB) (a := ⟨T, 0, none⟩) hne (.int .i64 (stL (inc + 1) 0).inc)) (a := ⟨T, 1, none⟩) hne (.slice a (stL (inc + 1) 0).out.length c)) (a := ⟨T, 2, none⟩) hne (.slice d (stL (inc + 1) 0).inn.length c')
    exact ownsRow_setCell_below (ownsRow_setCell_below (ownsRow_setCell_below o1 (a := ⟨A, 0, none⟩) (by dsimp only; omega) _) (a := ⟨A, 1, none⟩) (by dsimp only; omega) _) (a := ⟨A, 2, none⟩) (by dsimp only; omega) _
  · exact ((((((E.trans (hB.mono E.size)).setCell (p := ⟨T, 0, none⟩) hwT _).setCell (p := ⟨T, 1, none⟩) hwT _).setCell (p := ⟨T, 2, none⟩) hwT _).setCell (p := ⟨A, 0, none⟩) hwA _).setCell (p := ⟨A, 1, none⟩) hwA _).setCell (p := ⟨A, 2, none⟩) hwA _
  · exact ((((((ht.below hB).setCell (p := ⟨T, 0, none⟩) (.inr hVT) _).setCell (p := ⟨T, 1, none⟩) (.inr hVT) _).setCell (p := ⟨T, 2, none⟩) (.inr hVT) _).setCell (p := ⟨A, 0, none⟩) (.inl rfl) _).setCell (p := ⟨A, 1, none⟩) (.inl rfl) _).setCell (p := ⟨A, 2, none⟩) (.inl rfl) _

theorem Tch.weaken {A : Nat} {r : Option Nat} {W W' : World} (h : Tch A none W W') : Tch A r W W' := ⟨h.1, fun b hb h1 _ => h.2 b hb h1 (by simp)⟩
theorem mid_core {w V V3 W' : World} {A B T z n : Nat} {l : Lk} {v v9 : Value} {a d : Option Addr} {c c' : Nat} {st : List (Int × Int)} {p : Int × Int}
    (hX : Tch A v.ownBlock V3 W') (hE : Below w.heap.size w W') (hr : ∀ g, v.ownBlock = some g → B + 1 ≤ g ∧ g < z) (hn : n = st.length)
    (hown : W'.ownsRow (B + 1) 27 2 v9 (n + 1) (st.flatMap encP ++ [p].flatMap encP)) (hO : LkOwn V3 z (.agg #[.int .i64 l.inc, .slice a l.out.length c, .slice d l.inn.length c']) l)
    (hT : V3.heap[T]? = some (.cells #[.int .i64 l.inc, .slice a l.out.length c, .slice d l.inn.length c'] 25 (0, 0))) (hzT : z ≤ T) (h9 : Tch A none V V3) (hV : V.heap.size = B + 1) (hAB : A < B) (hBz : B + 1 ≤ z)
    (hA : W'.heap[A]? = some (.cells #[.int .i64 l.inc, .slice a l.out.length c, .slice d l.inn.length c'] 25 (0, 0))) : MidA w V A B T l (st ++ [p]) v9 W' := by
  refine ⟨⟨a, c, d, c', hA, LkOwn.reads (hO.tch hX (by omega) (fun k hk => (hr k hk).2))⟩, ?_, hE, h9.trans hX (fun k hk => .inl (by have := (hr k hk).1; omega)), by omega, _, _, _, hX.blk hT (by omega) ?_⟩
  · rw [List.length_append, List.length_singleton, ← hn, List.flatMap_append]
    exact hown
  · intro e
    have := (hr T e.symm).2
    omega
theorem mid_last {w V V3 X W' : World} {A B T z n : Nat} {l : Lk} {v v9 : Value} {a d : Option Addr} {c c' : Nat} {st : List (Int × Int)} {p : Int × Int}
    (hX : Tch A none V3 X) (hE : Below w.heap.size w X) (hg : X.grownBy W' v.ownBlock) (hr : ∀ g, v.ownBlock = some g → B + 1 ≤ g ∧ g < z) (hn : n = st.length)
    (hown : W'.ownsRow (B + 1) 27 2 v9 (n + 1) (st.flatMap encP ++ [p].flatMap encP)) (hO : LkOwn V3 z (.agg #[.int .i64 l.inc, .slice a l.out.length c, .slice d l.inn.length c']) l)
    (hT : V3.heap[T]? = some (.cells #[.int .i64 l.inc, .slice a l.out.length c, .slice d l.inn.length c'] 25 (0, 0))) (hzT : z ≤ T) (h9 : Tch A none V V3) (hV : V.heap.size = B + 1) (hAB : A < B) (hwA : w.heap.size ≤ A) (hBz : B + 1 ≤ z)
    (hA : X.heap[A]? = some (.cells #[.int .i64 l.inc, .slice a l.out.length c, .slice d l.inn.length c'] 25 (0, 0))) : MidA w V A B T l (st ++ [p]) v9 W' := by
  have hAr : some A ≠ v.ownBlock := fun e => by have := (hr A e.symm).1; omega
  refine mid_core (hX.weaken.grown hg) (hE.grown hg ?_ (fun k hk => ?_)) hr hn hown hO hT hzT h9 hV hAB hBz ((hg.block A (lt_of_block hA) hAr).trans hA)
  · have := lt_of_block hA; omega
  · have := (hr k hk).1; omega
theorem mid_first {w V V3 X W' : World} {A B T z n : Nat} {l : Lk} {v v9 : Value} {a d : Option Addr} {c c' : Nat} {st : List (Int × Int)} {p : Int × Int}
    (hX : Tch A none V3 X) (hE : Below w.heap.size w X) (hg : X.grownBy W' v.ownBlock) (hr : ∀ g, v.ownBlock = some g → B + 1 ≤ g ∧ g < z) (hn : n = st.length)
    (hown : W'.ownsRow (B + 1) 27 2 v9 (n + 1) (st.flatMap encP ++ [p].flatMap encP)) (hO : LkOwn V3 z (.agg #[.int .i64 l.inc, .slice a l.out.length c, .slice d l.inn.length c']) l)
    (hT : V3.heap[T]? = some (.cells #[.int .i64 l.inc, .slice a l.out.length c, .slice d l.inn.length c'] 25 (0, 0))) (hzT : z ≤ T) (h9 : Tch A none V V3) (hV : V.heap.size = B + 1) (hAB : A < B) (hwA : w.heap.size ≤ A) (hBz : B + 1 ≤ z)
    {v0 v1 v2 : Value} (hA : X.heap[A]? = some (.cells #[v0, v1, v2] 25 (0, 0))) :
    MidA w V A B T l (st ++ [p]) v9 (((W'.setCell ⟨A, 0, none⟩ (.int .i64 l.inc)).setCell ⟨A, 1, none⟩ (.slice a l.out.length c)).setCell ⟨A, 2, none⟩ (.slice d l.inn.length c')) := by
  have hAr : some A ≠ v.ownBlock := fun e => by have := (hr A e.symm).1; omega
  have hAW := (hg.block A (lt_of_block hA) hAr).trans hA
  have ho := ownsRow_setCell_below (ownsRow_setCell_below (ownsRow_setCell_below hown (a := ⟨A, 0, none⟩) (by dsimp only; omega) (.int .i64 l.inc)) (a := ⟨A, 1, none⟩) (by dsimp only; omega) (.slice a l.out.length c)) (a := ⟨A, 2, none⟩) (by dsimp only; omega) (.slice d l.inn.length c')
  refine mid_core ((((hX.weaken.grown hg).setCell (p := ⟨A, 0, none⟩) (.inl rfl) _).setCell (p := ⟨A, 1, none⟩) (.inl rfl) _).setCell (p := ⟨A, 2, none⟩) (.inl rfl) _)
    ((((hE.grown hg ?_ (fun k hk => ?_)).setCell (p := ⟨A, 0, none⟩) hwA _).setCell (p := ⟨A, 1, none⟩) hwA _).setCell (p := ⟨A, 2, none⟩) hwA _) hr hn ho hO hT hzT h9 hV hAB hBz (blk_set3 hAW)
  · have := lt_of_block hA; omega
  · have := (hr k hk).1; omega

/-- What the taker's rounds keep. V: the world behind the sender's rounds. -/
def RelB (w V : World) (B : Nat) (st : List (Int × Int)) (last : Int) (wr : World) : Prop :=
  ∃ t, Inv2 st t last ∧ BoxAt wr B (tkL t) ∧ Below w.heap.size w wr ∧ Tch B none V wr

/-- What stands behind a taking: the new link lies in Z. -/
def MidB (w V : World) (B Z : Nat) (l : Lk) (wr : World) : Prop :=
  V.heap.size ≤ Z ∧ (∃ a c d c', wr.heap[Z]? = some (.cells #[.int .i64 l.inc, .slice a l.out.length c, .slice d l.inn.length c'] 25 (0, 0)) ∧ LkOwn wr (B + 1) (.agg #[.int .i64 l.inc, .slice a l.out.length c, .slice d l.inn.length c']) l) ∧ (∃ v0 v1 v2, wr.heap[B]? = some (.cells #[v0, v1, v2] 25 (0, 0))) ∧ Below w.heap.size w wr ∧ Tch B none V wr
theorem LkOwn.base {W : World} {b b' : Nat} {v : Value} {l : Lk} (h : LkOwn W b v l) (hb : b' ≤ b) : LkOwn W b' v l := by
  obtain ⟨s1, s2, hv, h1, h2⟩ := h
  exact ⟨s1, s2, hv, owns_base h1 hb, owns_base h2 hb⟩
theorem LkOwn.below {W W' : World} {b : Nat} {v : Value} {l : Lk} (h : LkOwn W b v l) (hb : Below W.heap.size W W') : LkOwn W' b v l := by
  obtain ⟨s1, s2, hv, h1, h2⟩ := h
  exact ⟨s1, s2, hv, owns_below h1 hb, owns_below h2 hb⟩
theorem midB_after {w V wr X W : World} {B : Nat} {l : Lk} {a d : Option Addr} {c c' : Nat} {v0 v1 v2 : Value}
    (hX : Below wr.heap.size wr X) (hB : Below X.heap.size X W) (hO : LkOwn W X.heap.size (.agg #[.int .i64 l.inc, .slice a l.out.length c, .slice d l.inn.length c']) l)
    (qB : wr.heap[B]? = some (.cells #[v0, v1, v2] 25 (0, 0))) (hE : Below w.heap.size w wr) (hT : Tch B none V wr) :
    MidB w V B W.heap.size l (W.alloc (.cells #[.int .i64 l.inc, .slice a l.out.length c, .slice d l.inn.length c'] 25)) := by
  have h1 : Below wr.heap.size wr W := hX.trans (hB.mono hX.size)
  have h2 : Below W.heap.size W (W.alloc (.cells #[.int .i64 l.inc, .slice a l.out.length c, .slice d l.inn.length c'] 25)) := (Below.refl _ _).alloc (Nat.le_refl _) _
  have h3 := h1.trans (h2.mono h1.size)
  exact ⟨Nat.le_trans hT.1 h1.size, ⟨a, c, d, c', blk_new _ _, (hO.base (by have := lt_of_block qB; have := hX.size; omega)).below h2⟩, ⟨v0, v1, v2, blk_keep qB h3⟩, hE.trans (h3.mono hE.size), hT.below h3⟩
theorem midB_before {w V wr X W : World} {B Z : Nat} {l : Lk} {a d : Option Addr} {c c' : Nat} {v0 v1 v2 z0 z1 z2 : Value}
    (hX : Below wr.heap.size wr X) (hZ : X.heap[Z]? = some (.cells #[z0, z1, z2] 25 (0, 0))) (hZw : wr.heap.size ≤ Z) (hB : Below X.heap.size X W) (hO : LkOwn W X.heap.size (.agg #[.int .i64 l.inc, .slice a l.out.length c, .slice d l.inn.length c']) l)
    (qB : wr.heap[B]? = some (.cells #[v0, v1, v2] 25 (0, 0))) (hE : Below w.heap.size w wr) (hT : Tch B none V wr) :
    MidB w V B Z l (((W.setCell ⟨Z, 0, none⟩ (.int .i64 l.inc)).setCell ⟨Z, 1, none⟩ (.slice a l.out.length c)).setCell ⟨Z, 2, none⟩ (.slice d l.inn.length c')) := by
  have hZX := lt_of_block hZ
  have h1 : Below wr.heap.size wr W := hX.trans (hB.mono hX.size)
  have h3 : Below wr.heap.size wr (((W.setCell ⟨Z, 0, none⟩ (.int .i64 l.inc)).setCell ⟨Z, 1, none⟩ (.slice a l.out.length c)).setCell ⟨Z, 2, none⟩ (.slice d l.inn.length c')) :=
    ((h1.setCell (p := ⟨Z, 0, none⟩) hZw _).setCell (p := ⟨Z, 1, none⟩) hZw _).setCell (p := ⟨Z, 2, none⟩) hZw _
  exact ⟨Nat.le_trans hT.1 hZw, ⟨a, c, d, c', blk_set3 (blk_keep hZ hB), LkOwn.base (((hO.setCell (p := ⟨Z, 0, none⟩) hZX _).setCell (p := ⟨Z, 1, none⟩) hZX _).setCell (p := ⟨Z, 2, none⟩) hZX _) (by have := lt_of_block qB; have := hX.size; omega)⟩, ⟨v0, v1, v2, blk_keep qB h3⟩, hE.trans (h3.mono hE.size), hT.below h3⟩

theorem relB_next {w V wc : World} {B : Nat} {st : List (Int × Int)} {t : Int × Int} {last m : Int} {a d : Option Addr} {c c' : Nat} {v0 v1 v2 : Value}
    (hI : Inv2 st t last) (hm : m = last) (hO : LkOwn wc (B + 1) (.agg #[.int .i64 (tkL t).inc, .slice a (tkL t).out.length c, .slice d (tkL t).inn.length c']) (tkL t))
    (qB : wc.heap[B]? = some (.cells #[v0, v1, v2] 25 (0, 0))) (hE : Below w.heap.size w wc) (hwB : w.heap.size ≤ B) (hT : Tch B none V wc) :
    RelB w V B st m (((wc.setCell ⟨B, 0, none⟩ (.int .i64 (tkL t).inc)).setCell ⟨B, 1, none⟩ (.slice a (tkL t).out.length c)).setCell ⟨B, 2, none⟩ (.slice d (tkL t).inn.length c')).drew := by
  subst hm
  have h1 : ∀ W', Tch B none W' wc → Tch B none W' (((wc.setCell ⟨B, 0, none⟩ (.int .i64 (tkL t).inc)).setCell ⟨B, 1, none⟩ (.slice a (tkL t).out.length c)).setCell ⟨B, 2, none⟩ (.slice d (tkL t).inn.length c')).drew := fun W' h =>
    (((h.setCell (p := ⟨B, 0, none⟩) (.inl rfl) _).setCell (p := ⟨B, 1, none⟩) (.inl rfl) _).setCell (p := ⟨B, 2, none⟩) (.inl rfl) _).drew
  exact ⟨t, hI, ⟨a, c, d, c', blk_set3 qB, (hO.tch (h1 wc (Tch.refl _ _ _)) (by omega) (fun k hk => by cases hk)).reads⟩, (((hE.setCell (p := ⟨B, 0, none⟩) hwB _).setCell (p := ⟨B, 1, none⟩) hwB _).setCell (p := ⟨B, 2, none⟩) hwB _).drew, h1 V hT⟩

theorem Try.infoP2 : (Try.prog.info? 27).map (fun i => (i.zero, i.size, i.bytes)) = some (some (.agg #[.int .i64 0, .int .i64 0]), 2, 16) := by kernel_rfl

end Go.Proofs.Ytijifbkikgooiaa
