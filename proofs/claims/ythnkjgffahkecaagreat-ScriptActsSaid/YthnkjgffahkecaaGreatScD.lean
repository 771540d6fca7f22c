/- Asks, by the symbolic run: the parts of an ask, by its kind. -/
import Derived.Test.YthnkjgffahkecaaGreatScA
namespace Go.Proofs.YthnkjgffahkecaaGreat
open Go.RowKit Go.Shelf

abbrev fnV' (f : Nat) : Value := .func (.func f) #[] #[]
def Cp := Value × Value × Bool
def encC (p : Cp) : List Value := [p.1, p.2.1, .bool p.2.2]
theorem encC_len (p : Cp) : (encC p).length = 3 := rfl
abbrev cpV (p : Cp) : Value := .agg (encC p).toArray
def cpLock : Cp := (fnV' 111, fnV' 112, false)
def cpSlot : Cp := (fnV' 113, fnV' 114, false)
def cpUse : Cp := (fnV' 115, fnV' 116, false)
def cpWant : Cp := (fnV' 117, fnV' 118, false)
def cpPrio : Cp := (fnV' 119, fnV' 120, false)
def cpTicks : Cp := (fnV' 121, fnV' 122, false)
def cpBy : Cp := (fnV' 123, fnV' 124, true)
def tickC : List Cp := [cpLock, cpSlot, cpUse]
def kindC (q : Int) : List Cp :=
  if q = 1 then [cpLock, cpWant, cpPrio, cpTicks] else if q = 2 then [cpLock, cpWant, cpPrio] else if q = 3 then tickC else if q = 4 then tickC else if q = 5 then tickC else if q = 6 then tickC
  else if q = 7 then [cpLock, cpSlot, cpUse, cpBy] else []
/-- A map of the parts of asks. -/
def kindMF (v : Value) : Fact where
  h A w := ∃ g ms, v = .map (some g) ∧ (objF g (mapO ms)).h A w ∧ ∀ q, (∃ u, mlook ms q = some u ∧ (slF encC 3 u (kindC q)).h A w ∧ kindC q ≠ []) ∨ (mlook ms q = none ∧ kindC q = [])
  ok := fun {A A' w w'} hA hw hg h => by
    obtain ⟨g, ms, e, h1, h2⟩ := h
    refine ⟨g, ms, e, (objF g (mapO ms)).ok hA hw hg h1, fun q => ?_⟩
    rcases h2 q with ⟨u, e1, e2, e3⟩ | h3
    · exact .inl ⟨u, e1, (slF encC 3 u _).ok hA hw hg e2, e3⟩
    · exact .inr h3
set_option maxHeartbeats 4000000 in
theorem kinds_c : Cm Tryz.prog 80 [] [] [] (fun e _ F1 => ∃ v, e = .returned v ∧ F1 = [kindMF v]) := by
  refine cm_of (tab := tb) (ok := tbOk) [] Tryz.func80 Tryz.ntmps80 rfl rfl (fun _ _ => rfl) ?_
  intro w0 A0
  refine ojs_call [] [] rfl rfl rfl rfl rfl rfl rfl (by simp) (fun _ => call_lock) (by simp) (.inl rfl) ?_
  rintro e cs F1 _ ⟨rfl, rfl⟩
  refine ojs_call [] [] rfl rfl rfl rfl rfl rfl rfl (by simp) (fun _ => call_slot) (by simp) (.inl rfl) ?_
  rintro e cs F1 _ ⟨rfl, rfl⟩
  refine ojs_call [] [] rfl rfl rfl rfl rfl rfl rfl (by simp) (fun _ => call_use) (by simp) (.inl rfl) ?_
  rintro e cs F1 _ ⟨rfl, rfl⟩
  refine ojs_litOwn 1 3 (tickC.flatMap encC) rfl rfl rfl (by decide) fun g => ?_
  refine ojs_weak (wk_seal (j := 0) (enc := encC) (xs := tickC) (.inl rfl) encC_len rfl rfl) ?_
  refine ojs_makeMap rfl rfl rfl fun gm => ?_
  refine ojs_call [] [] rfl rfl rfl rfl rfl rfl rfl (by simp) (fun _ => call_lock) (by simp) (.inl rfl) ?_
  rintro e cs F1 _ ⟨rfl, rfl⟩
  refine ojs_call [] [] rfl rfl rfl rfl rfl rfl rfl (by simp) (fun _ => call_want) (by simp) (.inl rfl) ?_
  rintro e cs F1 _ ⟨rfl, rfl⟩
  refine ojs_call [] [] rfl rfl rfl rfl rfl rfl rfl (by simp) (fun _ => call_prio) (by simp) (.inl rfl) ?_
  rintro e cs F1 _ ⟨rfl, rfl⟩
  refine ojs_call [] [] rfl rfl rfl rfl rfl rfl rfl (by simp) (fun _ => call_ticks) (by simp) (.inl rfl) ?_
  rintro e cs F1 _ ⟨rfl, rfl⟩
  refine ojs_litOwn 11 3 ([cpLock, cpWant, cpPrio, cpTicks].flatMap encC) rfl rfl rfl (by decide) fun g1 => ?_
  refine ojs_weak (wk_seal (j := 2) (enc := encC) (xs := [cpLock, cpWant, cpPrio, cpTicks]) (.inl rfl) encC_len rfl rfl) ?_
  refine ojs_insert (j := 1) rfl rfl (by kernel_rfl) rfl rfl rfl (fun _ => rfl) rfl rfl ?_
  refine ojs_call [] [] rfl rfl rfl rfl rfl rfl rfl (by simp) (fun _ => call_lock) (by simp) (.inl rfl) ?_
  rintro e cs F1 _ ⟨rfl, rfl⟩
  refine ojs_call [] [] rfl rfl rfl rfl rfl rfl rfl (by simp) (fun _ => call_want) (by simp) (.inl rfl) ?_
  rintro e cs F1 _ ⟨rfl, rfl⟩
  refine ojs_call [] [] rfl rfl rfl rfl rfl rfl rfl (by simp) (fun _ => call_prio) (by simp) (.inl rfl) ?_
  rintro e cs F1 _ ⟨rfl, rfl⟩
  refine ojs_litOwn 15 3 ([cpLock, cpWant, cpPrio].flatMap encC) rfl rfl rfl (by decide) fun g2 => ?_
  refine ojs_weak (wk_seal (j := 3) (enc := encC) (xs := [cpLock, cpWant, cpPrio]) (.inl rfl) encC_len rfl rfl) ?_
  refine ojs_insert (j := 1) rfl rfl (by kernel_rfl) rfl rfl rfl (fun _ => rfl) rfl rfl ?_
  refine ojs_insert (j := 1) rfl rfl (by kernel_rfl) rfl rfl rfl (fun _ => rfl) rfl rfl ?_
  refine ojs_insert (j := 1) rfl rfl (by kernel_rfl) rfl rfl rfl (fun _ => rfl) rfl rfl ?_
  refine ojs_insert (j := 1) rfl rfl (by kernel_rfl) rfl rfl rfl (fun _ => rfl) rfl rfl ?_
  refine ojs_insert (j := 1) rfl rfl (by kernel_rfl) rfl rfl rfl (fun _ => rfl) rfl rfl ?_
  refine ojs_call [] [] rfl rfl rfl rfl rfl rfl rfl (by simp) (fun _ => call_lock) (by simp) (.inl rfl) ?_
  rintro e cs F1 _ ⟨rfl, rfl⟩
  refine ojs_call [] [] rfl rfl rfl rfl rfl rfl rfl (by simp) (fun _ => call_slot) (by simp) (.inl rfl) ?_
  rintro e cs F1 _ ⟨rfl, rfl⟩
  refine ojs_call [] [] rfl rfl rfl rfl rfl rfl rfl (by simp) (fun _ => call_use) (by simp) (.inl rfl) ?_
  rintro e cs F1 _ ⟨rfl, rfl⟩
  refine ojs_call [] [] rfl rfl rfl rfl rfl rfl rfl (by simp) (fun _ => call_by) (by simp) (.inl rfl) ?_
  rintro e cs F1 _ ⟨rfl, rfl⟩
  refine ojs_litOwn 24 3 ([cpLock, cpSlot, cpUse, cpBy].flatMap encC) rfl rfl rfl (by decide) fun g7 => ?_
  refine ojs_weak (wk_seal (j := 4) (enc := encC) (xs := [cpLock, cpSlot, cpUse, cpBy]) (.inl rfl) encC_len rfl rfl) ?_
  refine ojs_insert (j := 1) rfl rfl (by kernel_rfl) rfl rfl rfl (fun _ => rfl) rfl rfl ?_
  refine endR_weak (wk_sealOb (j := 1) rfl rfl) ?_
  refine endR_facts [kindMF (.map (some gm))] (fun A w h f hf => ?_) ?_
  · cases List.mem_singleton.1 hf
    refine ⟨gm, _, rfl, h _ (List.mem_cons_self ..), fun q => ?_⟩
    unfold kindC
    by_cases q1 : q = 1
    · subst q1; exact .inl ⟨_, rfl, h _ (by simp), by simp⟩
    by_cases q2 : q = 2
    · subst q2; exact .inl ⟨_, rfl, h _ (by simp), by simp⟩
    by_cases q3 : q = 3
    · subst q3; exact .inl ⟨_, rfl, h _ (by simp), by simp [tickC]⟩
    by_cases q4 : q = 4
    · subst q4; exact .inl ⟨_, rfl, h _ (by simp), by simp [tickC]⟩
    by_cases q5 : q = 5
    · subst q5; exact .inl ⟨_, rfl, h _ (by simp), by simp [tickC]⟩
    by_cases q6 : q = 6
    · subst q6; exact .inl ⟨_, rfl, h _ (by simp), by simp [tickC]⟩
    by_cases q7 : q = 7
    · subst q7; exact .inl ⟨_, rfl, h _ (by simp), by simp⟩
    exact .inr ⟨by simp [mlook, q1, q2, q3, q4, q5, q6, q7], by simp [q1, q2, q3, q4, q5, q6, q7]⟩
  · exact endR_ok [kindMF (.map (some gm))] rfl rfl ⟨rfl, rfl⟩ rfl (fun _ => ⟨.map (some gm), rfl, rfl⟩) (by simp)

end Go.Proofs.YthnkjgffahkecaaGreat
