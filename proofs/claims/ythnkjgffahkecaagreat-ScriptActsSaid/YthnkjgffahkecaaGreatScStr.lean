/- Bytes as strings: rules of the symbolic run. -/
import Derived.Test.YthnkjgffahkecaaGreatScZ
import Derived.Laws.BytesArg
namespace Go.Proofs.YthnkjgffahkecaaGreat
open Go.RowKit Go.Shelf

def isBy (P : Program) (t : TypeId) : Bool := match P.underlying t with
  | some (.slice e) => isInt P e .u8
  | _ => false
def isSr (P : Program) (t : TypeId) : Bool := match P.underlying t with
  | some .string => true
  | _ => false
theorem isBy_is {P : Program} {t : TypeId} (h : isBy P t = true) : ∃ e, P.underlying t = some (.slice e) ∧ P.underlying e = some (.int .u8) := by
  unfold isBy at h
  split at h
  · rename_i e he
    refine ⟨e, he, ?_⟩
    unfold isInt at h
    split at h
    · rename_i k hk
      rw [ikN_inj (Nat.eq_of_beq_eq_true h)]; exact hk
    · cases h
  · cases h
theorem isSr_is {P : Program} {t : TypeId} (h : isSr P t = true) : P.underlying t = some .string := by
  unfold isSr at h
  split at h
  · assumption
  · cases h
section
variable {X : Fx} {T : TE} {L : LE} {n : Nat} {F : List Fact} {D : DF} {K : KK} {k : KS} {o : Oper}
theorem yd_str {src dst : TypeId} {x : Operand} {a : Option Addr} {m cap : Nat} {xs : List Int} (hf : slF byE 1 (.slice a m cap) xs ∈ F) (hs : isBy X.P src = true) (hd : isSr X.P dst = true) (ho : o.op = .convert src dst x) (hx : evS T x = some (.o (.v (.slice a m cap)))) : Yd X o T L F (.o (.v (.string (strOfNums xs)))) := by
  refine ⟨by simp [noDef, ho], fun A ρ ac w h0 => ?_⟩
  obtain ⟨e, h1, h2⟩ := isBy_is hs
  have h3 := isSr_is hd
  have e1 := h0.ev hx
  simp only [TV.den, SV.den] at e1
  obtain ⟨a', c', g1, g2, g3⟩ := h0.a3 _ hf
  cases g1
  have hr : (convert src dst (.slice a xs.length cap)).run X.P w = .ok (.string (strOfNums xs)) w := by
    rcases g3 with rfl | ⟨b, off, rfl, _, hcell⟩
    · cases a with
      | none => exact run_convert_bytes_nil w src e h1 h2 _ _ dst h3
      | some ad =>
        rw [run_convert_bytes_string w src dst e _ _ _ h1 h2 h3, run_bytesToString w _ _ _ ([] : List Int) (by simp [loadCells, loadCellsFrom, Sem.run_pure])]
        rfl
    · refine run_convert_bytes_arg w src e h1 h2 b off _ cap xs rfl (fun i hi => ?_) dst h3
      have := hcell i (xs[i]) (List.getElem?_eq_getElem hi) 0 _ rfl
      simpa [List.getD, List.getElem?_eq_getElem hi] using this
  simp [execOp, ho, e1, hr, TV.den, SV.den]
end

theorem byte_inj {x y : Int} (hx : 0 ≤ x ∧ x ≤ 255) (hy : 0 ≤ y ∧ y ≤ 255) (h : UInt8.ofNat x.toNat = UInt8.ofNat y.toNat) : x = y := by
  have := congrArg UInt8.toNat h
  simp only [UInt8.toNat_ofNat'] at this
  omega
theorem str_inj : ∀ {xs ys : List Int}, (∀ b ∈ xs, 0 ≤ b ∧ b ≤ 255) → (∀ b ∈ ys, 0 ≤ b ∧ b ≤ 255) → strOfNums xs = strOfNums ys → xs = ys := by
  intro xs ys hx hy h
  have h1 := congrArg (fun s : ByteArray => s.data.toList) h
  simp only [strOfNums_data] at h1
  clear h
  induction xs generalizing ys with
  | nil => cases ys with
    | nil => rfl
    | cons y ys => simp at h1
  | cons x xs ih => cases ys with
    | nil => simp at h1
    | cons y ys =>
      simp only [List.map_cons, List.cons.injEq] at h1
      rw [byte_inj (hx x (List.mem_cons_self ..)) (hy y (List.mem_cons_self ..)) h1.1, ih (fun b h => hx b (List.mem_cons_of_mem _ h)) (fun b h => hy b (List.mem_cons_of_mem _ h)) h1.2]

end Go.Proofs.YthnkjgffahkecaaGreat
