/- Acts, by the symbolic run: the law's own config. -/
import Derived.Test.YthnkjgffahkecaaGreatScRt
namespace Go.Proofs.YthnkjgffahkecaaGreat
open Go.RowKit Go.Shelf

def cfg0 : Cfg := ⟨2, 1, 1, [(false, 5, 0, 0)], 2, 2, 6, 9, 3⟩
theorem config0_c : Cm Tryz.prog 15 [] [] [] (fun e _ F1 => ∃ b, e = .returned (.agg (cfgL cfg0 (some ⟨b, 0, none⟩) 1).toArray) ∧ F1 = [blkF b (([(false, 5, 0, 0)] : List Frm).flatMap frmL) 84]) := by
  refine cm_of (tab := tb) (ok := tbOk) [] Tryz.func15 Tryz.ntmps15 rfl rfl (fun _ _ => rfl) ?_
  intro w0 A0
  exact endR_seal [1] [] rfl rfl rfl rfl ⟨rfl, rfl⟩ rfl (fun ρ => ⟨ρ 1, rfl, rfl⟩) (by simp)
theorem config_c : Cm Tryz.prog 15 [] [] [] (fun e _ F1 => ∃ b, e = .returned (.agg (cfgL cfg0 (some ⟨b, 0, none⟩) 1).toArray) ∧ F1 = [slF frmL 4 (.slice (some ⟨b, 0, none⟩) cfg0.fs.length 1) cfg0.fs]) := by
  refine config0_c.opened ?_
  rintro e cs F1 A w ⟨b, rfl, rfl⟩ hF
  refine ⟨_, ⟨b, rfl, rfl⟩, fun f hf => ?_⟩
  cases List.mem_singleton.1 hf
  exact slF_blkN rfl frmL_len rfl (hF _ (List.mem_singleton.2 rfl))
def wa1 : Ac := ⟨1, 1, 0, 0, ⟨1, 0, 5, 2, 0, 0, 0, 0⟩, 0, 0⟩
def wa2 : Ac := ⟨1, 0, 0, 0, ⟨7, 0, 0, 0, 0, 0, 3, -2⟩, 0, 0⟩
def wa3 : Ac := ⟨7, 1, 0, 0, ask0 0, 4, 5⟩
def wa4 : Ac := ⟨2, 1, 0, 0, ask0 0, 0, 0⟩
def wa5 : Ac := ⟨2, 2, 0, 0, ask0 0, 0, 0⟩
theorem raw_w1 : rawX cfg0 [wa1, wa2, wa3] = ([0, 1, 0, 0, 4, 2, 0, 0, 0, 6, 0, 0, 2, 126, 6, 1, 4, 5], 0) := by decide
theorem acts_w : actsX cfg0 [9, 3, 2] = [wa4] := by rfl
theorem raw_w2 : rawX cfg0 [wa5] = ([], 350) := by decide

end Go.Proofs.YthnkjgffahkecaaGreat
