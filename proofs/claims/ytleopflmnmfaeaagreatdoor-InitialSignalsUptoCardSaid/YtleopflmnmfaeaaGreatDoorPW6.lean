/-
A part of the proof that the statement InitialSignals holds of the given program (second form, tied card): the row of the second form.
-/
import Derived.Test.YtleopflmnmfaeaaGreatDoorPW4
import Derived.Test.YtleopflmnmfaeaaGreatDoorPW5
import Derived.SevenTiedAt
set_option autoImplicit false
set_option linter.unusedSimpArgs false
set_option linter.unusedVariables false
set_option linter.unnecessarySimpa false
section
set_option maxRecDepth 100000
set_option maxHeartbeats 100000000
namespace Go.Proofs.YtleopflmnmfaeaaGreatDoor
open Go.ChangeShapes Go.WideShapes Go.ChangeAt Go.RowKit Go.Lw
theorem saidUpto4 : Rows.InitialSignalsUptoSaid :=
 OpenClaim.holds_of_cond 4 Tryz.f4 rfl rfl rfl rfl rfl rfl rfl ⟨rfl, rfl, rfl, rfl, rfl⟩ rfl rfl rfl rfl rfl (by kernel_rfl) Tryz.func4 facts4
  (of_decide_eq_true (by kernel_rfl)) (by unfold Func.isWrapper; first | (rw [if_pos (by decide +kernel)]; kernel_rfl) | (rw [if_neg (by decide +kernel)]; exact ⟨rfl, rfl⟩))
  (fun os started H enc _ F => by rw [OpenClaim.pre_eq_preRow]; exact liftedUpto4 os started H enc F)
end Go.Proofs.YtleopflmnmfaeaaGreatDoor
end
