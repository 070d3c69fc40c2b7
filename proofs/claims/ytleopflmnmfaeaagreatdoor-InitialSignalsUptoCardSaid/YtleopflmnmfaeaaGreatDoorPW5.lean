/-
A part of the proof that the statement InitialSignals holds of the given program (second form, tied card): a world that meets the row.
-/
import Derived.Test.YtleopflmnmfaeaaGreatDoorPS
import Derived.Test.YtleopflmnmfaeaaGreatDoorPW3
import Derived.SevenTiedAt
set_option autoImplicit false
set_option linter.unusedSimpArgs false
set_option linter.unusedVariables false
set_option linter.unnecessarySimpa false
section
set_option maxRecDepth 100000
set_option maxHeartbeats 100000000
namespace Go.Proofs.YtleopflmnmfaeaaGreatDoor
open Go.ChangeShapes Go.WideShapes Go.ChangeAt Go.RowKit Go.Lw
noncomputable abbrev wargs4 : Array Value := #[.agg #[.string .empty, .slice none 0 0], .int .u8 0, .string .empty, .string .empty]
theorem laid_met4 (os : Os) : laidMet Tryz.prog Rows.initialSignalsUptoRow.laid ((laidWorld os).forCall (fun _ _ => 0) ⟨#[], wargs4, []⟩).memory :=
 laidMet_of_run' 8 (by kernel_rfl) (by kernel_rfl)
theorem reads4 (os : Os) {H : Type} (enc : TypeId × Value → H) : ∃ places, DataW.whole enc Tryz.prog ((laidWorld os).forCall (fun _ _ => 0) ⟨#[], wargs4, []⟩).memory Tryz.f4.params.toList Rows.initialSignalsSpec.vars false wargs4.toList 8 = some ([.agg [.lit (.string []), .nil], .lit (.int .u8 0), .lit (.string []), .lit (.string [])], [], places) :=
 ⟨[], by kernel_rfl⟩
theorem liftedUpto4 (os : Os) (started : os.Started) (H : Type) (enc : TypeId × Value → H) (F : Stop.Interp) :
  ReturnsInHanded {} Tryz.checked os 4 .any ((Rows.OpenSpec.upto Rows.initialSignalsSpec).preRow enc Tryz.prog Tryz.f4 Rows.initialSignalsUptoRow.domain false Rows.initialSignalsUptoRow.laid) (((Rows.OpenSpec.upto Rows.initialSignalsSpec).at F).post enc Tryz.prog Tryz.f4 false true false false) := by
 obtain ⟨places, hx⟩   := reads4 os enc
 refine returnsInHanded_of_row (C := Tryz.checked) (s := Rows.OpenSpec.upto Rows.initialSignalsSpec) ownK started (by kernel_rfl) Tryz.func4
  (witness_row_at (enc := enc) (C := Tryz.checked) false (laidWorld os) wargs4 rfl (by kernel_rfl) (by kernel_rfl) (by kernel_rfl)
   (OpenSpec.preRow_of_cond 8 hx (by kernel_rfl) (fun k hk => by cases hk; kernel_rfl) (by kernel_rfl) (laid_met4 os))) ?_
 intro W base args ds gs before hval hW _ hcond _ _ _ _
 exact contract4 H enc W base args ds gs before hval hW (hcond _ rfl)
end Go.Proofs.YtleopflmnmfaeaaGreatDoor
end
