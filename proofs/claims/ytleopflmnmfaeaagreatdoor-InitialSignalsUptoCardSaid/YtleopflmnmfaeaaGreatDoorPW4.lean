/-
A part of the proof that the statement InitialSignals holds of the given program (second form, tied card): closed facts of the row.
-/
import Derived.Test.YtleopflmnmfaeaaGreatDoorCards
import Derived.Test.YtleopflmnmfaeaaGreatDoorTie
import Derived.WalkKit
import Derived.ProofKit
import Derived.OpenShut
import Derived.Deep.DeepHandedRow
import Derived.SevenTiedAt
set_option autoImplicit false
set_option linter.unusedSimpArgs false
set_option linter.unusedVariables false
set_option linter.unnecessarySimpa false
section
set_option maxRecDepth 100000
set_option maxHeartbeats 100000000
namespace Go.Proofs.YtleopflmnmfaeaaGreatDoor
theorem facts4 : joinedFacts Tryz.pinned.checked.prog 4 Tryz.f4 (Rows.OpenSpec.upto Rows.initialSignalsSpec).bare Rows.initialSignalsUptoRow = true := by
 unfold joinedFacts
 with_reducible repeat' (refine Bool.and_eq_true_iff.2 ⟨?_, ?_⟩)
 all_goals (as_aux_lemma => kernel_rfl)
end Go.Proofs.YtleopflmnmfaeaaGreatDoor
end
