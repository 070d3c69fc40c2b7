/-
A part of the proof that the statement InitialValues holds of the given program (second form, tied card): closed facts of the row.
-/
import Derived.Test.YtleopflmnmfaeaaGreatDoorCards
import Derived.Test.YtleopflmnmfaeaaGreatDoorTie
import Derived.WalkKit
import Derived.ProofKit
import Derived.OpenShut
import Derived.Deep.DeepHandedRow
import Derived.SevenTiedAt
set_option autoImplicit false
set_option linter.unusedSimpArgs false
set_option linter.unusedVariables false
set_option linter.unnecessarySimpa false
section
set_option maxRecDepth 100000
set_option maxHeartbeats 100000000
namespace Go.Proofs.YtleopflmnmfaeaaGreatDoor
theorem facts : joinedFacts Tryz.pinned.checked.prog 3 Tryz.f3 (Rows.OpenSpec.upto Rows.initialValuesSpec).bare Rows.initialValuesUptoRow = true := by
 unfold joinedFacts
 with_reducible repeat' (refine Bool.and_eq_true_iff.2 ⟨?_, ?_⟩)
 all_goals (as_aux_lemma => kernel_rfl)
end Go.Proofs.YtleopflmnmfaeaaGreatDoor
end
