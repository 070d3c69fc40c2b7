/-
  DERIVED. GIVEN WITH THE SEED: THE CARDS: each row of YtleopflmnmfaeaaGreatDoorRows.lean that lists a variable, with what it lists TIED to the program's text (the seventh form; the later family's looks); each row that meets fmt, with fmt's text TOLD by the authors' own Lean function (tested against real Go, not proved from fmt's source: count such statements apart). THE CARD IS WHAT COUNTS. Prove the row's statement (the work); the ties are given (YtleopflmnmfaeaaGreatDoorTie.lean); close each card by the builder's one call (the guide's Derived/Test/ToyasCard.lean, 'card_holds'). Laid BY PROGRAM, IN A SANDBOX (cutbox-door.mjs). By AI agents, Wed Nov 11 2026. No macro, syntax, notation, axiom, sorry.
-/
import Derived.Test.YtleopflmnmfaeaaGreatDoorRows
import GoSem.ClaimSeven
namespace Go.Proofs.YtleopflmnmfaeaaGreatDoor
namespace Rows

/-- THE TIED CARD OF 'linkworklaw19.InitialValues'. -/
def initialValuesCard : Claim7 := { stood := { row := initialValuesRow, standIns := [], harness := (true, "785d342164a26385721254a93671ad38cab4693ceb904a822ba425181b7a8538"), looks := false }, kinds := [], alts := [], laidByText := true, laidKinds := [.data, .pinned], laidTests := true, laidLooks := .later }
def InitialValuesCardSaid : Prop := Claim7.holds Tryz.pinned (.plain (OpenSpec.ofChange initialValuesSpec)) initialValuesCard

/-- THE TIED CARD OF 'linkworklaw19.InitialSignals'. -/
def initialSignalsCard : Claim7 := { stood := { row := initialSignalsRow, standIns := [], harness := (true, "785d342164a26385721254a93671ad38cab4693ceb904a822ba425181b7a8538"), looks := false }, kinds := [], alts := [], laidByText := true, laidKinds := [.data, .pinned], laidTests := true, laidLooks := .later }
def InitialSignalsCardSaid : Prop := Claim7.holds Tryz.pinned (.plain (OpenSpec.ofChange initialSignalsSpec)) initialSignalsCard

/-- THE SECOND FORM's CARD OF 'linkworklaw19.InitialValues'. -/
def initialValuesUptoCard : Claim7 := { stood := { row := initialValuesUptoRow, standIns := [], harness := (true, "785d342164a26385721254a93671ad38cab4693ceb904a822ba425181b7a8538"), looks := false }, kinds := [], alts := [], laidByText := true, laidKinds := [.data, .pinned], laidTests := true, laidLooks := .later }
def InitialValuesUptoCardSaid : Prop := Claim7.holds Tryz.pinned (.plain (OpenSpec.upto initialValuesSpec)) initialValuesUptoCard

/-- THE SECOND FORM's CARD OF 'linkworklaw19.InitialSignals'. -/
def initialSignalsUptoCard : Claim7 := { stood := { row := initialSignalsUptoRow, standIns := [], harness := (true, "785d342164a26385721254a93671ad38cab4693ceb904a822ba425181b7a8538"), looks := false }, kinds := [], alts := [], laidByText := true, laidKinds := [.data, .pinned], laidTests := true, laidLooks := .later }
def InitialSignalsUptoCardSaid : Prop := Claim7.holds Tryz.pinned (.plain (OpenSpec.upto initialSignalsSpec)) initialSignalsUptoCard
end Rows
end Go.Proofs.YtleopflmnmfaeaaGreatDoor
