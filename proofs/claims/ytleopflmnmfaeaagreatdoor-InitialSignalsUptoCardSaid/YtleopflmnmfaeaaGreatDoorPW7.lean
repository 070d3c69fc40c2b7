/-
The tied card of InitialSignals, second form, holds: for every signal, order and two times, of bulk at most 1048576 together, the Go law InitialSignals returns true and its arguments read as before.
Conditions: unicode/utf8.acceptRanges and unicode/utf8.first read as the program lays them (tied by the given text); the second form's bound.
-/
import Derived.Test.YtleopflmnmfaeaaGreatDoorPW6
import Derived.SevenTiedAt
set_option autoImplicit false
set_option linter.unusedSimpArgs false
set_option linter.unusedVariables false
set_option linter.unnecessarySimpa false
section
set_option maxRecDepth 100000
set_option maxHeartbeats 100000000
namespace Go.Proofs.YtleopflmnmfaeaaGreatDoor
open Go.ChangeShapes Go.WideShapes Go.ChangeAt Go.RowKit Go.Lw
theorem plainRow4 (f : FuncId) (fn : Func) (hf : Tryz.pinned.checked.prog.funcNamed Rows.initialSignalsUptoRow.func = some f) (hfn : Tryz.pinned.checked.prog.funcs[f]? = some fn) :
  false = Tryz.pinned.checked.prog.looks [] ∧ ∀ (j : Nat) t, fn.params[j]? = some t → Tryz.pinned.checked.prog.wantsStandIn t = false := by
 obtain rfl : f = 4 := Option.some.inj ((show Tryz.prog.funcNamed Rows.initialSignalsUptoRow.func = some 4 by kernel_rfl).symm.trans hf) |>.symm
 obtain rfl : fn = Tryz.f4 := (Option.some.inj (Tryz.func4.symm.trans hfn)).symm
 refine ⟨by kernel_rfl, fun j t ht => ?_⟩
 rw [Tryz.params4] at ht
 have hm : t ∈ #[24, 5, 9, 9] := Array.mem_of_getElem? ht
 simp at hm
 rcases hm with rfl | rfl | rfl
 ·exact (show Tryz.prog.wantsStandIn 24 = false by kernel_rfl)
 ·exact (show Tryz.prog.wantsStandIn 5 = false by kernel_rfl)
 ·exact (show Tryz.prog.wantsStandIn 9 = false by kernel_rfl)
theorem signals_card : Rows.InitialSignalsUptoCardSaid :=
 Claim7.holds_tied_plain_at .later [] _ _ _ _ saidUpto4 (fun _ h => by cases h) (by kernel_rfl) (fun _ h => by cases h) initialSignalsUpto_row_tie rfl ⟨rfl, rfl⟩ (by kernel_rfl) rfl plainRow4 (by kernel_rfl)
#print axioms signals_card
end Go.Proofs.YtleopflmnmfaeaaGreatDoor
end
