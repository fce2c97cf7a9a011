/- 'Rows.KmemNamesCardSaid': KmemNames' row, out of its run by the evaluator, and its card. Conditions: none beyond the statement's own. -/
import Derived.Test.YthengmpnfcclbaaGreatDoorRwE3
namespace Go.Proofs.YthengmpnfcclbaaGreatDoor.kmemNames
open Go Go.ChangeShapes Go.WideShapes Go.ChangeAt Go.RowKit
set_option linter.unusedVariables false
set_option maxRecDepth 100000
theorem over : Rows.KmemNamesSaid :=
  OpenClaim.holds_of_wide 3 Tryz.f3 rfl rfl rfl rfl rfl rfl rfl ⟨rfl, rfl, rfl, rfl, rfl⟩ rfl rfl rfl rfl rfl (by kernel_rfl) Tryz.func3 closedT
    (of_decide_eq_true (by kernel_rfl)) (by unfold Func.isWrapper; first | (rw [if_pos (by decide +kernel)]; kernel_rfl) | (rw [if_neg (by decide +kernel)]; exact ⟨rfl, rfl⟩))
    (fun os started H enc _ => lifted os started H enc)
end Go.Proofs.YthengmpnfcclbaaGreatDoor.kmemNames
