/- K: rounds 0 to 21 of Run: the kernel runs them. -/
import Derived.Test.YthengmpnfcclbaaGreatDoorStK
import Derived.Test.YthengmpnfcclbaaGreatDoorKmA
namespace Go.Proofs.YthengmpnfcclbaaGreatDoor
open Go Go.RowKit
theorem pcK0 : litChk (evRounds (kev runL) 21 stK0.st) .normal stK1 = true := by kernel_rfl
end Go.Proofs.YthengmpnfcclbaaGreatDoor
