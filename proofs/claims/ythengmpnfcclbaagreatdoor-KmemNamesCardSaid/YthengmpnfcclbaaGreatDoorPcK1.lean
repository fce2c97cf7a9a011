/- K: rounds 21 to 42 of Run: the kernel runs them. -/
import Derived.Test.YthengmpnfcclbaaGreatDoorStK
import Derived.Test.YthengmpnfcclbaaGreatDoorKmA
namespace Go.Proofs.YthengmpnfcclbaaGreatDoor
open Go Go.RowKit
theorem pcK1 : litChk (evRounds (kev runL) 21 stK1.st) .normal stK2 = true := by kernel_rfl
end Go.Proofs.YthengmpnfcclbaaGreatDoor
