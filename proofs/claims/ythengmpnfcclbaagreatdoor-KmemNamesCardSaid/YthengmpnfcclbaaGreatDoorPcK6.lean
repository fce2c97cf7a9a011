/- K: rounds 113 to 120 of Run: the kernel runs them. -/
import Derived.Test.YthengmpnfcclbaaGreatDoorStK
import Derived.Test.YthengmpnfcclbaaGreatDoorKmA
namespace Go.Proofs.YthengmpnfcclbaaGreatDoor
open Go Go.RowKit
theorem pcK6 : litChk (evRounds (kev runL) 7 stK6.st) .normal stK7 = true := by kernel_rfl
end Go.Proofs.YthengmpnfcclbaaGreatDoor
