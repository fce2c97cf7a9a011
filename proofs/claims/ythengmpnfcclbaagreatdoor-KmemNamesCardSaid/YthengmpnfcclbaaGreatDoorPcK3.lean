/- K: rounds 60 to 79 of Run: the kernel runs them. -/
import Derived.Test.YthengmpnfcclbaaGreatDoorStK
import Derived.Test.YthengmpnfcclbaaGreatDoorKmA
namespace Go.Proofs.YthengmpnfcclbaaGreatDoor
open Go Go.RowKit
theorem pcK3 : litChk (evRounds (kev runL) 19 stK3.st) .normal stK4 = true := by kernel_rfl
end Go.Proofs.YthengmpnfcclbaaGreatDoor
