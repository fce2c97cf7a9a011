/- K: rounds 79 to 97 of Run: the kernel runs them. -/
import Derived.Test.YthengmpnfcclbaaGreatDoorStK
import Derived.Test.YthengmpnfcclbaaGreatDoorKmA
namespace Go.Proofs.YthengmpnfcclbaaGreatDoor
open Go Go.RowKit
theorem pcK4 : litChk (evRounds (kev runL) 18 stK4.st) .normal stK5 = true := by kernel_rfl
end Go.Proofs.YthengmpnfcclbaaGreatDoor
