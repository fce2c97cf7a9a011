/- K: rounds 97 to 113 of Run: the kernel runs them. -/
import Derived.Test.YthengmpnfcclbaaGreatDoorStK
import Derived.Test.YthengmpnfcclbaaGreatDoorKmA
namespace Go.Proofs.YthengmpnfcclbaaGreatDoor
open Go Go.RowKit
theorem pcK5 : litChk (evRounds (kev runL) 16 stK5.st) .normal stK6 = true := by kernel_rfl
end Go.Proofs.YthengmpnfcclbaaGreatDoor
