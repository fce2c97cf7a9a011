/- K: rounds 42 to 60 of Run: the kernel runs them. -/
import Derived.Test.YthengmpnfcclbaaGreatDoorStK
import Derived.Test.YthengmpnfcclbaaGreatDoorKmA
namespace Go.Proofs.YthengmpnfcclbaaGreatDoor
open Go Go.RowKit
theorem pcK2 : litChk (evRounds (kev runL) 18 stK2.st) .normal stK3 = true := by kernel_rfl
end Go.Proofs.YthengmpnfcclbaaGreatDoor
