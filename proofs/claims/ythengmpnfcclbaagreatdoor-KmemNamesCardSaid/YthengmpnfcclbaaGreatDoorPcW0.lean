/- W: rounds 0 to 19 of Run: the kernel runs them. -/
import Derived.Test.YthengmpnfcclbaaGreatDoorStW
import Derived.Test.YthengmpnfcclbaaGreatDoorKmA
namespace Go.Proofs.YthengmpnfcclbaaGreatDoor
open Go Go.RowKit
theorem pcW0 : litChk (evRounds (kev runL) 19 stW0.st) .normal stW1 = true := by kernel_rfl
end Go.Proofs.YthengmpnfcclbaaGreatDoor
