/- W: rounds 19 to 38 of Run: the kernel runs them. -/
import Derived.Test.YthengmpnfcclbaaGreatDoorStW
import Derived.Test.YthengmpnfcclbaaGreatDoorKmA
namespace Go.Proofs.YthengmpnfcclbaaGreatDoor
open Go Go.RowKit
theorem pcW1 : litChk (evRounds (kev runL) 19 stW1.st) .normal stW2 = true := by kernel_rfl
end Go.Proofs.YthengmpnfcclbaaGreatDoor
