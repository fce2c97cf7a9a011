/- W: rounds 68 to 74 of Run: the kernel runs them. -/
import Derived.Test.YthengmpnfcclbaaGreatDoorStW
import Derived.Test.YthengmpnfcclbaaGreatDoorKmA
namespace Go.Proofs.YthengmpnfcclbaaGreatDoor
open Go Go.RowKit
theorem pcW4 : litChk (evRounds (kev runL) 6 stW4.st) .normal stW5 = true := by kernel_rfl
end Go.Proofs.YthengmpnfcclbaaGreatDoor
