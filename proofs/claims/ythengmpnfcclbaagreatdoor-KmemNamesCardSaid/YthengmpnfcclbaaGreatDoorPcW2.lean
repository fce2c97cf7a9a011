/- W: rounds 38 to 52 of Run: the kernel runs them. -/
import Derived.Test.YthengmpnfcclbaaGreatDoorStW
import Derived.Test.YthengmpnfcclbaaGreatDoorKmA
namespace Go.Proofs.YthengmpnfcclbaaGreatDoor
open Go Go.RowKit
theorem pcW2 : litChk (evRounds (kev runL) 14 stW2.st) .normal stW3 = true := by kernel_rfl
end Go.Proofs.YthengmpnfcclbaaGreatDoor
