/- W: rounds 52 to 68 of Run: the kernel runs them. -/
import Derived.Test.YthengmpnfcclbaaGreatDoorStW
import Derived.Test.YthengmpnfcclbaaGreatDoorKmA
namespace Go.Proofs.YthengmpnfcclbaaGreatDoor
open Go Go.RowKit
theorem pcW3 : litChk (evRounds (kev runL) 16 stW3.st) .normal stW4 = true := by kernel_rfl
end Go.Proofs.YthengmpnfcclbaaGreatDoor
