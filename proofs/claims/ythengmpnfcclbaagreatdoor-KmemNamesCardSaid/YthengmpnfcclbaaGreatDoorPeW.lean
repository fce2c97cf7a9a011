/- W: the ends of Run: the kernel runs them. -/
import Derived.Test.YthengmpnfcclbaaGreatDoorStW
import Derived.Test.YthengmpnfcclbaaGreatDoorKmA
namespace Go.Proofs.YthengmpnfcclbaaGreatDoor
open Go Go.RowKit
theorem pcWA : litChk (kev runA ⟨Tr.ofL [(qp 15 0), (qi 1000)] 0 .nil, [], stWA.W⟩) .normal stWA = true := by kernel_rfl
theorem pcWB : litChk (kev runB stWA.st) .normal stWA = true := by kernel_rfl
theorem pcWC : litChk (kev runC stWA.st) .normal stW0 = true := by kernel_rfl
theorem pcWL : litChk (kev runL stW5.st) (.exit 0) stWE = true := by kernel_rfl
theorem pcWR : litChk (kev runR stWE.st) .ret stWE = true := by kernel_rfl
end Go.Proofs.YthengmpnfcclbaaGreatDoor
