/- K: the ends of Run: the kernel runs them. -/
import Derived.Test.YthengmpnfcclbaaGreatDoorStK
import Derived.Test.YthengmpnfcclbaaGreatDoorKmA
namespace Go.Proofs.YthengmpnfcclbaaGreatDoor
open Go Go.RowKit
theorem pcKA : litChk (kev runA ⟨Tr.ofL [(qp 56 0), (qi 20000)] 0 .nil, [], stKA.W⟩) .normal stKA = true := by kernel_rfl
theorem pcKB : litChk (kev runB stKA.st) .normal stKA = true := by kernel_rfl
theorem pcKC : litChk (kev runC stKA.st) .normal stK0 = true := by kernel_rfl
theorem pcKL : litChk (kev runL stK7.st) (.exit 0) stKE = true := by kernel_rfl
theorem pcKR : litChk (kev runR stKE.st) .ret stKE = true := by kernel_rfl
end Go.Proofs.YthengmpnfcclbaaGreatDoor
