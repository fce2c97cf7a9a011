/- JudgeKnown: rounds 22 to 24 of its loop: the kernel runs them. -/
import Derived.Test.YtcpafphgkbfahaaGreatKnA
namespace Go.Proofs.YtcpafphgkbfahaaGreat
open Go Go.RowKit
theorem knownRound22 : segChk (kev L5 [(1, .int .i64 22)]) .normal [(1, .int .i64 23)] = true := by kernel_rfl
theorem knownRound23 : segChk (kev L5 [(1, .int .i64 23)]) .normal [(1, .int .i64 24)] = true := by kernel_rfl
theorem knownRound24 : segChk (kev L5 [(1, .int .i64 24)]) .normal [(1, .int .i64 25)] = true := by kernel_rfl
end Go.Proofs.YtcpafphgkbfahaaGreat
