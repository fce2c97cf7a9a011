/- JudgeKnown: rounds 28 to 29 of its loop: the kernel runs them. -/
import Derived.Test.YtcpafphgkbfahaaGreatKnA
namespace Go.Proofs.YtcpafphgkbfahaaGreat
open Go Go.RowKit
theorem knownRound28 : segChk (kev L5 [(1, .int .i64 28)]) .normal [(1, .int .i64 29)] = true := by kernel_rfl
theorem knownRound29 : segChk (kev L5 [(1, .int .i64 29)]) .normal [(1, .int .i64 30)] = true := by kernel_rfl
end Go.Proofs.YtcpafphgkbfahaaGreat
