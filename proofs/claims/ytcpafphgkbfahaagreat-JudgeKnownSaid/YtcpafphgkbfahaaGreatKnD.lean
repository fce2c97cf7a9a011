/- JudgeKnown: rounds 8 to 11 of its loop: the kernel runs them. -/
import Derived.Test.YtcpafphgkbfahaaGreatKnA
namespace Go.Proofs.YtcpafphgkbfahaaGreat
open Go Go.RowKit
theorem knownRound8 : segChk (kev L5 [(1, .int .i64 8)]) .normal [(1, .int .i64 9)] = true := by kernel_rfl
theorem knownRound9 : segChk (kev L5 [(1, .int .i64 9)]) .normal [(1, .int .i64 10)] = true := by kernel_rfl
theorem knownRound10 : segChk (kev L5 [(1, .int .i64 10)]) .normal [(1, .int .i64 11)] = true := by kernel_rfl
theorem knownRound11 : segChk (kev L5 [(1, .int .i64 11)]) .normal [(1, .int .i64 12)] = true := by kernel_rfl
end Go.Proofs.YtcpafphgkbfahaaGreat
