/- JudgeKnown: rounds 4 to 7 of its loop: the kernel runs them. -/
import Derived.Test.YtcpafphgkbfahaaGreatKnA
namespace Go.Proofs.YtcpafphgkbfahaaGreat
open Go Go.RowKit
theorem knownRound4 : segChk (kev L5 [(1, .int .i64 4)]) .normal [(1, .int .i64 5)] = true := by kernel_rfl
theorem knownRound5 : segChk (kev L5 [(1, .int .i64 5)]) .normal [(1, .int .i64 6)] = true := by kernel_rfl
theorem knownRound6 : segChk (kev L5 [(1, .int .i64 6)]) .normal [(1, .int .i64 7)] = true := by kernel_rfl
theorem knownRound7 : segChk (kev L5 [(1, .int .i64 7)]) .normal [(1, .int .i64 8)] = true := by kernel_rfl
end Go.Proofs.YtcpafphgkbfahaaGreat
