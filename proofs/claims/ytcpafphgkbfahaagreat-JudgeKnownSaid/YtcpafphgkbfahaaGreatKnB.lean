/- JudgeKnown: rounds 0 to 3 of its loop: the kernel runs them. -/
import Derived.Test.YtcpafphgkbfahaaGreatKnA
namespace Go.Proofs.YtcpafphgkbfahaaGreat
open Go Go.RowKit
theorem knownRound0 : segChk (kev L5 [(1, .int .i64 0)]) .normal [(1, .int .i64 1)] = true := by kernel_rfl
theorem knownRound1 : segChk (kev L5 [(1, .int .i64 1)]) .normal [(1, .int .i64 2)] = true := by kernel_rfl
theorem knownRound2 : segChk (kev L5 [(1, .int .i64 2)]) .normal [(1, .int .i64 3)] = true := by kernel_rfl
theorem knownRound3 : segChk (kev L5 [(1, .int .i64 3)]) .normal [(1, .int .i64 4)] = true := by kernel_rfl
end Go.Proofs.YtcpafphgkbfahaaGreat
