/- JudgeKnown: rounds 16 to 18 of its loop: the kernel runs them. -/
import Derived.Test.YtcpafphgkbfahaaGreatKnA
namespace Go.Proofs.YtcpafphgkbfahaaGreat
open Go Go.RowKit
theorem knownRound16 : segChk (kev L5 [(1, .int .i64 16)]) .normal [(1, .int .i64 17)] = true := by kernel_rfl
theorem knownRound17 : segChk (kev L5 [(1, .int .i64 17)]) .normal [(1, .int .i64 18)] = true := by kernel_rfl
theorem knownRound18 : segChk (kev L5 [(1, .int .i64 18)]) .normal [(1, .int .i64 19)] = true := by kernel_rfl
end Go.Proofs.YtcpafphgkbfahaaGreat
