/- JudgeKnown: rounds 25 to 27 of its loop: the kernel runs them. -/
import Derived.Test.YtcpafphgkbfahaaGreatKnA
namespace Go.Proofs.YtcpafphgkbfahaaGreat
open Go Go.RowKit
theorem knownRound25 : segChk (kev L5 [(1, .int .i64 25)]) .normal [(1, .int .i64 26)] = true := by kernel_rfl
theorem knownRound26 : segChk (kev L5 [(1, .int .i64 26)]) .normal [(1, .int .i64 27)] = true := by kernel_rfl
theorem knownRound27 : segChk (kev L5 [(1, .int .i64 27)]) .normal [(1, .int .i64 28)] = true := by kernel_rfl
end Go.Proofs.YtcpafphgkbfahaaGreat
