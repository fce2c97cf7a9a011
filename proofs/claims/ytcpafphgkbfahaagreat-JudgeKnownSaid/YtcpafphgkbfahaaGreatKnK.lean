/- JudgeKnown: rounds 30 to 30 of its loop: the kernel runs them. -/
import Derived.Test.YtcpafphgkbfahaaGreatKnA
namespace Go.Proofs.YtcpafphgkbfahaaGreat
open Go Go.RowKit
theorem knownRound30 : segChk (kev L5 [(1, .int .i64 30)]) .normal [(1, .int .i64 31)] = true := by kernel_rfl
end Go.Proofs.YtcpafphgkbfahaaGreat
