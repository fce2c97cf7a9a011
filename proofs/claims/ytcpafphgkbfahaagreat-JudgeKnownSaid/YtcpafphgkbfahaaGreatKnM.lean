/- JudgeKnown: rounds 32 to 32 of its loop: the kernel runs them. -/
import Derived.Test.YtcpafphgkbfahaaGreatKnA
namespace Go.Proofs.YtcpafphgkbfahaaGreat
open Go Go.RowKit
theorem knownRound32 : segChk (kev L5 [(1, .int .i64 32)]) .normal [(1, .int .i64 33)] = true := by kernel_rfl
end Go.Proofs.YtcpafphgkbfahaaGreat
