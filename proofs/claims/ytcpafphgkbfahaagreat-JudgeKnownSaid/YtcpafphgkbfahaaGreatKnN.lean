/- JudgeKnown: rounds 33 to 33 of its loop: the kernel runs them. -/
import Derived.Test.YtcpafphgkbfahaaGreatKnA
namespace Go.Proofs.YtcpafphgkbfahaaGreat
open Go Go.RowKit
theorem knownRound33 : segChk (kev L5 [(1, .int .i64 33)]) .normal [(1, .int .i64 34)] = true := by kernel_rfl
end Go.Proofs.YtcpafphgkbfahaaGreat
