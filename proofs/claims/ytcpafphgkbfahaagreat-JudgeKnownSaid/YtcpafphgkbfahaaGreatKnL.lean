/- JudgeKnown: rounds 31 to 31 of its loop: the kernel runs them. -/
import Derived.Test.YtcpafphgkbfahaaGreatKnA
namespace Go.Proofs.YtcpafphgkbfahaaGreat
open Go Go.RowKit
theorem knownRound31 : segChk (kev L5 [(1, .int .i64 31)]) .normal [(1, .int .i64 32)] = true := by kernel_rfl
end Go.Proofs.YtcpafphgkbfahaaGreat
