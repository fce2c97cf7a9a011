/- JudgeKnown: rounds 12 to 15 of its loop: the kernel runs them. -/
import Derived.Test.YtcpafphgkbfahaaGreatKnA
namespace Go.Proofs.YtcpafphgkbfahaaGreat
open Go Go.RowKit
theorem knownRound12 : segChk (kev L5 [(1, .int .i64 12)]) .normal [(1, .int .i64 13)] = true := by kernel_rfl
theorem knownRound13 : segChk (kev L5 [(1, .int .i64 13)]) .normal [(1, .int .i64 14)] = true := by kernel_rfl
theorem knownRound14 : segChk (kev L5 [(1, .int .i64 14)]) .normal [(1, .int .i64 15)] = true := by kernel_rfl
theorem knownRound15 : segChk (kev L5 [(1, .int .i64 15)]) .normal [(1, .int .i64 16)] = true := by kernel_rfl
end Go.Proofs.YtcpafphgkbfahaaGreat
