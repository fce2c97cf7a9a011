/- JudgeKnown: rounds 19 to 21 of its loop: the kernel runs them. -/
import Derived.Test.YtcpafphgkbfahaaGreatKnA
namespace Go.Proofs.YtcpafphgkbfahaaGreat
open Go Go.RowKit
theorem knownRound19 : segChk (kev L5 [(1, .int .i64 19)]) .normal [(1, .int .i64 20)] = true := by kernel_rfl
theorem knownRound20 : segChk (kev L5 [(1, .int .i64 20)]) .normal [(1, .int .i64 21)] = true := by kernel_rfl
theorem knownRound21 : segChk (kev L5 [(1, .int .i64 21)]) .normal [(1, .int .i64 22)] = true := by kernel_rfl
end Go.Proofs.YtcpafphgkbfahaaGreat
