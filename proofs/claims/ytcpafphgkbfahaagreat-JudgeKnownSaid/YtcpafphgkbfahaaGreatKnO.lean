/- JudgeKnown: what comes ahead of its loop, the loop's end, and what comes behind it: the kernel runs them. -/
import Derived.Test.YtcpafphgkbfahaaGreatKnA
namespace Go.Proofs.YtcpafphgkbfahaaGreat
open Go Go.RowKit
theorem knownAhead : segChk (kev (s1 c5) []) .normal [] = true := by kernel_rfl
theorem knownFirst : segChk (kev (s1 (s2 c5)) []) .normal [] = true := by kernel_rfl
theorem knownStart : segChk (kev (s1 (s1 (s2 (s2 c5)))) []) .normal [(1, .int .i64 0)] = true := by kernel_rfl
theorem knownLast : segChk (kev L5 [(1, .int .i64 34)]) (.exit 0) [] = true := by kernel_rfl
theorem knownTail : segChk (kev (s2 (s2 (s2 c5))) []) .ret [(0, .bool true)] = true := by kernel_rfl
end Go.Proofs.YtcpafphgkbfahaaGreat
