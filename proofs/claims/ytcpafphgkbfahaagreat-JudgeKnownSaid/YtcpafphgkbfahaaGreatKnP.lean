/- JudgeKnown is true, whatever the world: out of the rounds of its loop. -/
import Derived.Test.YtcpafphgkbfahaaGreatKnB
import Derived.Test.YtcpafphgkbfahaaGreatKnC
import Derived.Test.YtcpafphgkbfahaaGreatKnD
import Derived.Test.YtcpafphgkbfahaaGreatKnE
import Derived.Test.YtcpafphgkbfahaaGreatKnF
import Derived.Test.YtcpafphgkbfahaaGreatKnG
import Derived.Test.YtcpafphgkbfahaaGreatKnH
import Derived.Test.YtcpafphgkbfahaaGreatKnI
import Derived.Test.YtcpafphgkbfahaaGreatKnJ
import Derived.Test.YtcpafphgkbfahaaGreatKnK
import Derived.Test.YtcpafphgkbfahaaGreatKnL
import Derived.Test.YtcpafphgkbfahaaGreatKnM
import Derived.Test.YtcpafphgkbfahaaGreatKnN
import Derived.Test.YtcpafphgkbfahaaGreatKnO
namespace Go.Proofs.YtcpafphgkbfahaaGreat
open Go Go.RowKit
def knownAt (k : Nat) : List (Nat × Value) := [(1, .int .i64 (k : Int))]
theorem knownRounds : ∀ k, k < 34 → Seg Tryz.prog 271 L5 (knownAt k) (knownAt (k + 1)) .normal
  | 0, _ => kseg (T := knownAt 0) (T' := knownAt 1) knownRound0 rfl
  | 1, _ => kseg (T := knownAt 1) (T' := knownAt 2) knownRound1 rfl
  | 2, _ => kseg (T := knownAt 2) (T' := knownAt 3) knownRound2 rfl
  | 3, _ => kseg (T := knownAt 3) (T' := knownAt 4) knownRound3 rfl
  | 4, _ => kseg (T := knownAt 4) (T' := knownAt 5) knownRound4 rfl
  | 5, _ => kseg (T := knownAt 5) (T' := knownAt 6) knownRound5 rfl
  | 6, _ => kseg (T := knownAt 6) (T' := knownAt 7) knownRound6 rfl
  | 7, _ => kseg (T := knownAt 7) (T' := knownAt 8) knownRound7 rfl
  | 8, _ => kseg (T := knownAt 8) (T' := knownAt 9) knownRound8 rfl
  | 9, _ => kseg (T := knownAt 9) (T' := knownAt 10) knownRound9 rfl
  | 10, _ => kseg (T := knownAt 10) (T' := knownAt 11) knownRound10 rfl
  | 11, _ => kseg (T := knownAt 11) (T' := knownAt 12) knownRound11 rfl
  | 12, _ => kseg (T := knownAt 12) (T' := knownAt 13) knownRound12 rfl
  | 13, _ => kseg (T := knownAt 13) (T' := knownAt 14) knownRound13 rfl
  | 14, _ => kseg (T := knownAt 14) (T' := knownAt 15) knownRound14 rfl
  | 15, _ => kseg (T := knownAt 15) (T' := knownAt 16) knownRound15 rfl
  | 16, _ => kseg (T := knownAt 16) (T' := knownAt 17) knownRound16 rfl
  | 17, _ => kseg (T := knownAt 17) (T' := knownAt 18) knownRound17 rfl
  | 18, _ => kseg (T := knownAt 18) (T' := knownAt 19) knownRound18 rfl
  | 19, _ => kseg (T := knownAt 19) (T' := knownAt 20) knownRound19 rfl
  | 20, _ => kseg (T := knownAt 20) (T' := knownAt 21) knownRound20 rfl
  | 21, _ => kseg (T := knownAt 21) (T' := knownAt 22) knownRound21 rfl
  | 22, _ => kseg (T := knownAt 22) (T' := knownAt 23) knownRound22 rfl
  | 23, _ => kseg (T := knownAt 23) (T' := knownAt 24) knownRound23 rfl
  | 24, _ => kseg (T := knownAt 24) (T' := knownAt 25) knownRound24 rfl
  | 25, _ => kseg (T := knownAt 25) (T' := knownAt 26) knownRound25 rfl
  | 26, _ => kseg (T := knownAt 26) (T' := knownAt 27) knownRound26 rfl
  | 27, _ => kseg (T := knownAt 27) (T' := knownAt 28) knownRound27 rfl
  | 28, _ => kseg (T := knownAt 28) (T' := knownAt 29) knownRound28 rfl
  | 29, _ => kseg (T := knownAt 29) (T' := knownAt 30) knownRound29 rfl
  | 30, _ => kseg (T := knownAt 30) (T' := knownAt 31) knownRound30 rfl
  | 31, _ => kseg (T := knownAt 31) (T' := knownAt 32) knownRound31 rfl
  | 32, _ => kseg (T := knownAt 32) (T' := knownAt 33) knownRound32 rfl
  | 33, _ => kseg (T := knownAt 33) (T' := knownAt 34) knownRound33 rfl
  | k + 34, h => absurd h (by omega)
theorem known_seg : Seg Tryz.prog 271 c5 [] [(0, .bool true)] .ret := by
  rw [c5_eq]
  exact Seg.seq (kseg knownAhead rfl) (Seg.seq (kseg knownFirst rfl) (Seg.seq (Seg.seq (kseg knownStart rfl) (Seg.block (Seg.loop knownRounds (kseg (T := knownAt 34) knownLast rfl)))) (kseg knownTail rfl)))
theorem c5_body : Tryz.f5.body = some c5 := by
  unfold c5 bodyOf
  rw [Tryz.func5]
  rfl
theorem known_c (w : World) : Calls Tryz.prog 5 #[] w fun e w' => e = .returned (.bool true) ∧ Below w.heap.size w w' :=
  known_seg.calls (fn := Tryz.f5) (t := 0) Tryz.func5 c5_body rfl rfl (by simp) w
end Go.Proofs.YtcpafphgkbfahaaGreat
