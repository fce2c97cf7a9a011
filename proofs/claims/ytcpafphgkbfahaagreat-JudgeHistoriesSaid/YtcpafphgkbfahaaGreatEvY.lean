/- works() is true: the kernel runs it. -/
import Derived.Test.YtcpafphgkbfahaaGreatEvX
namespace Go.Proofs.YtcpafphgkbfahaaGreat
open Go Go.RowKit
noncomputable def outB : Option (Value × AW) → Bool
  | some (.bool true, _) => true
  | _ => false
theorem outB_some {x : Option (Value × AW)} (h : outB x = true) : ∃ A, x = some (.bool true, A) := by
  unfold outB at h
  split at h
  · exact ⟨_, rfl⟩
  · cases h
theorem works_k : outB (evCall Tryz.prog ptT noTold 1000 60 10 [] ⟨.nil, 0⟩) = true := by kernel_rfl
theorem works_c (w : World) : Calls Tryz.prog 10 #[] w fun e w' => e = .returned (.bool true) ∧ Below w.heap.size w w' := by
  obtain ⟨A, h⟩ := outB_some works_k
  exact calls_of_ev enters_ok mixed_ok ptT_ok noTold_ok h w
end Go.Proofs.YtcpafphgkbfahaaGreat
