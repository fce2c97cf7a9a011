/- The walks of the statements PickTells and PickGaps: true, and nothing that lay has turned. -/
import Derived.Test.YtooonjoiidcmgaaPickW
import Derived.Deep.RegionHeld3
import Derived.Deep.RegionWith
namespace Go.Proofs.Ytooonjoiidcmgaa
open Go.RowKit Go.Shelf

set_option maxRecDepth 100000 in
set_option maxHeartbeats 1000000 in
theorem tells_walk (a : Option Addr) (len cap : Nat) (bs : List Bool) (p : Int) (w : World) (hI : Bools w.heap.size w (.slice a len cap) bs) (hp0 : -9223372036854775808 ≤ p) (hp1 : p ≤ 9223372036854775807) (hl : bs.length ≤ 17592186044416) :
    Calls Try.prog 3 #[.slice a len cap, .int .i64 p] w fun e w' => e = .returned (.bool true) ∧ Below w.heap.size w w' := by
  go_enter Try.func3, Try.ntmps3
  go_wp2_with fail
  refine (pick_c a len cap bs p hp0 hp1 _ hI hl).mono ?_
  rintro e w1 ⟨rfl, h1⟩
  have I1 := (hI.below h1).mono h1.size
  have B1 := h1
  clear hI h1
  go_wp2_with fail
  refine (rpick_c a len cap bs p _ I1 hl).mono ?_
  rintro e w2 ⟨rfl, h1⟩
  have I2 := (I1.below h1).mono h1.size
  have B2 := Below.on B1 (Nat.le_refl _) h1
  clear I1 h1 B1
  go_wp2_with fail
  refine (next_c a len cap bs p (by omega) _ I2).mono ?_
  rintro e w3 ⟨rfl, h1⟩
  have I3 := (I2.below h1).mono h1.size
  have B3 := Below.on B2 (Nat.le_refl _) h1
  clear I2 h1 B2
  go_wp2_with fail
  refine (rnext_c a len cap bs p _ _ I3 (by omega)).mono ?_
  rintro e w4 ⟨rfl, rfl⟩
  clear I3
  go_wp2_with (go_at_call 18; refine (works_c _).mono ?_; rintro e w5 ⟨rfl, h5⟩)
  go_ret
  exact ⟨rfl, Below.on B3 (Nat.le_refl _) h5⟩
end Go.Proofs.Ytooonjoiidcmgaa
