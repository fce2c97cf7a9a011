/- Two like lists of numbers are EqInts. -/
import Derived.Test.YtooonjoiidcmgaaTreeN
namespace Go.Proofs.Ytooonjoiidcmgaa
open Go.RowKit Go.Shelf

/-- what ints_of_owns tells -/
def NumAt (w : World) (a : Option Addr) (n : Nat) (xs : List Nat) : Prop := ∀ j, j < n → ∃ b, a = some ⟨b, 0, none⟩ ∧ b < w.heap.size ∧ w.cell? ⟨b, j, none⟩ = some (.int .i64 ((xs[j]?.getD 0 : Nat) : Int))
theorem NumAt.below {w w' : World} {a : Option Addr} {n : Nat} {xs : List Nat} (h : NumAt w a n xs) (hb : Below w.heap.size w w') : NumAt w' a n xs := by
  intro j hj
  obtain ⟨b, e, hl, hc⟩ := h j hj
  exact ⟨b, e, Nat.lt_of_lt_of_le hl hb.size, (hb.cell (p := ⟨b, j, none⟩) hl).trans hc⟩

set_option maxHeartbeats 800000 in
theorem eqInts_c (xs : List Nat) (n ca cb : Nat) (a b : Option Addr) (w : World) (hn8 : n ≤ 8) (ha : NumAt w a n xs) (hb : NumAt w b n xs) :
    Calls Try.prog 51 #[.slice a n ca, .slice b n cb] w fun e w' => e = .returned (.bool true) ∧ Below w.heap.size w w' := by
  have HA := Lib.hid ha
  have HB := Lib.hid hb
  clear ha hb
  go_enter Try.func51, Try.ntmps51
  go_wp2
  go_loopw [5] (fun i wr => ∃ k : Nat, k ≤ n ∧ i = .int .i64 k ∧ Below w.heap.size w wr) (fun i _ => 8 - (intOf i).toNat)
  case atStart => exact ⟨0, Nat.zero_le _, rfl, Below.refl _ _⟩
  case round =>
    obtain ⟨k, hk, rfl, hB⟩ := hrel
    by_cases hlt : k < n
    · obtain ⟨x, rfl, _, hx⟩ := HA.out.below hB k hlt
      obtain ⟨y, rfl, _, hy⟩ := HB.out.below hB k hlt
      have h0 : (0 : Int) ≤ ((xs[k]?.getD 0 : Nat) : Int) := by omega
      generalize (xs[k]?.getD 0 : Nat) = q at *
      go_wp2
      go_quiet (fail)
      go_wp2
      go_roundw
      case rel => exact ⟨k + 1, by omega, by go_num, ⟨hB.os, hB.tape, hB.output, hB.size, hB.block⟩⟩
      case measure => simp [intOf]; omega
    · go_wp2
      go_ret
      exact ⟨rfl, hB⟩
end Go.Proofs.Ytooonjoiidcmgaa
