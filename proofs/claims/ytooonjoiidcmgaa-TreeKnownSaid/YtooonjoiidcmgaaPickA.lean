/- Pick, the program's, tells what the plain function pickF says, of every list of bools up to 2^44 and every number. -/
import Derived.Test.YtooonjoiidcmgaaIter
import Derived.Outline
import Derived.Laws.OwnMore
import Derived.Deep.AppendLies
namespace Go.Proofs.Ytooonjoiidcmgaa
open Go.RowKit Go.Shelf

def runs (bs : List Bool) : List Nat := runsTo bs bs.length
def pickF (bs : List Bool) (p : Int) : Int × Bool :=
  if runs bs = [] then (0, false) else ((((runs bs)[(p % ((runs bs).length : Int)).toNat]?.getD 0 : Nat) : Int), true)

theorem tmod_cases (p n : Int) (hn : 0 < n) : (Int.tmod p n < 0 ∧ Int.tmod p n + n = p % n ∧ -n < Int.tmod p n) ∨ (0 ≤ Int.tmod p n ∧ Int.tmod p n = p % n ∧ Int.tmod p n < n) := by
  have h1 := Int.emod_nonneg p (by omega : n ≠ 0)
  have h2 := Int.emod_lt_of_pos p hn
  rcases Int.le_total 0 p with h | h
  · right; rw [Int.tmod_eq_emod_of_nonneg h]; omega
  · rw [Int.tmod_eq_emod]
    have : (n.natAbs : Int) = n := by omega
    by_cases hc : 0 ≤ p ∨ n ∣ p
    · rw [if_pos hc]; right; omega
    · rw [if_neg hc, this]
      have h3 : p % n ≠ 0 := fun e => hc (.inr (Int.dvd_of_emod_eq_zero e))
      left; omega

set_option maxRecDepth 100000 in
set_option maxHeartbeats 1000000 in
theorem pick_c (a : Option Addr) (len cap : Nat) (bs : List Bool) (p : Int) (_hp0 : -9223372036854775808 ≤ p) (_hp1 : p ≤ 9223372036854775807) (w : World) (hI : Bools w.heap.size w (.slice a len cap) bs) (hl : bs.length ≤ 17592186044416) :
    Calls Try.prog 14 #[.slice a len cap, .int .i64 p] w fun e w' => e = .returned (.tuple #[.int .i64 (pickF bs p).1, .bool (pickF bs p).2]) ∧ Below w.heap.size w w' := by
  have bN := Boxed.new w 22 (.slice a len cap)
  have hB0 : Below w.heap.size w (w.alloc (.cells #[.slice a len cap] 22)) := (Below.refl _ w).alloc (Nat.le_refl _) _
  have hS := running_stops Fence.wide (10 - 1 - 1) trivial rfl (by omega) w.heap.size w.heap.size _ bs (by omega) _ (by simp) (by simp) bN.cell (hI.below hB0)
  have C := collect_in Fence.wide 10 trivial trivial rfl (by omega) 56 #[.pointer (some ⟨w.heap.size, 0, none⟩)] trivial (enters_of Try.func56 (by kernel_rfl) rfl) _ _ _ (by unfold maxLen; omega) (by omega) w.heap.size _ (by simp) hS
  have hC := callsIn_wide.1 C
  have HC := Lib.hid hC
  clear hC C hS bN
  go_enter Try.func14, Try.ntmps14
  go_wp2_with fail
  refine (callsIn_wide.1 (running_in Fence.wide 10 trivial rfl _ _ _ _)).mono ?_
  rintro e w' ⟨rfl, rfl⟩
  go_wp2_with fail
  refine HC.out.mono ?_
  rintro e w1 ⟨v, ys, hS, rfl, hrow, hnil, hb⟩
  have hB1 : Below w.heap.size w w1 := hB0.trans (hb.mono (by simp))
  have HF : Hid (pickF bs p = if ys = [] then (0, false) else (((ys[(p % (ys.length : Int)).toNat]?.getD 0 : Nat) : Int), true)) := by rw [hS]; rfl
  have hyl : ys.length ≤ 17592186044416 := by rw [hS]; have := runsTo_length bs bs.length; omega
  clear hS HC hB0 hI hl hb
  cases ys with
  | nil =>
    obtain rfl : v = .slice none 0 0 := hnil.2 rfl
    clear hnil hrow
    go_wp2
    go_ret2
    exact ⟨by rw [HF.out]; rfl, hB1⟩
  | cons y ys =>
    obtain ⟨g, cap', rfl, _, _⟩ := hrow.form (by simp)
    have hcell : ∀ j, j < (y :: ys).length → w1.cell? ⟨g, j, none⟩ = some (.int .i64 (((y :: ys)[j]?.getD 0 : Nat) : Int)) := fun j hj => by
      rw [hrow.cellAt j (by omega), List.getElem?_map, List.getElem?_eq_getElem hj]; rfl
    have hne : 0 < (y :: ys).length := by simp
    have HF' : Hid (pickF bs p = ((((y :: ys)[(p % ((y :: ys).length : Int)).toNat]?.getD 0 : Nat) : Int), true)) := by unfold Hid; rw [HF.out, if_neg (by simp)]
    clear HF hnil hrow
    obtain ⟨n, hn⟩ : ∃ n, n = (y :: ys).length := ⟨_, rfl⟩
    rw [← hn] at hcell HF' hyl hne ⊢
    obtain ⟨zs, hz⟩ : ∃ zs, zs = y :: ys := ⟨_, rfl⟩
    rw [← hz] at hcell HF'
    clear hz hn
    rcases tmod_cases p n (by omega) with ⟨h1, h2, h3⟩ | ⟨h1, h2, h3⟩
    · have hx := hcell (p.tmod n + n).toNat (by omega)
      have H2 := Lib.hid h2
      clear h2 hcell
      go_wp2
      go_ret2
      exact ⟨by rw [HF'.out, ← H2.out]; rfl, hB1⟩
    · have hx := hcell (p.tmod n).toNat (by omega)
      have H2 := Lib.hid h2
      clear h2 hcell
      go_wp2
      go_ret2
      exact ⟨by rw [HF'.out, ← H2.out]; rfl, hB1⟩
end Go.Proofs.Ytooonjoiidcmgaa
