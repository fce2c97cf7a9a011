/- The walks of the statements PickTells and PickGaps: true, and nothing that lay has turned. -/
import Derived.Test.YtooonjoiidcmgaaPickW
import Derived.Deep.RegionHeld3
import Derived.Deep.RegionWith
import Derived.StillTailTactics
namespace Go.Proofs.Ytooonjoiidcmgaa
open Go.RowKit Go.Shelf

set_option maxRecDepth 100000 in
set_option maxHeartbeats 1000000 in
theorem tells_walk (a : Option Addr) (len cap : Nat) (bs : List Bool) (p : Int) (w : World) (hI : Bools w.heap.size w (.slice a len cap) bs) (hp0 : -9223372036854775808 ≤ p) (hp1 : p ≤ 9223372036854775807) (hl : bs.length ≤ 17592186044416) :
    Calls Try.prog 3 #[.slice a len cap, .int .i64 p] w fun e w' => e = .returned (.bool true) ∧ Below w.heap.size w w' := by
  go_enter Try.func3, Try.ntmps3
  go_wp2_with fail
  refine (pick_c a len cap bs p hp0 hp1 _ hI hl).mono ?_
  rintro e w1 ⟨rfl, h1⟩
  have I1 := (hI.below h1).mono h1.size
  have B1 := h1
  clear hI h1
  go_wp2_with fail
  refine (rpick_c a len cap bs p _ I1 hl).mono ?_
  rintro e w2 ⟨rfl, h1⟩
  have I2 := (I1.below h1).mono h1.size
  have B2 := Below.on B1 (Nat.le_refl _) h1
  clear I1 h1 B1
  go_wp2_with fail
  refine (next_c a len cap bs p (by omega) _ I2).mono ?_
  rintro e w3 ⟨rfl, h1⟩
  have I3 := (I2.below h1).mono h1.size
  have B3 := Below.on B2 (Nat.le_refl _) h1
  clear I2 h1 B2
  go_wp2_with fail
  refine (rnext_c a len cap bs p _ _ I3 (by omega)).mono ?_
  rintro e w4 ⟨rfl, rfl⟩
  clear I3
  go_wp2_with (go_at_call 18; refine (works_c _).mono ?_; rintro e w5 ⟨rfl, h5⟩)
  go_ret
  exact ⟨rfl, Below.on B3 (Nat.le_refl _) h5⟩

theorem gap_q (n₀ : Nat) (sv : Value) (xs : List Int) (c : Int) (w : World) (hI : Ints n₀ w sv xs) (hl : xs.length ≤ 140737488351232) :
    Calls Try.prog 19 #[sv, .int .i64 c] w fun e w' => e = .returned (.int .i64 (gapF xs c)) ∧ w' = w := (gap_c n₀ sv xs c w hI hl).mono fun _ _ ⟨h1, h2⟩ => ⟨h1, h2.symm⟩
theorem rgap_q (n₀ : Nat) (sv : Value) (xs : List Int) (c : Int) (w : World) (hI : Ints n₀ w sv xs) (hl : xs.length ≤ 140737488351232) :
    Calls Try.prog 20 #[sv, .int .i64 c] w fun e w' => e = .returned (.int .i64 (gapF xs c)) ∧ w' = w := (rgap_c n₀ sv xs c w hI hl).mono fun _ _ ⟨h1, h2⟩ => ⟨h1, h2.symm⟩
theorem fair_q (n₀ : Nat) (sv : Value) (xs : List Int) (c d : Int) (w : World) (hI : Ints n₀ w sv xs) (hl : xs.length ≤ 140737488351232) :
    Calls Try.prog 21 #[sv, .int .i64 c, .int .i64 d] w fun e w' => e = .returned (.bool (fairF xs c d)) ∧ w' = w := (fair_c n₀ sv xs c d w hI hl).mono fun _ _ ⟨h1, h2⟩ => ⟨h1, h2.symm⟩
theorem rfair_q (n₀ : Nat) (sv : Value) (xs : List Int) (c d : Int) (w : World) (hI : Ints n₀ w sv xs) (hl : xs.length ≤ 140737488351232) :
    Calls Try.prog 22 #[sv, .int .i64 c, .int .i64 d] w fun e w' => e = .returned (.bool (fairF xs c d)) ∧ w' = w := (rfair_c n₀ sv xs c d w hI hl).mono fun _ _ ⟨h1, h2⟩ => ⟨h1, h2.symm⟩

theorem Ints.take {n₀ : Nat} {W : World} {a : Option Addr} {len cap : Nat} {xs : List Int} (h : Ints n₀ W (.slice a len cap) xs) (k : Nat) (hk : k ≤ len) : Ints n₀ W (.slice a k cap) (xs.take k) := by
  obtain ⟨a', cap', e, hc⟩ := h
  simp only [Value.slice.injEq] at e
  obtain ⟨rfl, rfl, rfl⟩ := e
  refine ⟨a, cap, by rw [List.length_take, Nat.min_eq_left hk], fun j hj => ?_⟩
  rw [List.length_take] at hj
  obtain ⟨b, off, e1, h1, h2⟩ := hc j (by omega)
  exact ⟨b, off, e1, h1, by rw [h2, List.getElem?_take, if_pos (by omega)]⟩

set_option maxRecDepth 100000 in
set_option maxHeartbeats 1000000 in
theorem gaps_walk (a : Option Addr) (len cap : Nat) (xs : List Int) (c d : Int) (w : World) (hI : Ints w.heap.size w (.slice a len cap) xs) (hc : len ≤ cap) (hm : cap ≤ maxLen) :
    Calls Try.prog 4 #[.slice a len cap, .agg #[.int .i64 c, .int .i64 d]] w fun e w' => e = .returned (.bool true) ∧ Below w.heap.size w w' := by
  unfold maxLen at hm
  have hB0 : Below w.heap.size w (w.alloc (.cells #[.int .i64 c, .int .i64 d] 28)).drew := ((Below.refl _ w).alloc (Nat.le_refl _) _).drew
  have hx0 : (w.alloc (.cells #[.int .i64 c, .int .i64 d] 28)).drew.cell? ⟨w.heap.size, 0, none⟩ = some (.int .i64 c) := cell_lit w _ _ 0
  have hx1 : (w.alloc (.cells #[.int .i64 c, .int .i64 d] 28)).drew.cell? ⟨w.heap.size, 1, none⟩ = some (.int .i64 d) := cell_lit w _ _ 1
  have hlen : len = xs.length := by obtain ⟨_, _, e, _⟩ := hI; simp only [Value.slice.injEq] at e; exact e.2.1
  have hlm : min len 500 = len ∨ (500 < len ∧ min len 500 = 500) := by omega
  obtain ⟨ys, hI1, hl⟩ : ∃ ys, Ints w.heap.size (w.alloc (.cells #[.int .i64 c, .int .i64 d] 28)).drew (.slice a (min len 500) cap) ys ∧ ys.length ≤ 140737488351232 :=
    ⟨_, (hI.below hB0).take (min len 500) (by omega), by rw [List.length_take]; omega⟩
  clear hI hlen
  obtain ⟨Wd, hWd⟩ : ∃ Wd, Wd = (w.alloc (.cells #[.int .i64 c, .int .i64 d] 28)).drew := ⟨_, rfl⟩
  rw [← hWd] at hB0 hx0 hx1 hI1
  have HW := Lib.hid hWd
  clear hWd
  rcases hlm with h500 | ⟨h5, h500⟩
  case' inl =>
    rw [h500] at hI1
    have h5 : len ≤ 500 := by omega
    clear h500
    go_enter Try.func4, Try.ntmps4
    go_wp2
  case' inr =>
    rw [h500] at hI1
    clear h500
    go_enter Try.func4, Try.ntmps4
    go_wp2
  all_goals
    refine wp_region_still_tail 25 (by kernel_rfl) (by kernel_rfl) ?_
    simp only [List.take_succ_cons, List.take_zero, List.drop_succ_cons, List.drop_zero]
    change wpStill Try.prog _ (w.alloc (.cells #[.int .i64 c, .int .i64 d] 28)).drew (fun a' => wpList Try.prog _ _ _ a' (w.alloc (.cells #[.int .i64 c, .int .i64 d] 28)).drew) _ _
    rw [← HW.out]
    repeat (first
      | still_step
      | (refine wpStill_step (fun K hK => ?_); go_simp; refine ⟨_, gap_q _ _ ys _ _ hI1 hl, hK _ ?_⟩; clear hK K)
      | (refine wpStill_step (fun K hK => ?_); go_simp; refine ⟨_, rgap_q _ _ ys _ _ hI1 hl, hK _ ?_⟩; clear hK K)
      | (refine wpStill_step (fun K hK => ?_); go_simp; refine ⟨_, fair_q _ _ ys _ _ _ hI1 hl, hK _ ?_⟩; clear hK K)
      | (refine wpStill_step (fun K hK => ?_); go_simp; refine ⟨_, rfair_q _ _ ys _ _ _ hI1 hl, hK _ ?_⟩; clear hK K))
    refine wpStill_nil ?_
    go_wp2_with (go_at_call 18; refine (works_c _).mono ?_; rintro e w5 ⟨rfl, h5⟩)
    go_ret
    exact ⟨rfl, Below.on hB0 (Nat.le_refl _) h5⟩
end Go.Proofs.Ytooonjoiidcmgaa
