/- judge's within, its closures over a snap, IndexFunc and ContainsFunc with them. Conditions: what lies in memory. -/
import Derived.Test.YtcpafphgkbfahaaGreatLens
namespace Go.Proofs.YtcpafphgkbfahaaGreat
open Go.RowKit Go.Shelf
set_option linter.unusedVariables false
set_option linter.unusedSimpArgs false

def inR (n lo hi : Int) : Bool := decide (lo ≤ n) && decide (n ≤ hi)
theorem ret_bool {a b : Bool} (h : a = b) : Ending.returned (.bool a) = .returned (.bool b) := by rw [h]
theorem inR_true {n lo hi : Int} : inR n lo hi = true ↔ lo ≤ n ∧ n ≤ hi := by simp [inR]
theorem inR_false {n lo hi : Int} : inR n lo hi = false ↔ n < lo ∨ hi < n := by simp only [inR, Bool.and_eq_false_iff, decide_eq_false_iff_not]; omega

set_option maxHeartbeats 400000 in
theorem within_c (n lo hi : Int) (w : World) : Calls Tryz.prog 43 #[.int .i64 n, .int .i64 lo, .int .i64 hi] w fun e w' => e = .returned (.bool (inR n lo hi)) ∧ w = w' := by
  go_enter Tryz.func43, Tryz.ntmps43
  by_cases h : lo ≤ n
  · go_wp2
    go_ret
    exact ⟨ret_bool (by simp [inR]; try omega), rfl⟩
  · go_wp2
    go_ret
    exact ⟨ret_bool (by simp [inR]; try omega), rfl⟩
set_option maxHeartbeats 400000 in
theorem withinR_c (n lo hi : Int) (w : World) : Calls Tryz.prog 54 #[.int .i64 n, .int .i64 lo, .int .i64 hi] w fun e w' => e = .returned (.bool (inR n lo hi)) ∧ w = w' := by
  go_enter Tryz.func54, Tryz.ntmps54
  by_cases h : lo ≤ n
  · go_wp2
    go_ret
    exact ⟨ret_bool (by simp [inR]; try omega), rfl⟩
  · go_wp2
    go_ret
    exact ⟨ret_bool (by simp [inR]; try omega), rfl⟩

def clo (f B : Nat) : Value := .func (.func f) #[] #[.pointer (some ⟨B, 0, none⟩)]

set_option maxHeartbeats 400000 in
theorem tag_c (t : Int) (B : Nat) (a : Option Addr) (n c : Nat) (w : World) (hc : w.cell? ⟨B, 9, none⟩ = some (.slice a n c)) (hn : n ≤ 9223372036854775807) :
    Calls Tryz.prog 45 #[.int .i64 t, .pointer (some ⟨B, 0, none⟩)] w fun e w' => e = .returned (.bool (!inR t 0 n)) ∧ w = w' := by
  go_enter Tryz.func45, Tryz.ntmps45
  go_wp2_with (go_at_call 43; refine (within_c _ _ _ _).mono ?_; rintro e w' ⟨rfl, rfl⟩)
  go_ret
  exact ⟨rfl, rfl⟩
set_option maxHeartbeats 400000 in
theorem did1_c (t : Int) (B : Nat) (a : Option Addr) (n c : Nat) (w : World) (hc : w.cell? ⟨B, 10, none⟩ = some (.slice a n c)) (hn : n ≤ 9223372036854775807) :
    Calls Tryz.prog 96 #[.int .i64 t, .pointer (some ⟨B, 0, none⟩)] w fun e w' => e = .returned (.bool (!inR t 0 ((n : Int) - 1))) ∧ w = w' := by
  go_enter Tryz.func96, Tryz.ntmps96
  go_wp2_with (go_at_call 43; refine (within_c _ _ _ _).mono ?_; rintro e w' ⟨rfl, rfl⟩)
  go_ret
  exact ⟨rfl, rfl⟩
set_option maxHeartbeats 400000 in
theorem hcache_c (x0 x1 x2 x3 : Int) (x4 : Bool) (B : Nat) (a : Option Addr) (n c : Nat) (w : World) (hc : w.cell? ⟨B, 9, none⟩ = some (.slice a n c)) (hn : n ≤ 9223372036854775807) :
    Calls Tryz.prog 47 #[.agg #[.int .i64 x0, .int .i64 x1, .int .i64 x2, .int .i64 x3, .bool x4], .pointer (some ⟨B, 0, none⟩)] w fun e w' => e = .returned (.bool (!inR x0 0 ((n : Int) - 1))) ∧ Below w.heap.size w w' := by
  have hb := below_alloc w (.cells #[.int .i64 x0, .int .i64 x1, .int .i64 x2, .int .i64 x3, .bool x4] 70)
  have hc2 := (hb.cell (p := ⟨B, 9, none⟩) (World.block_lt_of_cell? w _ hc)).trans hc
  have HB := Lib.hid hb
  clear hb
  go_enter Tryz.func47, Tryz.ntmps47
  go_wp2_with (go_at_call 43; refine (within_c _ _ _ _).mono ?_; rintro e w' ⟨rfl, rfl⟩)
  go_ret
  exact ⟨rfl, HB.out⟩
end Go.Proofs.YtcpafphgkbfahaaGreat
