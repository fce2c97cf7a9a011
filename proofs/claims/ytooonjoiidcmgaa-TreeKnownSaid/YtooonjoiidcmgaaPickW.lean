/- The chapter's examples of picks ('works') hold, in any world. -/
import Derived.Test.YtooonjoiidcmgaaPickR
namespace Go.Proofs.Ytooonjoiidcmgaa
open Go.RowKit Go.Shelf

theorem cell_lit (W : World) (cs : Array Value) (t : TypeId) (j : Nat) : (W.alloc (.cells cs t)).cell? ⟨W.heap.size, j, none⟩ = cs[j]? := by
  have := World.alloc_heap_new W (.cells cs t)
  unfold World.cell?
  rw [this]
  rfl

theorem bools_lit (W : World) (bs : List Bool) (cs : Array Value) (cap : Nat) (h : cs = (bs.map Value.bool).toArray) :
    Bools (W.alloc (.cells cs 4)).heap.size (W.alloc (.cells cs 4)) (.slice (some ⟨W.heap.size, 0, none⟩) bs.length cap) bs := by
  refine ⟨_, _, rfl, fun j hj => ⟨_, _, rfl, by simp, ?_⟩⟩
  rw [Nat.zero_add, cell_lit, h]; simp [List.getElem?_eq_getElem hj]
theorem ints_lit (W : World) (xs : List Int) (cs : Array Value) (cap : Nat) (h : cs = (xs.map (Value.int .i64)).toArray) :
    Ints (W.alloc (.cells cs 3)).heap.size (W.alloc (.cells cs 3)) (.slice (some ⟨W.heap.size, 0, none⟩) xs.length cap) xs := by
  refine ⟨_, _, rfl, fun j hj => ⟨_, _, rfl, by simp, ?_⟩⟩
  rw [Nat.zero_add, cell_lit, h]; simp [List.getElem?_eq_getElem hj]

theorem pick_at {a : Option Addr} {len cap : Nat} (bs : List Bool) {p : Int} {w : World} (x : Int) (b : Bool) (hI : Bools w.heap.size w (.slice a len cap) bs) (hp0 : -9223372036854775808 ≤ p) (hp1 : p ≤ 9223372036854775807) (hl : bs.length ≤ 17592186044416) (h : pickF bs p = (x, b)) :
    Calls Try.prog 14 #[.slice a len cap, .int .i64 p] w fun e w' => e = .returned (.tuple #[.int .i64 x, .bool b]) ∧ Below w.heap.size w w' :=
  (pick_c a len cap bs p hp0 hp1 w hI hl).mono fun e w' ⟨h1, h2⟩ => ⟨by rw [h1, h], h2⟩
theorem next_at {a : Option Addr} {len cap : Nat} (bs : List Bool) {p : Int} {w : World} (x : Int) (b : Bool) (hI : Bools w.heap.size w (.slice a len cap) bs) (hl : bs.length ≤ 140737488351232) (h : nextF bs p = (x, b)) :
    Calls Try.prog 16 #[.slice a len cap, .int .i64 p] w fun e w' => e = .returned (.tuple #[.int .i64 x, .bool b]) ∧ Below w.heap.size w w' :=
  (next_c a len cap bs p hl w hI).mono fun e w' ⟨h1, h2⟩ => ⟨by rw [h1, h], h2⟩

theorem Below.on {H : Nat} {w W W' : World} (h : Below H w W) (hs : H ≤ w.heap.size) (k : Below W.heap.size W W') : Below H w W' := h.trans (k.mono (Nat.le_trans hs h.size))

set_option maxRecDepth 100000 in
set_option maxHeartbeats 2000000 in
theorem works_c (w : World) : Calls Try.prog 18 #[] w fun e w' => e = .returned (.bool true) ∧ Below w.heap.size w w' := by
  go_enter Try.func18, Try.ntmps18
  go_wp2_with fail
  have I1 := bools_lit w [false, true, true] _ 3 rfl
  have B1 : Below w.heap.size w (w.alloc (.cells #[.bool false, .bool true, .bool true] 4)) := (Below.refl _ w).alloc (Nat.le_refl _) _
  refine (pick_at [false, true, true] 1 true I1 (by omega) (by omega) (by simp) (by decide +kernel)).mono ?_
  rintro e w1 ⟨rfl, h1⟩
  have I2 := (I1.below h1).mono h1.size
  have B2 := Below.on B1 (Nat.le_refl _) h1
  clear I1 B1 h1
  go_wp2_with fail
  refine (pick_at [false, true, true] 2 true I2 (by omega) (by omega) (by simp) (by decide +kernel)).mono ?_
  rintro e w2 ⟨rfl, h1⟩
  have I3 := (I2.below h1).mono h1.size
  have B3 := Below.on B2 (Nat.le_refl _) h1
  clear I2 B2 h1
  go_wp2_with fail
  refine (pick_at [false, true, true] 2 true I3 (by omega) (by omega) (by simp) (by decide +kernel)).mono ?_
  rintro e w3 ⟨rfl, h1⟩
  have B4 := Below.on B3 (Nat.le_refl _) h1
  clear I3 B3 h1
  go_wp2_with fail
  refine (pick_at [false] 0 false (bools_lit w3 [false] _ 1 rfl) (by omega) (by omega) (by simp) (by decide +kernel)).mono ?_
  rintro e w4 ⟨rfl, h1⟩
  have B5 := Below.on (B4.alloc B4.size _) (Nat.le_refl _) h1
  clear B4 h1
  go_wp2_with fail
  refine (next_at [true, true, false] 0 true (bools_lit w4 [true, true, false] _ 3 rfl) (by simp) (by decide +kernel)).mono ?_
  rintro e w5 ⟨rfl, h1⟩
  have B6 := Below.on (B5.alloc B5.size _) (Nat.le_refl _) h1
  clear B5 h1
  go_wp2_with fail
  refine (next_at [true, true, false] 1 true (bools_lit w5 [true, true, false] _ 3 rfl) (by simp) (by decide +kernel)).mono ?_
  rintro e w6 ⟨rfl, h1⟩
  have B7 := Below.on (B6.alloc B6.size _) (Nat.le_refl _) h1
  clear B6 h1
  go_wp2_with fail
  refine (next_at [false, true] 1 true (bools_lit w6 [false, true] _ 2 rfl) (by simp) (by decide +kernel)).mono ?_
  rintro e w7 ⟨rfl, h1⟩
  have B8 := Below.on (B7.alloc B7.size _) (Nat.le_refl _) h1
  clear B7 h1
  go_wp2_with fail
  refine (next_at [true] 0 true (bools_lit w7 [true] _ 1 rfl) (by simp) (by decide +kernel)).mono ?_
  rintro e w8 ⟨rfl, h1⟩
  have B9 := Below.on (B8.alloc B8.size _) (Nat.le_refl _) h1
  clear B8 h1
  have I := ints_lit w8 [0, 1, 1, 0, 1] _ 5 rfl
  have B := B9.alloc B9.size (.cells #[.int .i64 0, .int .i64 1, .int .i64 1, .int .i64 0, .int .i64 1] 3)
  clear B9
  have e1 : gapF [0, 1, 1, 0, 1] 0 = 2 := by decide +kernel
  have e2 : fairF [0, 1, 1, 0, 1] 2 2 = false := by decide +kernel
  have e3 : fairF [0, 1, 1, 0, 1] 2 3 = true := by decide +kernel
  go_wp2_with (first
    | (go_at_call 19; refine (gap_c _ _ [0, 1, 1, 0, 1] _ _ I (by simp)).mono ?_; rintro e w' ⟨rfl, rfl⟩)
    | (go_at_call 21; refine (fair_c _ _ [0, 1, 1, 0, 1] _ _ _ I (by simp)).mono ?_; rintro e w' ⟨rfl, rfl⟩)
    | (go_at_call 42; go_in))
  go_ret
  exact ⟨rfl, B⟩
end Go.Proofs.Ytooonjoiidcmgaa
