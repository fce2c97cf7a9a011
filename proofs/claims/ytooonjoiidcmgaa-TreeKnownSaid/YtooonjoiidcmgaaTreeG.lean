/- 'works': a tree of its own still answers. -/
import Derived.Test.YtooonjoiidcmgaaTreeF
namespace Go.Proofs.Ytooonjoiidcmgaa
open Go.RowKit Go.Shelf

theorem below_then {n₀ : Nat} {a b c : World} (h : Below n₀ a b) (k : Below n₀ b c) : Below n₀ a c :=
  ⟨k.os.trans h.os, k.tape.trans h.tape, k.output.trans h.output, Nat.le_trans h.size k.size, fun i hi => (k.block i hi).trans (h.block i hi)⟩
theorem below_low {n₀ m : Nat} {a b : World} (h : Below m a b) (hn : n₀ ≤ m) : Below n₀ a b :=
  ⟨h.os, h.tape, h.output, h.size, fun i hi => h.block i (by omega)⟩
/-- a tree of one's own, and what lay ahead of it as it lay -/
def Kept (n₀ : Nat) (w₀ w : World) (B : Nat) (st : List Nd) : Prop := TO n₀ w B st ∧ Below n₀ w₀ w
theorem Kept.turn {n₀ : Nat} {w₀ w w' : World} {B : Nat} {st st' : List Nd} (h : Kept n₀ w₀ w B st) (h' : TO n₀ w' B st') (ht : Turned (STy n₀ TTy w) w w') : Kept n₀ w₀ w' B st' :=
  ⟨h', below_then h.2 (ht.own h.1.lt)⟩
theorem Kept.below {n₀ : Nat} {w₀ w w' : World} {B : Nat} {st : List Nd} (h : Kept n₀ w₀ w B st) (hb : Below w.heap.size w w') : Kept n₀ w₀ w' B st :=
  ⟨h.1.below hb, below_then h.2 (below_low hb h.1.lt)⟩

theorem numAt_lit (w : World) (xs : List Nat) (cs : Array Value) (t : TypeId) (h : cs = (xs.map encI).toArray) : NumAt (w.alloc (.cells cs t)) (some ⟨w.heap.size, 0, none⟩) xs.length xs := by
  intro j hj
  refine ⟨_, rfl, by simp, ?_⟩
  rw [cell_lit, h]; simp [encI, hj]

def q1 : List Nd := [⟨0, 1, false⟩]
def q2 : List Nd := [⟨0, 1, false⟩, ⟨1, 2, false⟩]
def q3 : List Nd := [⟨0, 1, false⟩, ⟨1, 2, false⟩, ⟨2, 3, false⟩]
def q4 : List Nd := [⟨0, 1, false⟩, ⟨1, 2, true⟩, ⟨2, 3, false⟩]
def q5 : List Nd := [⟨0, 1, false⟩, ⟨1, 2, true⟩, ⟨2, 3, true⟩]

set_option maxRecDepth 100000 in
set_option maxHeartbeats 4000000 in
theorem tworks_c (w : World) : Calls Try.prog 31 #[] w fun e w' => e = .returned (.bool true) ∧ Below w.heap.size w w' := by
  go_enter Try.func31, Try.ntmps31
  go_wp2_with fail
  refine (new_o w.heap.size w (Nat.le_refl _)).mono ?_
  rintro e w1 ⟨rfl, hT, hb⟩
  have K : Hid (Kept w.heap.size w w1 (w.heap.size + 1) q1) := ⟨hT, hb⟩
  clear hT hb
  generalize w.heap.size + 1 = B at *
  go_wp2_with fail
  refine (add_o q2 2 0 K.out.1 rfl).mono ?_
  rintro e w2 ⟨rfl, hT, ht⟩
  have K2 := Lib.hid (K.out.turn hT ht)
  clear K hT ht
  go_wp2_with fail
  refine (add_o q3 3 0 K2.out.1 rfl).mono ?_
  rintro e w3 ⟨rfl, hT, ht⟩
  have K3 := Lib.hid (K2.out.turn hT ht)
  clear K2 hT ht
  go_wp2_with fail
  refine (path_o [3, 2, 1] 3 K3.out.1 rfl rfl).mono ?_
  rintro e w4 ⟨a, cap, rfl, hN, _, hb⟩
  have K4 := Lib.hid (K3.out.below hb)
  have HN := Lib.hid hN
  clear K3 hN hb
  go_wp2_with fail
  refine (eqInts_c [3, 2, 1] 3 cap _ a _ _ (by omega) (HN.out.below ((Below.refl _ _).alloc (Nat.le_refl _) _)) (numAt_lit w4 [3, 2, 1] _ _ rfl)).mono ?_
  rintro e w5 ⟨rfl, hb⟩
  have K5 := Lib.hid ((K4.out.below ((Below.refl _ w4).alloc (Nat.le_refl _) _)).below hb)
  clear K4 HN hb
  go_wp2_with fail
  refine (depth_o 3 K5.out.1 rfl).mono ?_
  rintro e w' ⟨rfl, rfl⟩
  go_wp2_with fail
  refine (off_o q4 0 K5.out.1 rfl).mono ?_
  rintro e w6 ⟨rfl, hT, ht⟩
  have K6 := Lib.hid (K5.out.turn hT ht)
  clear K5 hT ht
  go_wp2_with fail
  refine (heir_o 3 K6.out.1 rfl).mono ?_
  rintro e w7 ⟨rfl, hb⟩
  have K7 := Lib.hid (K6.out.below hb)
  clear K6 hb
  go_wp2_with fail
  refine (off_o q5 0 K7.out.1 rfl).mono ?_
  rintro e w8 ⟨rfl, hT, ht⟩
  have K8 := Lib.hid (K7.out.turn hT ht)
  clear K7 hT ht
  go_wp2_with fail
  refine (heir_o 1 K8.out.1 rfl).mono ?_
  rintro e w9 ⟨rfl, hb⟩
  have K9 := Lib.hid (K8.out.below hb)
  clear K8 hb
  go_wp2_with fail
  refine (add_o q5 0 110 K9.out.1 rfl).mono ?_
  rintro e w10 ⟨rfl, hT, ht⟩
  have K10 := Lib.hid (K9.out.turn hT ht)
  clear K9 hT ht
  go_wp2_with fail
  refine (off_o q5 292 K10.out.1 rfl).mono ?_
  rintro e w11 ⟨rfl, hT, ht⟩
  have K11 := Lib.hid (K10.out.turn hT ht)
  clear K10 hT ht
  go_wp2_with fail
  refine (off_o q5 292 K11.out.1 rfl).mono ?_
  rintro e w12 ⟨rfl, hT, ht⟩
  have K12 := Lib.hid (K11.out.turn hT ht)
  clear K11 hT ht
  go_wp2_with fail
  refine (below_o true K12.out.1 rfl).mono ?_
  rintro e w13 ⟨rfl, hb⟩
  have K13 := Lib.hid (K12.out.below hb)
  clear K12 hb
  go_wp2_with fail
  refine (parent_o 0 K13.out.1 rfl).mono ?_
  rintro e w' ⟨rfl, rfl⟩
  go_wp2_with fail
  go_ret
  exact ⟨rfl, K13.out.2⟩
end Go.Proofs.Ytooonjoiidcmgaa
