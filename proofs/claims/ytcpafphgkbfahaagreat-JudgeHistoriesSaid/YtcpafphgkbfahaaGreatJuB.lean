/- IndexFunc and ContainsFunc over numbers and handles, with the closures of judge.shaped. Conditions: what lies in memory. -/
import Derived.Test.YtcpafphgkbfahaaGreatJuA
namespace Go.Proofs.YtcpafphgkbfahaaGreat
open Go.RowKit Go.Shelf
set_option linter.unusedVariables false
set_option linter.unusedSimpArgs false

set_option maxHeartbeats 400000 in
theorem indexTags_c {P : Nat → Prop} (sv : Value) (xs : List Int) (B : Nat) (a : Option Addr) (n c : Nat) (w : World) (hI : IntsP P w sv xs) (hc : w.cell? ⟨B, 9, none⟩ = some (.slice a n c)) (hn : n ≤ 9223372036854775807) :
    Calls Tryz.prog 90 #[sv, clo 45 B] w fun e w' => (∃ r : Int, e = .returned (.int .i64 r) ∧ ((r = -1 ∧ ∀ j, j < xs.length → inR (gi xs j) 0 n = true) ∨ ∃ k : Nat, k < xs.length ∧ r = k ∧ inR (gi xs k) 0 n = false)) ∧ w = w' := by
  obtain ⟨a0, c0, rfl, hlc, hcm⟩ := hI.form
  unfold maxLen at hcm
  obtain ⟨len, hlen⟩ : ∃ len, len = xs.length := ⟨_, rfl⟩
  have HL := Lib.hid hlen
  rw [← hlen] at hlc ⊢
  have HI := Lib.hid hI
  clear hlen hI
  unfold clo
  go_enter Tryz.func90, Tryz.ntmps90
  go_wp2
  go_loop [8] (fun i => ∃ k : Nat, k ≤ len ∧ i = .int .i64 k ∧ ∀ j, j < k → inR (gi xs j) 0 n = true) (fun i => len - (intOf i).toNat)
  case atStart => exact ⟨0, Nat.zero_le _, rfl, fun j hj => absurd hj (Nat.not_lt_zero _)⟩
  case round =>
    obtain ⟨k, hk, rfl, hne⟩ := hrel
    have HNE := Lib.hid hne
    clear hne
    by_cases hlt : k < len
    · obtain ⟨b, off, rfl, hcell⟩ := HI.out.at (j := k) (by rw [← HL.out]; exact hlt)
      by_cases hx : inR (gi xs k) 0 n = true
      · have HX := Lib.hid hx
        have hx' : (!inR (gi xs k) 0 n) = false := by rw [hx]; rfl
        clear hx
        go_wp2_with (go_at_call 45; refine (tag_c _ B _ _ _ _ hc hn).mono ?_; rintro e w' ⟨rfl, rfl⟩)
        go_round
        case rel => exact ⟨k + 1, by omega, by go_num, fun j hj => (Nat.lt_or_ge j k).elim (HNE.out j) (fun h => by obtain rfl : j = k := (by omega); exact HX.out)⟩
        case measure => simp [intOf]; omega
      · have hx2 : inR (gi xs k) 0 n = false := by simpa using hx
        have HX := Lib.hid hx2
        have hx' : (!inR (gi xs k) 0 n) = true := by rw [hx2]; rfl
        clear hx hx2
        go_wp2_with (go_at_call 45; refine (tag_c _ B _ _ _ _ hc hn).mono ?_; rintro e w' ⟨rfl, rfl⟩)
        go_ret
        exact ⟨⟨_, rfl, .inr ⟨k, hlt, rfl, HX.out⟩⟩, rfl⟩
    · obtain rfl : k = len := by omega
      go_wp2
      go_ret
      exact ⟨⟨_, rfl, .inl ⟨rfl, HNE.out⟩⟩, rfl⟩

set_option maxHeartbeats 400000 in
theorem containsTags_c {P : Nat → Prop} (sv : Value) (xs : List Int) (B : Nat) (a : Option Addr) (n c : Nat) (w : World) (hI : IntsP P w sv xs) (hc : w.cell? ⟨B, 9, none⟩ = some (.slice a n c)) (hn : n ≤ 9223372036854775807) :
    Calls Tryz.prog 44 #[sv, clo 45 B] w fun e w' => (∃ b : Bool, e = .returned (.bool b) ∧ (b = false ↔ ∀ j, j < xs.length → inR (gi xs j) 0 n = true)) ∧ w = w' := by
  have hX := indexTags_c sv xs B a n c w hI hc hn
  have HX := Lib.hid hX
  clear hX hI hc
  unfold clo at HX ⊢
  go_enter Tryz.func44, Tryz.ntmps44
  go_wp2_with fail
  refine HX.out.mono ?_
  rintro e w' ⟨⟨r, rfl, hr⟩, rfl⟩
  have HR := Lib.hid hr
  clear hr
  go_wp2
  go_ret
  refine ⟨⟨_, rfl, ?_⟩, rfl⟩
  rcases HR.out with ⟨rfl, h⟩ | ⟨k, hk, rfl, h⟩
  · simpa using h
  · simp only [decide_eq_false_iff_not]
    constructor
    · intro h0; omega
    · intro h0; rw [h0 k hk] at h; cases h

set_option maxHeartbeats 400000 in
theorem indexDid_c {P : Nat → Prop} (sv : Value) (xs : List Int) (B : Nat) (a : Option Addr) (n c : Nat) (w : World) (hI : IntsP P w sv xs) (hc : w.cell? ⟨B, 10, none⟩ = some (.slice a n c)) (hn : n ≤ 9223372036854775807) :
    Calls Tryz.prog 90 #[sv, clo 96 B] w fun e w' => (∃ r : Int, e = .returned (.int .i64 r) ∧ ((r = -1 ∧ ∀ j, j < xs.length → inR (gi xs j) 0 ((n : Int) - 1) = true) ∨ ∃ k : Nat, k < xs.length ∧ r = k ∧ inR (gi xs k) 0 ((n : Int) - 1) = false)) ∧ w = w' := by
  obtain ⟨a0, c0, rfl, hlc, hcm⟩ := hI.form
  unfold maxLen at hcm
  obtain ⟨len, hlen⟩ : ∃ len, len = xs.length := ⟨_, rfl⟩
  have HL := Lib.hid hlen
  rw [← hlen] at hlc ⊢
  have HI := Lib.hid hI
  clear hlen hI
  unfold clo
  go_enter Tryz.func90, Tryz.ntmps90
  go_wp2
  go_loop [8] (fun i => ∃ k : Nat, k ≤ len ∧ i = .int .i64 k ∧ ∀ j, j < k → inR (gi xs j) 0 ((n : Int) - 1) = true) (fun i => len - (intOf i).toNat)
  case atStart => exact ⟨0, Nat.zero_le _, rfl, fun j hj => absurd hj (Nat.not_lt_zero _)⟩
  case round =>
    obtain ⟨k, hk, rfl, hne⟩ := hrel
    have HNE := Lib.hid hne
    clear hne
    by_cases hlt : k < len
    · obtain ⟨b, off, rfl, hcell⟩ := HI.out.at (j := k) (by rw [← HL.out]; exact hlt)
      by_cases hx : inR (gi xs k) 0 ((n : Int) - 1) = true
      · have HX := Lib.hid hx
        have hx' : (!inR (gi xs k) 0 ((n : Int) - 1)) = false := by rw [hx]; rfl
        clear hx
        go_wp2_with (go_at_call 96; refine (did1_c _ B _ _ _ _ hc hn).mono ?_; rintro e w' ⟨rfl, rfl⟩)
        go_round
        case rel => exact ⟨k + 1, by omega, by go_num, fun j hj => (Nat.lt_or_ge j k).elim (HNE.out j) (fun h => by obtain rfl : j = k := (by omega); exact HX.out)⟩
        case measure => simp [intOf]; omega
      · have hx2 : inR (gi xs k) 0 ((n : Int) - 1) = false := by simpa using hx
        have HX := Lib.hid hx2
        have hx' : (!inR (gi xs k) 0 ((n : Int) - 1)) = true := by rw [hx2]; rfl
        clear hx hx2
        go_wp2_with (go_at_call 96; refine (did1_c _ B _ _ _ _ hc hn).mono ?_; rintro e w' ⟨rfl, rfl⟩)
        go_ret
        exact ⟨⟨_, rfl, .inr ⟨k, hlt, rfl, HX.out⟩⟩, rfl⟩
    · obtain rfl : k = len := by omega
      go_wp2
      go_ret
      exact ⟨⟨_, rfl, .inl ⟨rfl, HNE.out⟩⟩, rfl⟩

set_option maxHeartbeats 400000 in
theorem containsDid_c {P : Nat → Prop} (sv : Value) (xs : List Int) (B : Nat) (a : Option Addr) (n c : Nat) (w : World) (hI : IntsP P w sv xs) (hc : w.cell? ⟨B, 10, none⟩ = some (.slice a n c)) (hn : n ≤ 9223372036854775807) :
    Calls Tryz.prog 44 #[sv, clo 96 B] w fun e w' => (∃ b : Bool, e = .returned (.bool b) ∧ (b = false ↔ ∀ j, j < xs.length → inR (gi xs j) 0 ((n : Int) - 1) = true)) ∧ w = w' := by
  have hX := indexDid_c sv xs B a n c w hI hc hn
  have HX := Lib.hid hX
  clear hX hI hc
  unfold clo at HX ⊢
  go_enter Tryz.func44, Tryz.ntmps44
  go_wp2_with fail
  refine HX.out.mono ?_
  rintro e w' ⟨⟨r, rfl, hr⟩, rfl⟩
  have HR := Lib.hid hr
  clear hr
  go_wp2
  go_ret
  refine ⟨⟨_, rfl, ?_⟩, rfl⟩
  rcases HR.out with ⟨rfl, h⟩ | ⟨k, hk, rfl, h⟩
  · simpa using h
  · simp only [decide_eq_false_iff_not]
    constructor
    · intro h0; omega
    · intro h0; rw [h0 k hk] at h; cases h

set_option maxHeartbeats 800000 in
theorem indexHandles_c {P : Nat → Prop} (sv : Value) (xs : List Hd) (B : Nat) (a : Option Addr) (n c : Nat) (w : World) (hI : HdsP P w sv xs) (hc : w.cell? ⟨B, 9, none⟩ = some (.slice a n c)) (hn : n ≤ 9223372036854775807) :
    Calls Tryz.prog 91 #[sv, clo 47 B] w fun e w' => (∃ r : Int, e = .returned (.int .i64 r) ∧ ((r = -1 ∧ ∀ j, j < xs.length → inR (gh xs j).cache 0 ((n : Int) - 1) = true) ∨ ∃ k : Nat, k < xs.length ∧ r = k ∧ inR (gh xs k).cache 0 ((n : Int) - 1) = false)) ∧ Below w.heap.size w w' := by
  obtain ⟨a0, c0, rfl, hlc, hcm⟩ := hI.form
  unfold maxLen at hcm
  obtain ⟨len, hlen⟩ : ∃ len, len = xs.length := ⟨_, rfl⟩
  have HL := Lib.hid hlen
  rw [← hlen] at hlc ⊢
  have HI := Lib.hid hI
  have HC := Lib.hid hc
  clear hlen hI hc
  unfold clo
  go_enter Tryz.func91, Tryz.ntmps91
  go_wp2
  go_loopw [8] (fun i wr => ∃ k : Nat, k ≤ len ∧ i = .int .i64 k ∧ (∀ j, j < k → inR (gh xs j).cache 0 ((n : Int) - 1) = true) ∧ Below w.heap.size w wr) (fun i _ => len - (intOf i).toNat)
  case atStart => exact ⟨0, Nat.zero_le _, rfl, fun j hj => absurd hj (Nat.not_lt_zero _), Below.refl _ _⟩
  case round =>
    obtain ⟨k, hk, rfl, hne, hB⟩ := hrel
    have HNE := Lib.hid hne
    have hc := (hB.cell (p := ⟨B, 9, none⟩) (World.block_lt_of_cell? w _ HC.out)).trans HC.out
    have HIr := Lib.hid (HI.out.below hB)
    have HB := Lib.hid hB
    clear hne hB
    by_cases hlt : k < len
    · obtain ⟨b, off, rfl, q0, q1, q2, q3, q4⟩ := HIr.out.at (j := k) (by rw [← HL.out]; exact hlt)
      by_cases hx : inR (gh xs k).cache 0 ((n : Int) - 1) = true
      · have HX := Lib.hid hx
        have hx' : (!inR (gh xs k).cache 0 ((n : Int) - 1)) = false := by rw [hx]; rfl
        clear hx
        go_wp2_with fail
        refine (hcache_c _ _ _ _ _ B _ _ _ _ hc hn).mono ?_
        rintro e w' ⟨rfl, hb⟩
        have HB2 := Lib.hid (below_then HB.out (below_low hb HB.out.size))
        clear hb q0 q1 q2 q3 q4 hc
        go_wp2
        go_roundw
        case rel => exact ⟨k + 1, by omega, by go_num, fun j hj => (Nat.lt_or_ge j k).elim (HNE.out j) (fun h => by obtain rfl : j = k := (by omega); exact HX.out), HB2.out⟩
        case measure => simp [intOf]; omega
      · have hx2 : inR (gh xs k).cache 0 ((n : Int) - 1) = false := by simpa using hx
        have HX := Lib.hid hx2
        have hx' : (!inR (gh xs k).cache 0 ((n : Int) - 1)) = true := by rw [hx2]; rfl
        clear hx hx2
        go_wp2_with fail
        refine (hcache_c _ _ _ _ _ B _ _ _ _ hc hn).mono ?_
        rintro e w' ⟨rfl, hb⟩
        have HB2 := Lib.hid (below_then HB.out (below_low hb HB.out.size))
        clear hb q0 q1 q2 q3 q4 hc
        go_wp2
        go_ret
        exact ⟨⟨_, rfl, .inr ⟨k, hlt, rfl, HX.out⟩⟩, HB2.out⟩
    · obtain rfl : k = len := by omega
      go_wp2
      go_ret
      exact ⟨⟨_, rfl, .inl ⟨rfl, HNE.out⟩⟩, HB.out⟩
set_option maxHeartbeats 400000 in
theorem containsHandles_c {P : Nat → Prop} (sv : Value) (xs : List Hd) (B : Nat) (a : Option Addr) (n c : Nat) (w : World) (hI : HdsP P w sv xs) (hc : w.cell? ⟨B, 9, none⟩ = some (.slice a n c)) (hn : n ≤ 9223372036854775807) :
    Calls Tryz.prog 46 #[sv, clo 47 B] w fun e w' => (∃ b : Bool, e = .returned (.bool b) ∧ (b = false ↔ ∀ j, j < xs.length → inR (gh xs j).cache 0 ((n : Int) - 1) = true)) ∧ Below w.heap.size w w' := by
  have hX := indexHandles_c sv xs B a n c w hI hc hn
  have HX := Lib.hid hX
  clear hX hI hc
  unfold clo at HX ⊢
  go_enter Tryz.func46, Tryz.ntmps46
  go_wp2_with fail
  refine HX.out.mono ?_
  rintro e w' ⟨⟨r, rfl, hr⟩, hb⟩
  have HR := Lib.hid hr
  have HB := Lib.hid hb
  clear hr hb
  go_wp2
  go_ret
  refine ⟨⟨_, rfl, ?_⟩, HB.out⟩
  rcases HR.out with ⟨rfl, h⟩ | ⟨k, hk, rfl, h⟩
  · simpa using h
  · simp only [decide_eq_false_iff_not]
    constructor
    · intro h0; omega
    · intro h0; rw [h0 k hk] at h; cases h
end Go.Proofs.YtcpafphgkbfahaaGreat
