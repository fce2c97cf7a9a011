/- The reference: path, did. Conditions: what lies in memory. -/
import Derived.Test.YtcpafphgkbfahaaGreatJuM
namespace Go.Proofs.YtcpafphgkbfahaaGreat
open Go.RowKit Go.Shelf
set_option linter.unusedVariables false
set_option linter.unusedSimpArgs false

theorem withinR_q (n lo hi : Int) (w : World) (m : Nat) (b : Bool) (hb : inR n lo hi = b) : Calls Tryz.prog 54 #[.int .i64 n, .int .i64 lo, .int .i64 hi] (w.drewN m) fun e w' => e = .returned (.bool b) ∧ ∃ m, w' = w.drewN m :=
  hb ▸ Calls.quiet_of_same ((withinR_c n lo hi _).mono fun _ _ ⟨h1, h2⟩ => ⟨h1, h2.symm⟩)
set_option maxHeartbeats 2000000 in
theorem rpath_c {P : Nat → Prop} (sv : Value) (xs : List Int) (g : Int) (n : Nat) (w : World) (hI : IntsP P w sv xs) :
    Calls Tryz.prog 55 #[sv, .int .i64 g, .int .i64 (n : Int)] w fun e w' => RetB (PathR xs g n) e ∧ Below w.heap.size w w' := by
  obtain ⟨a0, c0, rfl, hlc, hcm⟩ := hI.form
  unfold maxLen at hcm
  obtain ⟨len, hlen⟩ : ∃ len, len = xs.length := ⟨_, rfl⟩
  have HL := Lib.hid hlen
  rw [← hlen] at hlc ⊢
  have HI := Lib.hid hI
  have hno : ∀ (q : Prop), (PathR xs g n → q) → ¬ q → (false = true ↔ PathR xs g n) := fun q h1 h2 => by
    simp only [Bool.false_eq_true, false_iff]; exact fun h => h2 (h1 h)
  have NO := Lib.hid hno
  clear hlen hI hno
  go_enter Tryz.func55, Tryz.ntmps55
  go_wp2
  go_loopw [7] (fun i wr => ∃ k : Nat, k ≤ len ∧ i = .int .i64 k ∧ (∀ i, i < k → 1 ≤ gi xs i ∧ gi xs i ≤ n ∧ (0 < i → gi xs (i - 1) < gi xs i)) ∧ Below w.heap.size w wr) (fun i _ => len - (intOf i).toNat)
  case atStart => exact ⟨0, Nat.zero_le _, rfl, fun j hj => absurd hj (Nat.not_lt_zero _), Below.refl _ _⟩
  case round =>
    obtain ⟨k, hk, rfl, hne, hB⟩ := hrel
    have HNE := Lib.hid hne
    have HIr := Lib.hid (HI.out.below hB)
    have HB := Lib.hid hB
    clear hne hB
    by_cases hlt : k < len
    · have HLT := Lib.hid hlt
      cases k with
      | zero =>
        obtain ⟨b, off, rfl, x0⟩ := HIr.out.at (j := 0) (by rw [← HL.out]; exact hlt)
        rw [Nat.add_zero] at x0
        have hi1 : (0 : Int) < (len : Int) := by omega
        clear hlt hk
        cases hx : inR (gi xs 0) 1 n with
        | false =>
          have HX := Lib.hid hx
          clear hx
          go_wp2_with fail
          go_quiet ((go_at_call 54; exact withinR_q _ _ _ _ _ _ HX.out))
          go_wp2
          go_ret
          exact ⟨⟨_, rfl, NO.out (inR (gi xs 0) 1 n = true) (fun h => by have := h.1 0 (by rw [← HL.out]; exact HLT.out); exact inR_true.2 ⟨this.1, this.2.1⟩) (by rw [HX.out]; decide)⟩, below_then HB.out (below_low (below_drewN _ _) HB.out.size)⟩
        | true =>
          have HX := Lib.hid hx
          clear hx
          go_wp2_with fail
          go_quiet ((go_at_call 54; exact withinR_q _ _ _ _ _ _ HX.out))
          go_wp2
          go_roundw
          case rel => exact ⟨1, HLT.out, by go_num, fun j hj => by obtain rfl : j = 0 := (by omega); exact ⟨(inR_true.1 HX.out).1, (inR_true.1 HX.out).2, fun h => absurd h (Nat.lt_irrefl _)⟩, below_then HB.out (below_low (below_drewN _ _) HB.out.size)⟩
          case measure => simp [intOf]; have := HLT.out; omega
      | succ p =>
        obtain ⟨b, off, rfl, x1⟩ := HIr.out.at (j := p + 1) (by rw [← HL.out]; exact hlt)
        obtain ⟨b', off', e, x0⟩ := HIr.out.at (j := p) (by rw [← HL.out]; omega)
        simp only [Option.some.injEq, Addr.mk.injEq, and_true] at e
        obtain ⟨rfl, rfl⟩ := e
        have hi1 : (p : Int) + 1 < (len : Int) := by omega
        have hi0 : (0 : Int) < (p : Int) + 1 := by omega
        clear hlt hk
        cases hx : inR (gi xs (p + 1)) 1 n with
        | false =>
          have HX := Lib.hid hx
          clear hx
          go_wp2_with fail
          go_quiet ((go_at_call 54; exact withinR_q _ _ _ _ _ _ HX.out))
          go_wp2
          go_ret
          exact ⟨⟨_, rfl, NO.out (inR (gi xs (p + 1)) 1 n = true) (fun h => by have := h.1 (p + 1) (by rw [← HL.out]; exact HLT.out); exact inR_true.2 ⟨this.1, this.2.1⟩) (by rw [HX.out]; decide)⟩, below_then HB.out (below_low (below_drewN _ _) HB.out.size)⟩
        | true =>
          have HX := Lib.hid hx
          clear hx
          by_cases hy : gi xs (p + 1) ≤ gi xs p
          · have HY := Lib.hid hy
            go_wp2_with fail
            go_quiet ((go_at_call 54; exact withinR_q _ _ _ _ _ _ HX.out))
            go_wp2
            go_ret
            exact ⟨⟨_, rfl, NO.out (gi xs p < gi xs (p + 1)) (fun h => (h.1 (p + 1) (by rw [← HL.out]; exact HLT.out)).2.2 (by omega)) (by have := HY.out; omega)⟩, below_then HB.out (below_low (below_drewN _ _) HB.out.size)⟩
          · have HY := Lib.hid hy
            go_wp2_with fail
            go_quiet ((go_at_call 54; exact withinR_q _ _ _ _ _ _ HX.out))
            go_wp2
            go_roundw
            case rel => exact ⟨p + 1 + 1, HLT.out, by go_num, fun j hj => (Nat.lt_or_ge j (p + 1)).elim (HNE.out j) (fun h => by obtain rfl : j = p + 1 := (by omega); exact ⟨(inR_true.1 HX.out).1, (inR_true.1 HX.out).2, fun _ => by have := HY.out; show gi xs p < _; omega⟩), below_then HB.out (below_low (below_drewN _ _) HB.out.size)⟩
            case measure => simp [intOf]; have := HLT.out; omega
    · obtain rfl : k = len := by omega
      by_cases h0 : k = 0
      · subst h0
        go_wp2
        go_ret
        exact ⟨⟨_, rfl, NO.out (0 < xs.length) (fun h => h.2.1) (by rw [← HL.out]; omega)⟩, HB.out⟩
      · obtain ⟨m, rfl⟩ : ∃ m, k = m + 1 := ⟨k - 1, by omega⟩
        obtain ⟨b, off, rfl, x1⟩ := HIr.out.at (j := m) (by rw [← HL.out]; omega)
        clear h0
        by_cases hz : gi xs m = g
        · have HZ := Lib.hid hz
          have hzb : (gi xs m == g) = true := by simpa using hz
          clear hz
          go_wp2
          go_ret
          exact ⟨⟨_, rfl, by simp only [true_iff]; exact ⟨fun i hi => HNE.out i (by rw [HL.out]; exact hi), by rw [← HL.out]; omega, by rw [← HL.out]; exact HZ.out⟩⟩, HB.out⟩
        · have HZ := Lib.hid hz
          have hzb : (gi xs m == g) = false := by simpa using hz
          clear hz
          go_wp2
          go_ret
          exact ⟨⟨_, rfl, NO.out (gi xs m = g) (fun h => by have := h.2.2; rwa [← HL.out] at this) HZ.out⟩, HB.out⟩
end Go.Proofs.YtcpafphgkbfahaaGreat
