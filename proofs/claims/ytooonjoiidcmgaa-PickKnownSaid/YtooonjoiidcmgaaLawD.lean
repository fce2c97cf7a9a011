/- The walk of the statement PickWindows: true, and nothing that lay has turned. -/
import Derived.Test.YtooonjoiidcmgaaLawC
namespace Go.Proofs.Ytooonjoiidcmgaa
open Go.RowKit Go.Shelf

/-- does c stand among the first d from a on? -/
def inW (l : List Int) (a c d : Nat) : Bool := (List.range d).any fun i => l[a + i]?.getD 0 == (c : Int)
/-- does each of the first m stand in the window from a on? -/
def okW (l : List Int) (W a m : Nat) : Bool := (List.range m).all fun c => inW l a c W
/-- .. in each of the first k windows? -/
def allW (l : List Int) (W C k : Nat) : Bool := (List.range k).all fun a => okW l W a C
theorem inW_succ (l : List Int) (a c d : Nat) : inW l a c (d + 1) = (inW l a c d || l[a + d]?.getD 0 == (c : Int)) := by simp [inW, List.range_succ, List.any_append]
theorem okW_succ (l : List Int) (W a m : Nat) : okW l W a (m + 1) = (okW l W a m && inW l a m W) := by simp [okW, List.range_succ, List.all_append]
theorem allW_succ (l : List Int) (W C k : Nat) : allW l W C (k + 1) = (allW l W C k && okW l W k C) := by simp [allW, List.range_succ, List.all_append]
theorem fair_allW (l : List Int) (W C : Nat) (h1 : 1 ≤ C) (h2 : C ≤ 8) (h3 : 1 ≤ W) : fairF l (C : Int) (W : Int) = allW l W C (l.length + 1 - W) := by
  have h := fair_iff l C W (by omega) (by omega) h3
  have h' : allW l W C (l.length + 1 - W) = true ↔ ∀ a, a + W ≤ l.length → ∀ c : Nat, (c : Int) < (C : Int) → ∃ i, a ≤ i ∧ i < a + W ∧ l[i]?.getD 0 = (c : Int) := by
    simp only [allW, okW, inW, List.all_eq_true, List.any_eq_true, List.mem_range, beq_iff_eq]
    constructor
    · intro hh a ha c hc
      obtain ⟨d, hd, e⟩ := hh a (by omega) c (by omega)
      exact ⟨a + d, by omega, by omega, e⟩
    · intro hh a ha c hc
      obtain ⟨i, h4, h5, e⟩ := hh a (by omega) c (by omega)
      exact ⟨i - a, by omega, by rw [show a + (i - a) = i by omega]; exact e⟩
  cases hx : fairF l (C : Int) (W : Int) with
  | true => exact (h'.2 (h.1 hx)).symm
  | false =>
    cases hy : allW l W C (l.length + 1 - W) with
    | false => rfl
    | true => rw [h.2 (h'.1 hy)] at hx; cases hx

theorem Ints.get {n₀ : Nat} {W : World} {a : Option Addr} {len cap : Nat} {xs : List Int} (h : Ints n₀ W (.slice a len cap) xs) :
    len = xs.length ∧ ∀ j, j < xs.length → ∃ b off, a = some ⟨b, off, none⟩ ∧ b < n₀ ∧ W.cell? ⟨b, off + j, none⟩ = some (.int .i64 (xs[j]?.getD 0)) := by
  obtain ⟨a', cap', e, hc⟩ := h
  simp only [Value.slice.injEq] at e
  obtain ⟨rfl, rfl, _⟩ := e
  exact ⟨rfl, hc⟩

def fives (xs : List Int) (k : Nat) : List Int := (xs.take k).map (· % 5)
theorem fives_length (xs : List Int) (k : Nat) (h : k ≤ xs.length) : (fives xs k).length = k := by simp [fives]; omega
theorem fives_succ (xs : List Int) (k : Nat) (h : k < xs.length) : fives xs (k + 1) = fives xs k ++ [xs[k]?.getD 0 % 5] := by simp [fives, take_snoc xs k 0 h]

set_option maxRecDepth 100000 in
set_option maxHeartbeats 2000000 in
theorem windows_walk (a : Option Addr) (len cap : Nat) (xs : List Int) (c0 w0 : Int) (w : World) (hI : Ints w.heap.size w (.slice a len cap) xs) (_hc : len ≤ cap) (_hm : cap ≤ maxLen) :
    Calls Try.prog 7 #[.slice a len cap, .int .i64 c0, .int .i64 w0] w fun e w' => e = .returned (.bool true) ∧ Below w.heap.size w w' := by
  unfold maxLen at _hm
  obtain ⟨i0, hi, hz0, hz1, hz2⟩ := info_parts info3
  have hk1 : len ≤ xs.length := by have := hI.get.1; omega
  have hk2 : xs.length ≤ len := by have := hI.get.1; omega
  go_enter Try.func7, Try.ntmps7
  go_wp2_with fail
  go_loopw [7, 8] (fun v i wr => ∃ (k : Nat) (sv : Value), sv = v ∧ k ≤ len ∧ k ≤ 60 ∧ i = .int .i64 k ∧ wr.ownsRow w.heap.size 3 1 sv (fives xs k).length ((fives xs k).map (Value.int .i64)) ∧ Below w.heap.size w wr) (fun _ i _ => 60 - (intOf i).toNat)
  case atStart => exact ⟨0, _, rfl, Nat.zero_le _, by omega, rfl, World.ownsRow_nil _ _ _ _, Below.refl _ _⟩
  case round =>
    obtain ⟨k, v, rfl, hk, hk6, rfl, hrow, hB⟩ := hrel
    have hql := fives_length xs k (by omega)
    by_cases hlt : k < len ∧ k < 60
    · obtain ⟨hlt, hlt6⟩ := hlt
      obtain ⟨b, off, rfl, hb, hcell⟩ := hI.get.2 k (by omega)
      have hx := (hB.cell (p := ⟨b, off + k, none⟩) hb).trans hcell
      have HS := Lib.hid (fives_succ xs k (by omega))
      have HQ : Hid ((fives xs k).length = k) := hql
      clear hcell hql
      generalize xs[k]?.getD 0 = x at *
      have hm0 := Int.emod_nonneg x (by omega : (5 : Int) ≠ 0)
      have hm1 := Int.emod_lt_of_pos x (by omega : (0 : Int) < 5)
      go_wp2_with fail
      refine (bring_c x 5 _ (by omega) (by omega)).mono ?_
      rintro e w' ⟨rfl, rfl⟩
      go_wp2_with (at_builtin; refine wpList_append_own _ rfl _ _ 27 rfl w.heap.size 3 i0 (.int .i64 0) 1 8 Try.underlying27 hi hz0 hz1 hz2 rfl (by decide) _ _ _ rfl (hrow.alloc _) ⟨wr.heap.size, 0, none⟩ 1 1 [.int .i64 (x % 5)] rfl rfl ?c1 ?c2 ?c3 ?c4 ?c5 ?_)
      case c1 => exact cell_one_new _ _ _
      case c2 => simp [Value.oneCell']
      case c3 => rw [HQ.out]; unfold maxLen; omega
      case c4 => rw [HQ.out]; omega
      case c5 => have := hB.size; simp; omega
      intro v' w3 hown' hgrow _
      have hB3 : Below w.heap.size w w3 := (hB.alloc hB.size _).grown hgrow (by have := hB.size; simp; omega) (fun k e => (hrow.lt k e).1)
      have HR : Hid (w3.ownsRow w.heap.size 3 1 v' (fives xs (k + 1)).length ((fives xs (k + 1)).map (Value.int .i64))) := by
        unfold Hid; rw [HS.out]; simpa using hown'
      have hex : ∃ g cap, v' = .slice (some ⟨g, 0, none⟩) (k + 1) cap := by
        have := hown'
        rw [HQ.out] at this
        exact ownsRow_succ this
      obtain ⟨g, cap, hv⟩ := hex
      clear hown' hgrow hrow
      subst hv
      go_wp2
      go_roundw
      case rel => exact ⟨k + 1, _, rfl, by omega, by omega, by go_num, HR.out, hB3⟩
      case measure => simp [intOf]; omega
    · have HI := Lib.hid (owns_ints hrow)
      have hex : ∃ a cap, v = .slice a k cap := by
        obtain ⟨a', cap', e, _⟩ := HI.out
        rw [hql] at e
        exact ⟨a', cap', e⟩
      have HQ : Hid ((fives xs k).length = k) := hql
      clear hrow hql hI
      obtain ⟨la, lcap, hv⟩ := hex
      subst hv
      obtain ⟨C, hC, hC1, hC2⟩ : ∃ C : Nat, (C : Int) = 1 + c0 % 5 ∧ 1 ≤ C ∧ C ≤ 5 := ⟨(1 + c0 % 5).toNat, by omega, by omega, by omega⟩
      obtain ⟨W, hW, hW1, hW2⟩ : ∃ W : Nat, (W : Int) = 1 + w0 % 12 ∧ 1 ≤ W ∧ W ≤ 12 := ⟨(1 + w0 % 12).toNat, by omega, by omega, by omega⟩
      have HC := Lib.hid hC
      have HW := Lib.hid hW
      clear hC hW
      have h80 := Int.emod_nonneg c0 (by omega : (5 : Int) ≠ 0)
      have h81 := Int.emod_lt_of_pos c0 (by omega : (0 : Int) < 5)
      have h90 := Int.emod_nonneg w0 (by omega : (12 : Int) ≠ 0)
      have h91 := Int.emod_lt_of_pos w0 (by omega : (0 : Int) < 12)
      have hk6' : ¬ k < len ∨ ¬ k < 60 := by omega
      generalize fives xs k = l at *
      by_cases hkl : k < len
      case' pos =>
        have hk60 : ¬ k < 60 := by omega
        clear hlt hk6'
        go_wp2_with fail
      case' neg =>
        clear hlt hk6'
        go_wp2_with fail
      all_goals
        refine (bring_c c0 5 _ (by omega) (by omega)).mono ?_
        rintro e w' ⟨rfl, rfl⟩
        go_wp2_with fail
        refine (bring_c w0 12 _ (by omega) (by omega)).mono ?_
        rintro e w' ⟨rfl, rfl⟩
        go_wp2_with fail
        rw [← HC.out, ← HW.out]
        clear h80 h81 h90 h91
        go_loop [9, 10] (fun al t => ∃ at' : Nat, at' ≤ k + 1 - W ∧ t = .int .i64 at' ∧ al = .bool (allW l W C at')) (fun _ t => 60 - (intOf t).toNat)
        case atStart => exact ⟨0, Nat.zero_le _, rfl, rfl⟩
        case round =>
          obtain ⟨t, ht, rfl, rfl⟩ := hrel
          by_cases hlt : t + W ≤ k
          · have HS := Lib.hid (allW_succ l W C t)
            generalize allW l W C t = A at *
            go_wp2
            go_loop [9, 11] (fun al c => ∃ m : Nat, m ≤ C ∧ c = .int .i64 m ∧ al = .bool (A && okW l W t m)) (fun _ c => 60 - (intOf c).toNat)
            case atStart => exact ⟨0, Nat.zero_le _, rfl, by cases A <;> rfl⟩
            case round =>
              obtain ⟨m, hm', rfl, rfl⟩ := hrel
              by_cases hmC : m < C
              · have HS2 := Lib.hid (okW_succ l W t m)
                generalize okW l W t m = B at *
                go_wp2
                go_loop [12, 13] (fun is i => ∃ d : Nat, d ≤ W ∧ i = .int .i64 ((t + d : Nat) : Int) ∧ is = .bool (inW l t m d)) (fun _ i => 100 - (intOf i).toNat)
                case atStart => exact ⟨0, Nat.zero_le _, by simp, rfl⟩
                case round =>
                  obtain ⟨d, hd, rfl, rfl⟩ := hrel
                  by_cases hdW : d < W
                  · obtain ⟨b, off, e1, _, hcell⟩ := HI.out.get.2 (t + d) (by rw [HQ.out]; omega)
                    have HS3 := Lib.hid (inW_succ l t m d)
                    generalize inW l t m d = D at *
                    generalize l[t + d]?.getD 0 = x at *
                    subst e1
                    cases D with
                    | true =>
                      go_wp2
                      go_round
                      case rel => exact ⟨d + 1, by omega, by go_num, by rw [HS3.out]; rfl⟩
                      case measure => simp [intOf]; omega
                    | false =>
                      go_wp2
                      go_round
                      case rel => exact ⟨d + 1, by omega, by go_num, by rw [HS3.out]; rfl⟩
                      case measure => simp [intOf]; omega
                  · obtain rfl : d = W := by omega
                    generalize inW l t m d = D at *
                    cases A <;> cases B <;> cases D
                    all_goals
                      go_wp2
                      go_round
                      case rel => exact ⟨m + 1, by omega, by go_num, by rw [HS2.out]; rfl⟩
                      case measure => simp [intOf]; omega
              · obtain rfl : m = C := by omega
                have hB2 : (A && okW l W t m) = allW l W m (t + 1) := HS.out.symm
                rw [hB2]
                clear HS hB2
                go_wp2
                go_round
                case rel => exact ⟨t + 1, by omega, by go_num, rfl⟩
                case measure => simp [intOf]; omega
          · have HF := Lib.hid ((fair_allW l W C hC1 (by omega) hW1).trans (by rw [HQ.out, show k + 1 - W = t by omega]))
            have hB' := Lib.hid hB
            clear hB
            generalize allW l W C t = A at *
            go_wp2_with fail
            refine (fair_c _ _ l _ _ _ HI.out (by rw [HQ.out]; omega)).mono ?_
            rintro e w' ⟨rfl, rfl⟩
            rw [HF.out]
            go_wp2_with (go_at_call 18; refine (works_c _).mono ?_; rintro e w5 ⟨rfl, h5⟩)
            go_ret
            exact ⟨rfl, Below.on hB'.out (Nat.le_refl _) h5⟩
end Go.Proofs.Ytooonjoiidcmgaa
