/- The reference's Pick and Next tell what pickF and nextF say, of every list of bools up to 2^44 and every number. -/
import Derived.Test.YtooonjoiidcmgaaPickB
namespace Go.Proofs.Ytooonjoiidcmgaa
open Go.RowKit Go.Shelf

theorem Bools.get {n₀ : Nat} {W : World} {a : Option Addr} {len cap : Nat} {bs : List Bool} (h : Bools n₀ W (.slice a len cap) bs) :
    len = bs.length ∧ ∀ j, j < bs.length → ∃ b off, a = some ⟨b, off, none⟩ ∧ b < n₀ ∧ W.cell? ⟨b, off + j, none⟩ = some (.bool (bs[j]?.getD false)) := by
  obtain ⟨a', cap', e, hc⟩ := h
  simp only [Value.slice.injEq] at e
  obtain ⟨rfl, rfl, _⟩ := e
  exact ⟨rfl, hc⟩

def encN (x : Nat) : Value := .int .i64 (x : Int)

set_option maxRecDepth 100000 in
set_option maxHeartbeats 1000000 in
theorem rpick_c (a : Option Addr) (len cap : Nat) (bs : List Bool) (p : Int) (w : World) (hI : Bools w.heap.size w (.slice a len cap) bs) (hl : bs.length ≤ 17592186044416) :
    Calls Try.prog 15 #[.slice a len cap, .int .i64 p] w fun e w' => e = .returned (.tuple #[.int .i64 (pickF bs p).1, .bool (pickF bs p).2]) ∧ Below w.heap.size w w' := by
  obtain ⟨i0, hi, hz0, hz1, hz2⟩ := info_parts info3
  obtain ⟨hlen, hc⟩ := hI.get
  rw [← hlen] at hc hl
  have HL := Lib.hid hlen
  clear hlen hI
  go_enter Try.func15, Try.ntmps15
  go_wp2
  go_loopw [6, 7] (fun v i wr => ∃ k : Nat, k ≤ len ∧ i = .int .i64 k ∧ wr.ownsRow w.heap.size 3 1 v (runsTo bs k).length ((runsTo bs k).map encN) ∧ (v = .slice none 0 0 ↔ runsTo bs k = []) ∧ Below w.heap.size w wr) (fun _ i _ => len - (intOf i).toNat)
  case atStart => exact ⟨0, Nat.zero_le _, rfl, World.ownsRow_nil _ _ _ _, by simp [runsTo], Below.refl _ _⟩
  case round =>
    obtain ⟨k, hk, rfl, hrow, hnil, hB⟩ := hrel
    have hkl := runsTo_length bs k
    by_cases hlt : k < len
    · obtain ⟨b, off, rfl, hb, hcell0⟩ := hc k hlt
      have hcell := (hB.cell (p := ⟨b, off + k, none⟩) hb).trans hcell0
      cases hbk : bs[k]?.getD false with
      | false =>
        have HN := Lib.hid (runsTo_no hbk)
        rw [hbk] at hcell
        have HI := Lib.hid hnil
        clear hbk hcell0 hc hnil
        go_wp2
        go_roundw
        case rel => exact ⟨k + 1, by omega, by go_num, by rw [HN.out]; exact hrow, by rw [HN.out]; exact HI.out, hB⟩
        case measure => simp [intOf]; omega
      | true =>
        have HN := Lib.hid (runsTo_yes hbk)
        rw [hbk] at hcell
        clear hbk hcell0 hc hnil
        go_wp2_with (at_builtin; refine wpList_append_own _ rfl _ _ 27 rfl w.heap.size 3 i0 (.int .i64 0) 1 8 Try.underlying27 hi hz0 hz1 hz2 rfl (by decide) _ _ _ rfl (hrow.alloc _) ⟨wr.heap.size, 0, none⟩ 1 1 [.int .i64 (k : Int)] rfl rfl ?c1 ?c2 ?c3 ?c4 ?c5 ?_)
        case c1 => exact cell_one_new _ _ _
        case c2 => simp [Value.oneCell']
        case c3 => unfold maxLen; omega
        case c4 => omega
        case c5 => have := hB.size; simp; omega
        intro v' w1 hown' hgrow _
        obtain ⟨g', cap', rfl⟩ := ownsRow_succ hown'
        have hB1 : Below w.heap.size w w1 := (hB.alloc hB.size _).grown hgrow (by have := hB.size; simp; omega) (fun j e => (hrow.lt j e).1)
        have HR : Hid (w1.ownsRow w.heap.size 3 1 (.slice (some ⟨g', 0, none⟩) ((runsTo bs k).length + 1) cap') (runsTo bs (k + 1)).length ((runsTo bs (k + 1)).map encN)) := by
          unfold Hid; rw [HN.out]; simpa [encN] using hown'
        clear hown' hgrow hrow
        go_wp2
        go_roundw
        case rel => exact ⟨k + 1, by omega, by go_num, HR.out, by rw [HN.out]; simp, hB1⟩
        case measure => simp [intOf]; omega
    · obtain rfl : k = len := by omega
      have HF : Hid (pickF bs p = if runsTo bs k = [] then (0, false) else ((((runsTo bs k)[(p % ((runsTo bs k).length : Int)).toNat]?.getD 0 : Nat) : Int), true)) := by
        rw [HL.out]; rfl
      clear hc hlt HL
      generalize runsTo bs k = ys at *
      cases ys with
      | nil =>
        obtain rfl := hnil.2 rfl
        clear hnil hrow
        go_wp2
        go_ret2
        exact ⟨by rw [HF.out]; rfl, hB⟩
      | cons y ys =>
        obtain ⟨g, cap', rfl, _, _⟩ := hrow.form (by simp)
        have hcell : ∀ j, j < (y :: ys).length → wr.cell? ⟨g, j, none⟩ = some (.int .i64 (((y :: ys)[j]?.getD 0 : Nat) : Int)) := fun j hj => by
          rw [hrow.cellAt j (by omega), List.getElem?_map, List.getElem?_eq_getElem hj]; rfl
        have hne : 0 < (y :: ys).length := by simp
        have HF' : Hid (pickF bs p = ((((y :: ys)[(p % ((y :: ys).length : Int)).toNat]?.getD 0 : Nat) : Int), true)) := by unfold Hid; rw [HF.out, if_neg (by simp)]
        clear HF hnil hrow
        obtain ⟨n, hn⟩ : ∃ n, n = (y :: ys).length := ⟨_, rfl⟩
        rw [← hn] at hcell HF' hkl hne ⊢
        obtain ⟨zs, hz⟩ : ∃ zs, zs = y :: ys := ⟨_, rfl⟩
        rw [← hz] at hcell HF'
        clear hz hn
        have h1 := Int.emod_nonneg p (by omega : (n : Int) ≠ 0)
        have h2 := Int.emod_lt_of_pos p (by omega : 0 < (n : Int))
        have hx := hcell (p % n).toNat (by omega)
        clear hcell
        go_wp2_with (go_at_call 23; refine (bring_c p n _ (by omega) (by omega)).mono ?_; rintro e w' ⟨rfl, rfl⟩)
        go_ret2
        exact ⟨by rw [HF'.out]; rfl, hB⟩

theorem next_wrap (bs : List Bool) (last : Int) (h : last < 0 ∨ (bs.length : Int) ≤ last + 1) :
    nextF bs last = match (List.range bs.length).find? (fun j : Nat => bs[j]?.getD false) with | some c => ((c : Int), true) | none => (0, false) := by
  unfold nextF
  rcases h with h | h
  · have e : (List.range bs.length).find? (fun j : Nat => bs[j]?.getD false && decide (last < (j : Int))) = (List.range bs.length).find? (fun j : Nat => bs[j]?.getD false) := by
      congr 1; funext j; have : last < (j : Int) := by omega
      simp [this]
    rw [e]
    cases (List.range bs.length).find? (fun j : Nat => bs[j]?.getD false) <;> rfl
  · have e : (List.range bs.length).find? (fun j : Nat => bs[j]?.getD false && decide (last < (j : Int))) = none := by
      rw [List.find?_eq_none]; intro j hj; simp at hj; have : ¬ last < (j : Int) := by omega
      simp [this]
    rw [e]; rfl
theorem next_last (bs : List Bool) (last : Int) (h : last < 0 ∨ (bs.length : Int) ≤ last) : nextF bs last = nextF bs ((bs.length : Int) - 1) := by
  rw [next_wrap bs last (by omega), next_wrap bs ((bs.length : Int) - 1) (by omega)]
theorem next_none (bs : List Bool) (last : Int) (h : ∀ j, j < bs.length → bs[j]?.getD false = false) : nextF bs last = (0, false) := by
  unfold nextF
  have e1 : (List.range bs.length).find? (fun j : Nat => bs[j]?.getD false && decide (last < (j : Int))) = none := by
    rw [List.find?_eq_none]; intro j hj; simp at hj; simp [h j hj]
  have e2 : (List.range bs.length).find? (fun j : Nat => bs[j]?.getD false) = none := by
    rw [List.find?_eq_none]; intro j hj; simp at hj; simp [h j hj]
  rw [e1, e2]
theorem next_found (bs : List Bool) (L i : Nat) (hL : L < bs.length) (h1 : 1 ≤ i) (h2 : i ≤ bs.length) (hb : bs[(L + i) % bs.length]?.getD false = true)
    (h : ∀ i', 1 ≤ i' → i' < i → bs[(L + i') % bs.length]?.getD false = false) : nextF bs L = ((((L + i) % bs.length : Nat) : Int), true) := by
  by_cases hc : L + i < bs.length
  · rw [Nat.mod_eq_of_lt hc] at hb ⊢
    refine next_some bs L (L + i) hc hb (by omega) (fun c hc' => ?_)
    simp only [runsTo, List.mem_filter, List.mem_range] at hc'
    obtain ⟨hc1, hc2⟩ := hc'
    by_cases hcl : c ≤ L
    · omega
    · have := h (c - L) (by omega) (by omega)
      rw [show L + (c - L) = c by omega, Nat.mod_eq_of_lt (by omega)] at this
      rw [this] at hc2; cases hc2
  · have e : (L + i) % bs.length = L + i - bs.length := by rw [Nat.mod_eq_sub_mod (by omega), Nat.mod_eq_of_lt (by omega)]
    rw [e] at hb ⊢
    unfold nextF
    have e1 : (List.range bs.length).find? (fun j : Nat => bs[j]?.getD false && decide ((L : Int) < (j : Int))) = none := by
      rw [List.find?_eq_none]; intro j hj; simp at hj
      by_cases hj2 : L < j
      · have := h (j - L) (by omega) (by omega)
        rw [show L + (j - L) = j by omega, Nat.mod_eq_of_lt (by omega)] at this
        simp [this]
      · simp [hj2]
    have e2 : (List.range bs.length).find? (fun j : Nat => bs[j]?.getD false) = some (L + i - bs.length) := by
      rw [List.find?_range_eq_some]
      refine ⟨hb, by simp; omega, fun j hj => ?_⟩
      have := h (j + bs.length - L) (by omega) (by omega)
      rw [show L + (j + bs.length - L) = j + bs.length by omega, Nat.add_mod_right, Nat.mod_eq_of_lt (by omega)] at this
      simp [this]
    rw [e1, e2]

set_option maxRecDepth 100000 in
set_option maxHeartbeats 1000000 in
theorem rnext_c (a : Option Addr) (len cap : Nat) (bs : List Bool) (last : Int) (n₀ : Nat) (w : World) (hI : Bools n₀ w (.slice a len cap) bs) (hl : bs.length ≤ 140737488351232) :
    Calls Try.prog 17 #[.slice a len cap, .int .i64 last] w fun e w' => e = .returned (.tuple #[.int .i64 (nextF bs last).1, .bool (nextF bs last).2]) ∧ w = w' := by
  obtain ⟨hlen, hc⟩ := hI.get
  rw [← hlen] at hc hl
  have HL := Lib.hid hlen
  clear hlen hI
  -- the number that stands in 'last' when the loop begins
  by_cases h0 : len = 0
  · subst h0
    have HF := Lib.hid (next_none bs last (by rw [← HL.out]; intro j hj; omega))
    clear hc HL
    go_enter Try.func17, Try.ntmps17
    by_cases h1 : last < 0
    · go_wp2
      go_loop [7] (fun i => i = .int .i64 1) (fun _ => 0)
      case atStart => rfl
      case round =>
        subst hrel
        go_wp2
        go_ret2
        exact ⟨by rw [HF.out]; rfl, rfl⟩
    · go_wp2
      go_loop [7] (fun i => i = .int .i64 1) (fun _ => 0)
      case atStart => rfl
      case round =>
        subst hrel
        go_wp2
        go_ret2
        exact ⟨by rw [HF.out]; rfl, rfl⟩
  · have hL : ∃ L : Nat, L < len ∧ nextF bs last = nextF bs L ∧ ((last < 0 ∧ (L : Int) = len - 1) ∨ (0 ≤ last ∧ (len : Int) ≤ last ∧ (L : Int) = len - 1) ∨ (0 ≤ last ∧ last < len ∧ last = L)) := by
      by_cases h1 : last < 0 ∨ (len : Int) ≤ last
      · refine ⟨len - 1, by omega, ?_, by omega⟩
        rw [HL.out] at h1 ⊢
        rw [next_last bs last h1, show (((bs.length - 1 : Nat)) : Int) = (bs.length : Int) - 1 by have := HL.out; omega]
      · exact ⟨last.toNat, by omega, by rw [show ((last.toNat : Nat) : Int) = last by omega], by omega⟩
    obtain ⟨L, hLl, hLn, hcase⟩ := hL
    have hnn : (∀ j, j < len → bs[j]?.getD false = false) → nextF bs last = (0, false) := fun h => next_none bs last (by rw [← HL.out]; exact h)
    obtain ⟨R, hR⟩ : ∃ R, R = nextF bs last := ⟨_, rfl⟩
    rw [← hR] at hLn hnn ⊢
    clear hR
    have HN := Lib.hid hLn
    have HNN := Lib.hid hnn
    clear hLn hnn
    have hpos : 0 < len := by omega
    -- one round, from whatever frame the loop begins in
    go_enter Try.func17, Try.ntmps17
    rcases hcase with ⟨h1, h2⟩ | ⟨h1, h2, h3⟩ | ⟨h1, h2, h3⟩
    case' inl =>
      have H2 := Lib.hid (show (len : Int) - 1 = (L : Int) by omega)
      clear h2
      go_wp2
      rw [H2.out]
    case' inr.inl =>
      have H2 := Lib.hid (show (len : Int) - 1 = (L : Int) by omega)
      clear h3
      go_wp2
      rw [H2.out]
    case' inr.inr =>
      subst h3
      go_wp2
    all_goals
      go_loop [7] (fun i => ∃ k : Nat, 1 ≤ k ∧ k ≤ len + 1 ∧ i = .int .i64 k ∧ ∀ i', 1 ≤ i' → i' < k → bs[(L + i') % len]?.getD false = false) (fun i => len + 1 - (intOf i).toNat)
      case atStart => exact ⟨1, by omega, by omega, rfl, fun i' h1 h2 => by omega⟩
      case round =>
        obtain ⟨k, hk1, hk2, rfl, hall⟩ := hrel
        have HA := Lib.hid hall
        clear hall
        by_cases hlt : k ≤ len
        · have hm : (L + k) % len < len := Nat.mod_lt _ hpos
          obtain ⟨b, off, rfl, _, hcell⟩ := hc _ hm
          have hmod : ((L : Int) + (k : Int)) % (len : Int) = (((L + k) % len : Nat) : Int) := by push_cast; rfl
          have hn0 : 0 ≤ ((L : Int) + (k : Int)) % (len : Int) := by rw [hmod]; omega
          have hn1 : ((L : Int) + (k : Int)) % (len : Int) < len := by rw [hmod]; omega
          have HM := Lib.hid hmod
          clear hmod
          cases hbk : bs[(L + k) % len]?.getD false with
          | true =>
            rw [hbk] at hcell
            have HF : Hid (R = ((((L + k) % len : Nat) : Int), true)) := by
              have := next_found bs L k (by rw [← HL.out]; omega) hk1 (by rw [← HL.out]; exact hlt) (by rw [← HL.out]; exact hbk) (by rw [← HL.out]; exact HA.out)
              rw [← HL.out] at this
              exact HN.out.trans this
            clear hbk hc
            go_wp2
            go_ret2
            exact ⟨by rw [HF.out]; exact congrArg (fun x : Int => Ending.returned (.tuple #[.int .i64 x, .bool true])) HM.out, rfl⟩
          | false =>
            rw [hbk] at hcell
            have HB := Lib.hid hbk
            clear hbk hc
            go_wp2
            go_round
            case rel => exact ⟨k + 1, by omega, by omega, by go_num, fun i' h1 h2 => (Nat.lt_or_ge i' k).elim (HA.out i' h1) (fun h => by obtain rfl : i' = k := (by omega); exact HB.out)⟩
            case measure => simp [intOf]; omega
        · have HF := Lib.hid (HNN.out (by
            intro j hj
            by_cases hjL : L < j
            · have := HA.out (j - L) (by omega) (by omega)
              rwa [show L + (j - L) = j by omega, Nat.mod_eq_of_lt hj] at this
            · have := HA.out (j + len - L) (by omega) (by omega)
              rwa [show L + (j + len - L) = j + len by omega, Nat.add_mod_right, Nat.mod_eq_of_lt hj] at this))
          go_wp2
          go_ret2
          exact ⟨by rw [HF.out]; rfl, rfl⟩
end Go.Proofs.Ytooonjoiidcmgaa
