/- Plain laws of picks: picks are fair just where each window holds each processor; turns by Next are fair. -/
import Derived.Test.YtooonjoiidcmgaaPlainA
namespace Go.Proofs.Ytooonjoiidcmgaa

theorem gap_take (c : Int) (xs : List Int) : ∀ k, k ≤ xs.length →
    (∀ W, W ≤ (gapSt c (xs.take k)).1 ↔ W ≤ k ∧ ∀ i, k - W ≤ i → i < k → xs[i]?.getD 0 ≠ c) ∧
    (∀ W, W ≤ (gapSt c (xs.take k)).2 ↔ ∃ a, a + W ≤ k ∧ ∀ i, a ≤ i → i < a + W → xs[i]?.getD 0 ≠ c) := by
  intro k
  induction k with
  | zero =>
    intro _
    refine ⟨fun W => ?_, fun W => ?_⟩
    · simp only [List.take_zero, gapSt, List.foldl_nil]
      exact ⟨fun h => ⟨h, fun i _ h2 => absurd h2 (Nat.not_lt_zero _)⟩, fun h => h.1⟩
    · simp only [List.take_zero, gapSt, List.foldl_nil]
      refine ⟨fun h => ⟨0, by omega, fun i _ h2 => by omega⟩, fun ⟨a, h, _⟩ => by omega⟩
  | succ k ih =>
    intro hk
    obtain ⟨ih1, ih2⟩ := ih (by omega)
    rw [take_snoc xs k 0 (by omega), gap_snoc]
    have now : ∀ W, W ≤ (if xs[k]?.getD 0 = c then 0 else (gapSt c (xs.take k)).1 + 1) ↔ W ≤ k + 1 ∧ ∀ i, k + 1 - W ≤ i → i < k + 1 → xs[i]?.getD 0 ≠ c := by
      intro W
      by_cases hx : xs[k]?.getD 0 = c
      · rw [if_pos hx]
        refine ⟨fun h => ⟨by omega, fun i h1 h2 => by omega⟩, fun ⟨h1, h2⟩ => ?_⟩
        by_cases hW : W = 0
        · omega
        · exact absurd hx (h2 k (by omega) (by omega))
      · rw [if_neg hx]
        cases W with
        | zero => exact ⟨fun _ => ⟨by omega, fun i h1 h2 => by omega⟩, fun _ => by omega⟩
        | succ V =>
          have := ih1 V
          constructor
          · intro h
            obtain ⟨h1, h2⟩ := this.1 (by omega)
            refine ⟨by omega, fun i h3 h4 => ?_⟩
            by_cases e : i = k
            · subst e; exact hx
            · exact h2 i (by omega) (by omega)
          · rintro ⟨h1, h2⟩
            have := this.2 ⟨by omega, fun i h3 h4 => h2 i (by omega) (by omega)⟩
            omega
    refine ⟨now, fun W => ?_⟩
    have hmax : ∀ x y : Nat, W ≤ max x y ↔ W ≤ x ∨ W ≤ y := fun x y => by omega
    dsimp only
    rw [hmax]
    constructor
    · rintro (h | h)
      · obtain ⟨a, h1, h2⟩ := (ih2 W).1 h
        exact ⟨a, by omega, h2⟩
      · obtain ⟨h1, h2⟩ := (now W).1 h
        exact ⟨k + 1 - W, by omega, fun i h3 h4 => h2 i h3 (by omega)⟩
    · rintro ⟨a, h1, h2⟩
      by_cases e : a + W ≤ k
      · exact .inl ((ih2 W).2 ⟨a, e, h2⟩)
      · exact .inr ((now W).2 ⟨by omega, fun i h3 h4 => h2 i (by omega) (by omega)⟩)

theorem gapF_lt (xs : List Int) (c : Int) (W : Nat) : gapF xs c < (W : Int) ↔ ∀ a, a + W ≤ xs.length → ∃ i, a ≤ i ∧ i < a + W ∧ xs[i]?.getD 0 = c := by
  have h := ((gap_take c xs xs.length (Nat.le_refl _)).2 W)
  rw [List.take_length] at h
  unfold gapF
  constructor
  · intro hl a ha
    refine Classical.byContradiction fun hne => ?_
    have := h.2 ⟨a, ha, fun i h1 h2 e => hne ⟨i, h1, h2, e⟩⟩
    omega
  · intro hall
    refine Classical.byContradiction fun hne => ?_
    obtain ⟨a, ha, hf⟩ := h.1 (by omega)
    obtain ⟨i, h1, h2, e⟩ := hall a ha
    exact hf i h1 h2 e

theorem fair_iff (xs : List Int) (cpus : Int) (W : Nat) (h1 : 1 ≤ cpus) (h2 : cpus ≤ 8) (h3 : 1 ≤ W) :
    fairF xs cpus (W : Int) = true ↔ ∀ a, a + W ≤ xs.length → ∀ c : Nat, (c : Int) < cpus → ∃ i, a ≤ i ∧ i < a + W ∧ xs[i]?.getD 0 = (c : Int) := by
  unfold fairF
  rw [if_neg (by omega)]
  by_cases hs : (xs.length : Int) < (W : Int)
  · rw [if_pos hs]
    exact ⟨fun _ a ha => by omega, fun _ => rfl⟩
  · rw [if_neg hs, List.all_eq_true]
    constructor
    · intro h a ha c hc
      have := h c (by simp; omega)
      simp only [decide_eq_true_eq] at this
      exact (gapF_lt xs c W).1 this a ha
    · intro h c hc
      simp only [List.mem_range] at hc
      simp only [decide_eq_true_eq]
      exact (gapF_lt xs c W).2 (fun a ha => h a ha c (by omega))

/-- turns: p, p + 1, .. around C -/
def turns (C p k : Nat) : List Int := (List.range k).map fun i => (((p + i) % C : Nat) : Int)
theorem turns_length (C p k : Nat) : (turns C p k).length = k := by simp [turns]
theorem turns_get (C p k : Nat) {i : Nat} (h : i < k) : (turns C p k)[i]?.getD 0 = (((p + i) % C : Nat) : Int) := by simp [turns, h]
theorem turns_succ (C p k : Nat) : turns C p (k + 1) = turns C p k ++ [(((p + k) % C : Nat) : Int)] := by simp [turns, List.range_succ]

theorem turns_fair (C p k : Nat) (h1 : 1 ≤ C) (h2 : C ≤ 8) : fairF (turns C p k) (C : Int) (C : Int) = true := by
  rw [fair_iff _ _ _ (by omega) (by omega) h1]
  intro a ha c hc
  rw [turns_length] at ha
  have hc' : c < C := by omega
  obtain ⟨d, hd, e⟩ : ∃ d, d < C ∧ (p + (a + d)) % C = c := by
    have hm : (p + a) % C < C := Nat.mod_lt _ h1
    have hdm := Nat.div_add_mod (p + a) C
    by_cases hle : (p + a) % C ≤ c
    · refine ⟨c - (p + a) % C, by omega, ?_⟩
      rw [show p + (a + (c - (p + a) % C)) = c + C * ((p + a) / C) by omega, Nat.add_mul_mod_self_left, Nat.mod_eq_of_lt hc']
    · refine ⟨c + C - (p + a) % C, by omega, ?_⟩
      rw [show p + (a + (c + C - (p + a) % C)) = c + C + C * ((p + a) / C) by omega, Nat.add_mul_mod_self_left, Nat.add_mod_right, Nat.mod_eq_of_lt hc']
  exact ⟨a + d, by omega, by omega, by rw [turns_get _ _ _ (by omega), e]⟩

theorem turns_unfair (C p k : Nat) (h1 : 2 ≤ C) (h2 : C ≤ 8) (hk : C ≤ k) (hp : p < C) : fairF (turns C p k) (C : Int) ((C - 1 : Nat) : Int) = false := by
  have : ¬ fairF (turns C p k) (C : Int) ((C - 1 : Nat) : Int) = true := by
    rw [fair_iff _ _ _ (by omega) (by omega) (by omega)]
    intro h
    obtain ⟨i, h3, h4, e⟩ := h 1 (by rw [turns_length]; omega) p (by omega)
    rw [turns_get _ _ _ (by omega)] at e
    have e' : (p + i) % C = p := by omega
    by_cases hc : p + i < C
    · rw [Nat.mod_eq_of_lt hc] at e'; omega
    · rw [Nat.mod_eq_sub_mod (by omega), Nat.mod_eq_of_lt (by omega)] at e'; omega
  simpa using this

/-- C processors that all run -/
def allRun (C : Nat) : List Bool := List.replicate C true
theorem allRun_get (C : Nat) {j : Nat} (h : j < C) : (allRun C)[j]?.getD false = true := by simp [allRun, h]
theorem next_allRun (C : Nat) (h : 1 ≤ C) (last : Int) : ∃ p : Nat, p < C ∧ nextF (allRun C) last = ((p : Int), true) := by
  have hl : (allRun C).length = C := by simp [allRun]
  unfold nextF
  rw [hl]
  cases hf : (List.range C).find? (fun j : Nat => (allRun C)[j]?.getD false && decide (last < (j : Int))) with
  | some c => exact ⟨c, by have := List.mem_of_find?_eq_some hf; simpa using this, rfl⟩
  | none =>
    have h2 : (List.range C).find? (fun j : Nat => (allRun C)[j]?.getD false) = some 0 := by
      rw [List.find?_range_eq_some]
      exact ⟨allRun_get C (by omega), by simp; omega, fun j hj => absurd hj (Nat.not_lt_zero _)⟩
    rw [h2]
    exact ⟨0, by omega, rfl⟩
theorem next_turn (C p : Nat) (hp : p < C) : nextF (allRun C) (p : Int) = ((((p + 1) % C : Nat) : Int), true) := by
  have hl : (allRun C).length = C := by simp [allRun]
  have := next_found (allRun C) p 1 (by omega) (by omega) (by omega) (by rw [hl]; exact allRun_get C (Nat.mod_lt _ (by omega))) (fun i' h1 h2 => by omega)
  rw [hl] at this
  exact this
/-- the number that stands in 'last' behind k picks -/
def lastOf (C p : Nat) (last : Int) (k : Nat) : Int := if k = 0 then last else (((p + (k - 1)) % C : Nat) : Int)
theorem lastOf_zero (C p : Nat) (last : Int) : lastOf C p last 0 = last := rfl
theorem lastOf_succ (C p : Nat) (last : Int) (k : Nat) : lastOf C p last (k + 1) = (((p + k) % C : Nat) : Int) := by simp [lastOf]
theorem next_last_of (C p : Nat) (last : Int) (hC : 1 ≤ C) (hp : p < C) (h : nextF (allRun C) last = ((p : Int), true)) (k : Nat) :
    nextF (allRun C) (lastOf C p last k) = ((((p + k) % C : Nat) : Int), true) := by
  cases k with
  | zero => rw [lastOf_zero, h, Nat.add_zero, Nat.mod_eq_of_lt hp]
  | succ k =>
    rw [lastOf_succ, next_turn C _ (Nat.mod_lt _ (by omega)), Nat.mod_add_mod]; rfl
end Go.Proofs.Ytooonjoiidcmgaa
