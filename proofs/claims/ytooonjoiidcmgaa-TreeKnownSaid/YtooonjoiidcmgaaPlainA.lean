/- Plain laws of picks: as the number goes through as many numbers as run, each one that runs is told once. -/
import Derived.Test.YtooonjoiidcmgaaLawA
namespace Go.Proofs.Ytooonjoiidcmgaa

/-- who is told at the number F + i -/
def pk (bs : List Bool) (F : Int) (i : Nat) : Nat := (runs bs)[((F + (i : Int)) % ((runs bs).length : Int)).toNat]?.getD 0
theorem pickF_pk (bs : List Bool) (F : Int) (i : Nat) (h : 0 < (runs bs).length) : pickF bs (F + i) = ((pk bs F i : Int), true) := by
  unfold pickF pk
  rw [if_neg (by intro e; rw [e] at h; simp at h)]

theorem mem_runs {bs : List Bool} {c : Nat} : c ∈ runs bs ↔ c < bs.length ∧ bs[c]?.getD false = true := by
  simp [runs, runsTo]
theorem sorted_runs (bs : List Bool) : (runs bs).Pairwise (· < ·) := List.Pairwise.filter _ List.pairwise_lt_range

theorem idx_lt (p : Int) {n : Nat} (h : 0 < n) : (p % (n : Int)).toNat < n := by
  have h1 := Int.emod_nonneg p (by omega : (n : Int) ≠ 0)
  have h2 := Int.emod_lt_of_pos p (by omega : 0 < (n : Int))
  omega

theorem pk_mem (bs : List Bool) (F : Int) (i : Nat) (h : 0 < (runs bs).length) : pk bs F i ∈ runs bs := by
  unfold pk
  have := idx_lt (F + (i : Int)) h
  rw [List.getElem?_eq_getElem this]
  exact List.getElem_mem this

theorem sorted_inj {l : List Nat} (hl : l.Pairwise (· < ·)) {i j : Nat} (hi : i < l.length) (hj : j < l.length) (h : l[i]?.getD 0 = l[j]?.getD 0) : i = j := by
  rw [List.getElem?_eq_getElem hi, List.getElem?_eq_getElem hj] at h
  have hp := List.pairwise_iff_getElem.1 hl
  rcases Nat.lt_trichotomy i j with hij | hij | hij
  · have := hp i j hi hj hij; simp at h; omega
  · exact hij
  · have := hp j i hj hi hij; simp at h; omega

theorem pk_inj (bs : List Bool) (F : Int) (h : 0 < (runs bs).length) {i j : Nat} (hi : i < (runs bs).length) (hj : j < (runs bs).length) (e : pk bs F i = pk bs F j) : i = j := by
  have e1 := sorted_inj (sorted_runs bs) (idx_lt _ h) (idx_lt _ h) e
  have a1 := Int.emod_nonneg (F + (i : Int)) (by omega : ((runs bs).length : Int) ≠ 0)
  have a2 := Int.emod_nonneg (F + (j : Int)) (by omega : ((runs bs).length : Int) ≠ 0)
  have e2 : (F + (i : Int)) % ((runs bs).length : Int) = (F + (j : Int)) % ((runs bs).length : Int) := by omega
  have d1 := Int.emod_add_mul_ediv (F + (i : Int)) ((runs bs).length : Int)
  have d2 := Int.emod_add_mul_ediv (F + (j : Int)) ((runs bs).length : Int)
  rw [e2] at d1
  generalize (F + (i : Int)) / ((runs bs).length : Int) = q1 at *
  generalize (F + (j : Int)) / ((runs bs).length : Int) = q2 at *
  generalize (F + (j : Int)) % ((runs bs).length : Int) = r at *
  generalize (runs bs).length = n at *
  have d3 : (n : Int) * (q1 - q2) = (i : Int) - j := by rw [Int.mul_sub]; omega
  rcases Int.lt_trichotomy (q1 - q2) 0 with hq | hq | hq
  · have : (n : Int) * (q1 - q2) ≤ (n : Int) * (-1) := Int.mul_le_mul_of_nonneg_left (by omega) (by omega)
    omega
  · rw [hq] at d3; omega
  · have : (n : Int) * 1 ≤ (n : Int) * (q1 - q2) := Int.mul_le_mul_of_nonneg_left (by omega) (by omega)
    omega

theorem pk_surj (bs : List Bool) (F : Int) {c : Nat} (hc : c ∈ runs bs) : ∃ i, i < (runs bs).length ∧ pk bs F i = c := by
  obtain ⟨r, hr, e⟩ := List.mem_iff_getElem.1 hc
  have hn : 0 < (runs bs).length := by omega
  refine ⟨(((r : Int) - F) % ((runs bs).length : Int)).toNat, idx_lt _ hn, ?_⟩
  unfold pk
  have h1 := Int.emod_nonneg ((r : Int) - F) (by omega : ((runs bs).length : Int) ≠ 0)
  have e2 : (F + ((((r : Int) - F) % ((runs bs).length : Int)).toNat : Int)) % ((runs bs).length : Int) = r := by
    rw [Int.toNat_of_nonneg h1, Int.add_emod, Int.emod_emod, ← Int.add_emod, show F + ((r : Int) - F) = r by omega]
    exact Int.emod_eq_of_lt (by omega) (by omega)
  rw [e2, Int.toNat_natCast, List.getElem?_eq_getElem hr, e]; rfl

/-- was j told in the first k? -/
def hit (bs : List Bool) (F : Int) (k j : Nat) : Bool := (List.range k).any fun i => decide (pk bs F i = j)
theorem hit_zero (bs : List Bool) (F : Int) (j : Nat) : hit bs F 0 j = false := rfl
theorem hit_succ (bs : List Bool) (F : Int) (k j : Nat) : hit bs F (k + 1) j = (hit bs F k j || decide (pk bs F k = j)) := by
  simp [hit, List.range_succ, List.any_append]
theorem hit_new (bs : List Bool) (F : Int) (k : Nat) (hk : k < (runs bs).length) : hit bs F k (pk bs F k) = false := by
  unfold hit
  rw [List.any_eq_false]
  intro i hi
  simp only [List.mem_range] at hi
  simp only [decide_eq_true_eq]
  intro e
  have := pk_inj bs F (by omega) (by omega) hk e
  omega
theorem hit_all (bs : List Bool) (F : Int) (j : Nat) (hj : j < bs.length) : hit bs F (runs bs).length j = bs[j]?.getD false := by
  cases hb : bs[j]?.getD false with
  | true =>
    obtain ⟨i, hi, e⟩ := pk_surj bs F (mem_runs.2 ⟨hj, hb⟩)
    unfold hit; rw [List.any_eq_true]; exact ⟨i, by simpa using hi, by simpa using e⟩
  | false =>
    unfold hit; rw [List.any_eq_false]
    intro i hi
    simp only [List.mem_range] at hi
    simp only [decide_eq_true_eq]
    intro e
    have := (mem_runs.1 (pk_mem bs F i (by omega))).2
    rw [e, hb] at this; cases this

theorem next_is (bs : List Bool) (last : Int) : (nextF bs last).2 = decide (0 < (runs bs).length) := by
  by_cases h : runs bs = []
  · have hn : ∀ j, j < bs.length → bs[j]?.getD false = false := fun j hj => by
      cases hb : bs[j]?.getD false with
      | false => rfl
      | true => have := mem_runs.2 ⟨hj, hb⟩; rw [h] at this; cases this
    rw [next_none bs last hn, h]; rfl
  · obtain ⟨c, hc⟩ : ∃ c, c ∈ runs bs := List.exists_mem_of_ne_nil _ h
    have hlen : 0 < (runs bs).length := List.length_pos_of_mem hc
    rw [decide_eq_true hlen]
    unfold nextF
    have h2 : ∃ d, (List.range bs.length).find? (fun j : Nat => bs[j]?.getD false) = some d := by
      obtain ⟨h1, h2⟩ := mem_runs.1 hc
      cases hf : (List.range bs.length).find? (fun j : Nat => bs[j]?.getD false) with
      | some d => exact ⟨d, rfl⟩
      | none => rw [List.find?_eq_none] at hf; have := hf c (by simpa using h1); rw [h2] at this; simp at this
    obtain ⟨d, hd⟩ := h2
    rw [hd]
    split <;> rfl
theorem pick_is (bs : List Bool) (p : Int) : (pickF bs p).2 = decide (0 < (runs bs).length) := by
  unfold pickF
  by_cases h : runs bs = []
  · rw [if_pos h, h]; rfl
  · rw [if_neg h]; have := List.length_pos_iff.2 h; simp [this]
end Go.Proofs.Ytooonjoiidcmgaa
