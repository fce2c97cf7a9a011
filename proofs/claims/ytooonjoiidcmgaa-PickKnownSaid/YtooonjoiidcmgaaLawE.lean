/- The walk of the closed statement PickKnown: true. -/
import Derived.Test.YtooonjoiidcmgaaLawD
namespace Go.Proofs.Ytooonjoiidcmgaa
open Go.RowKit Go.Shelf

/-- a list of bools, 50 at most, that lies in W -/
def LA (W : World) (v : Value) : Prop := ∃ a len cap bs, v = .slice a len cap ∧ Bools W.heap.size W (.slice a len cap) bs ∧ len ≤ 50 ∧ len ≤ cap ∧ cap ≤ maxLen
theorem LA.below {W W' : World} {v : Value} (h : LA W v) (hb : Below W.heap.size W W') : LA W' v := by
  obtain ⟨a, len, cap, bs, rfl, hB, h1, h2, h3⟩ := h
  exact ⟨a, len, cap, bs, rfl, (hB.below hb).mono hb.size, h1, h2, h3⟩
theorem below_alloc (W : World) (o : Obj) : Below W.heap.size W (W.alloc o) := (Below.refl _ _).alloc (Nat.le_refl _) o
theorem LA.alloc {W : World} {v : Value} (h : LA W v) (o : Obj) : LA (W.alloc o) v := h.below (below_alloc W o)
theorem LA.lit (W : World) (bs : List Bool) (cs : Array Value) (n : Nat) (hn : n = bs.length) (h : cs = (bs.map Value.bool).toArray) (hl : n ≤ 50) : LA (W.alloc (.cells cs 4)) (.slice (some ⟨W.heap.size, 0, none⟩) n n) := by
  subst hn
  exact ⟨_, _, _, bs, rfl, bools_lit W bs cs _ h, hl, Nat.le_refl _, by unfold maxLen; omega⟩
theorem LA.nil (W : World) : LA W (.slice none 0 0) := ⟨_, _, _, [], rfl, ⟨none, 0, rfl, fun j hj => absurd hj (Nat.not_lt_zero _)⟩, by omega, by omega, by unfold maxLen; omega⟩
theorem LA.made (W : World) : LA (W.alloc (.cells (madeCells #[.bool false] 50) 4)) (.slice (some ⟨W.heap.size, 0, none⟩) 50 50) := by
  refine ⟨_, _, _, List.replicate 50 false, rfl, ?_, by omega, by omega, by unfold maxLen; omega⟩
  exact rowIs_bools (cap := 50) ((World.rowIs_made W (.bool false) 50 4).congr (fun j hj => by rw [List.getElem?_replicate, if_pos hj]; rfl)) (by rw [List.length_replicate])
/-- a list of numbers, 6 at most, that lies in W -/
def IA (W : World) (v : Value) : Prop := ∃ a len cap xs, v = .slice a len cap ∧ Ints W.heap.size W (.slice a len cap) xs ∧ len ≤ cap ∧ cap ≤ maxLen
theorem IA.below {W W' : World} {v : Value} (h : IA W v) (hb : Below W.heap.size W W') : IA W' v := by
  obtain ⟨a, len, cap, bs, rfl, hB, h2, h3⟩ := h
  exact ⟨a, len, cap, bs, rfl, (hB.below hb).mono hb.size, h2, h3⟩
theorem IA.alloc {W : World} {v : Value} (h : IA W v) (o : Obj) : IA (W.alloc o) v := h.below (below_alloc W o)
theorem IA.lit (W : World) (xs : List Int) (cs : Array Value) (n : Nat) (hn : n = xs.length) (h : cs = (xs.map (Value.int .i64)).toArray) (hl : n ≤ 50) : IA (W.alloc (.cells cs 3)) (.slice (some ⟨W.heap.size, 0, none⟩) n n) := by
  subst hn
  exact ⟨_, _, _, xs, rfl, ints_lit W xs cs _ h, Nat.le_refl _, by unfold maxLen; omega⟩
theorem IA.nil (W : World) : IA W (.slice none 0 0) := ⟨_, _, _, [], rfl, ⟨none, 0, rfl, fun j hj => absurd hj (Nat.not_lt_zero _)⟩, by omega, by unfold maxLen; omega⟩

/-- what PickTells and PickAll answer of such a list, PickGaps of such numbers -/
theorem tells_LA {W : World} {v : Value} (h : LA W v) (e : Int) (h0 : -9223372036854775808 ≤ e) (h1 : e ≤ 9223372036854775807) : Calls Try.prog 3 #[v, .int .i64 e] W fun e w' => e = .returned (.bool true) ∧ Below W.heap.size W w' := by
  obtain ⟨a, len, cap, bs, rfl, hB, h2, h3, h4⟩ := h
  exact tells_walk a len cap bs e W hB h0 h1 (by have := hB.len; omega)
theorem all_LA {W : World} {v : Value} (h : LA W v) (e : Int) : Calls Try.prog 5 #[v, .int .i64 e] W fun e w' => e = .returned (.bool true) ∧ Below W.heap.size W w' := by
  obtain ⟨a, len, cap, bs, rfl, hB, h2, h3, h4⟩ := h
  exact all_walk a len cap bs e W hB h3 h4
theorem gaps_IA {W : World} {v : Value} (h : IA W v) (c d : Int) : Calls Try.prog 4 #[v, .agg #[.int .i64 c, .int .i64 d]] W fun e w' => e = .returned (.bool true) ∧ Below W.heap.size W w' := by
  obtain ⟨a, len, cap, xs, rfl, hI, h3, h4⟩ := h
  exact gaps_walk a len cap xs c d W hI h3 h4

/-- a row of nine numbers, one of seven lists -/
structure Rows9 (W : World) (L E : Nat) : Prop where
  l : ∀ t, t < 7 → ∃ v, W.cell? ⟨L, t, none⟩ = some v ∧ LA W v
  e : ∀ k, k < 9 → ∃ n : Int, W.cell? ⟨E, k, none⟩ = some (.int .i64 n) ∧ -9223372036854775808 ≤ n ∧ n ≤ 9223372036854775807
  hl : L < W.heap.size
  he : E < W.heap.size
theorem Rows9.below {W W' : World} {L E : Nat} (h : Rows9 W L E) (hb : Below W.heap.size W W') : Rows9 W' L E :=
  ⟨fun t ht => let ⟨v, h1, h2⟩ := h.l t ht; ⟨v, (hb.cell (p := ⟨L, t, none⟩) h.hl).trans h1, h2.below hb⟩,
   fun k hk => let ⟨n, h1, h2⟩ := h.e k hk; ⟨n, (hb.cell (p := ⟨E, k, none⟩) h.he).trans h1, h2⟩, Nat.lt_of_lt_of_le h.hl hb.size, Nat.lt_of_lt_of_le h.he hb.size⟩
structure Rows7 (W : World) (L : Nat) : Prop where
  l : ∀ t, t < 7 → ∃ v, W.cell? ⟨L, t, none⟩ = some v ∧ IA W v
  hl : L < W.heap.size
theorem Rows7.below {W W' : World} {L : Nat} (h : Rows7 W L) (hb : Below W.heap.size W W') : Rows7 W' L :=
  ⟨fun t ht => let ⟨v, h1, h2⟩ := h.l t ht; ⟨v, (hb.cell (p := ⟨L, t, none⟩) h.hl).trans h1, h2.below hb⟩, Nat.lt_of_lt_of_le h.hl hb.size⟩

def kwA (w : World) : World := ((((((w.alloc (.cells #[.bool false] 4)).alloc (.cells #[.bool true] 4)).alloc (.cells #[.bool false, .bool false] 4)).alloc (.cells #[.bool true, .bool false, .bool true, .bool true] 4)).alloc (.cells #[.bool false, .bool true, .bool false] 4)).alloc (.cells (madeCells #[.bool false] 50) 4))
def kwL (h : Nat) : Array Value := #[.slice none 0 0, .slice (some ⟨h, 0, none⟩) 1 1, .slice (some ⟨h + 1, 0, none⟩) 1 1, .slice (some ⟨h + 1 + 1, 0, none⟩) 2 2, .slice (some ⟨h + 1 + 1 + 1, 0, none⟩) 4 4, .slice (some ⟨h + 1 + 1 + 1 + 1, 0, none⟩) 3 3, .slice (some ⟨h + 1 + 1 + 1 + 1 + 1, 0, none⟩) 50 50]
def kwE : Array Value := #[.int .i64 (-9223372036854775808), .int .i64 (-5), .int .i64 (-1), .int .i64 0, .int .i64 1, .int .i64 2, .int .i64 3, .int .i64 7, .int .i64 9223372036854775807]
def kw0 (w : World) : World := ((kwA w).alloc (.cells (kwL w.heap.size) 22)).alloc (.cells kwE 3)
theorem kwA_size (w : World) : (kwA w).heap.size = w.heap.size + 6 := by simp [kwA]
theorem kw0_below (w : World) : Below w.heap.size w (kw0 w) := by
  have h1 : Below w.heap.size w (kwA w) := ((((((below_alloc w _).alloc (by simp) _).alloc (by simp; omega) _).alloc (by simp; omega) _).alloc (by simp; omega) _).alloc (by simp; omega) _)
  exact (h1.alloc (by rw [kwA_size]; omega) _).alloc (by rw [World.size_alloc, kwA_size]; omega) _
theorem kw0_lists (w : World) : ∀ t, t < 7 → ∃ v, (kwL w.heap.size)[t]? = some v ∧ LA (kwA w) v := by
  have e1 : ∀ X : World, ∀ o : Obj, (X.alloc o).heap.size = X.heap.size + 1 := fun X o => World.size_alloc X o
  have l0 := (((((LA.lit w [false] _ 1 rfl rfl (by omega)).alloc (.cells #[.bool true] 4)).alloc (.cells #[.bool false, .bool false] 4)).alloc (.cells #[.bool true, .bool false, .bool true, .bool true] 4)).alloc (.cells #[.bool false, .bool true, .bool false] 4)).alloc (.cells (madeCells #[.bool false] 50) 4)
  have l1 := ((((LA.lit (w.alloc (.cells #[.bool false] 4)) [true] _ 1 rfl rfl (by omega)).alloc (.cells #[.bool false, .bool false] 4)).alloc (.cells #[.bool true, .bool false, .bool true, .bool true] 4)).alloc (.cells #[.bool false, .bool true, .bool false] 4)).alloc (.cells (madeCells #[.bool false] 50) 4)
  have l2 := (((LA.lit ((w.alloc (.cells #[.bool false] 4)).alloc (.cells #[.bool true] 4)) [false, false] _ 2 rfl rfl (by omega)).alloc (.cells #[.bool true, .bool false, .bool true, .bool true] 4)).alloc (.cells #[.bool false, .bool true, .bool false] 4)).alloc (.cells (madeCells #[.bool false] 50) 4)
  have l3 := ((LA.lit (((w.alloc (.cells #[.bool false] 4)).alloc (.cells #[.bool true] 4)).alloc (.cells #[.bool false, .bool false] 4)) [true, false, true, true] _ 4 rfl rfl (by omega)).alloc (.cells #[.bool false, .bool true, .bool false] 4)).alloc (.cells (madeCells #[.bool false] 50) 4)
  have l4 := (LA.lit ((((w.alloc (.cells #[.bool false] 4)).alloc (.cells #[.bool true] 4)).alloc (.cells #[.bool false, .bool false] 4)).alloc (.cells #[.bool true, .bool false, .bool true, .bool true] 4)) [false, true, false] _ 3 rfl rfl (by omega)).alloc (.cells (madeCells #[.bool false] 50) 4)
  have l5 := LA.made (((((w.alloc (.cells #[.bool false] 4)).alloc (.cells #[.bool true] 4)).alloc (.cells #[.bool false, .bool false] 4)).alloc (.cells #[.bool true, .bool false, .bool true, .bool true] 4)).alloc (.cells #[.bool false, .bool true, .bool false] 4))
  simp only [e1] at l1 l2 l3 l4 l5
  intro t ht
  obtain rfl | rfl | rfl | rfl | rfl | rfl | rfl : t = 0 ∨ t = 1 ∨ t = 2 ∨ t = 3 ∨ t = 4 ∨ t = 5 ∨ t = 6 := by omega
  · exact ⟨_, rfl, LA.nil _⟩
  · exact ⟨_, rfl, l0⟩
  · exact ⟨_, rfl, l1⟩
  · exact ⟨_, rfl, l2⟩
  · exact ⟨_, rfl, l3⟩
  · exact ⟨_, rfl, l4⟩
  · exact ⟨_, rfl, l5⟩
theorem kw0_ends : ∀ k, k < 9 → ∃ n : Int, kwE[k]? = some (.int .i64 n) ∧ -9223372036854775808 ≤ n ∧ n ≤ 9223372036854775807 := by
  intro k hk
  obtain rfl | rfl | rfl | rfl | rfl | rfl | rfl | rfl | rfl : k = 0 ∨ k = 1 ∨ k = 2 ∨ k = 3 ∨ k = 4 ∨ k = 5 ∨ k = 6 ∨ k = 7 ∨ k = 8 := by omega
  all_goals exact ⟨_, rfl, by omega, by omega⟩
theorem kw0_rows (w : World) : Rows9 (kw0 w) (w.heap.size + 6) (w.heap.size + 7) := by
  have s1 := kwA_size w
  refine ⟨fun t ht => ?_, fun k hk => ?_, by unfold kw0; simp only [World.size_alloc]; omega, by unfold kw0; simp only [World.size_alloc]; omega⟩
  · obtain ⟨v, h1, h2⟩ := kw0_lists w t ht
    refine ⟨v, ?_, (h2.alloc _).alloc _⟩
    have h3 := cell_lit (kwA w) (kwL w.heap.size) 22 t
    rw [s1, h1] at h3
    exact ((below_alloc _ _).cell (p := ⟨w.heap.size + 6, t, none⟩) (by rw [World.size_alloc]; simp; omega)).trans h3
  · obtain ⟨n, h1, h2⟩ := kw0_ends k hk
    refine ⟨n, ?_, h2⟩
    have h3 := cell_lit ((kwA w).alloc (.cells (kwL w.heap.size) 22)) kwE 3 k
    rw [World.size_alloc, s1, h1] at h3
    exact h3

def kwB (w : World) : World := ((((((w.alloc (.cells #[.int .i64 0] 3)).alloc (.cells #[.int .i64 1, .int .i64 0] 3)).alloc (.cells #[.int .i64 0, .int .i64 1, .int .i64 2, .int .i64 0, .int .i64 1, .int .i64 2] 3)).alloc (.cells #[.int .i64 0, .int .i64 0, .int .i64 0, .int .i64 1] 3)).alloc (.cells #[.int .i64 1, .int .i64 1, .int .i64 1, .int .i64 0] 3)).alloc (.cells #[.int .i64 9, .int .i64 (-1), .int .i64 9] 3))
def kwM (h : Nat) : Array Value := #[.slice none 0 0, .slice (some ⟨h, 0, none⟩) 1 1, .slice (some ⟨h + 1, 0, none⟩) 2 2, .slice (some ⟨h + 1 + 1, 0, none⟩) 6 6, .slice (some ⟨h + 1 + 1 + 1, 0, none⟩) 4 4, .slice (some ⟨h + 1 + 1 + 1 + 1, 0, none⟩) 4 4, .slice (some ⟨h + 1 + 1 + 1 + 1 + 1, 0, none⟩) 3 3]
def kw1 (w : World) : World := (kwB w).alloc (.cells (kwM w.heap.size) 27)
theorem kwB_size (w : World) : (kwB w).heap.size = w.heap.size + 6 := by simp [kwB]
theorem kw1_below (w : World) : Below w.heap.size w (kw1 w) := by
  have h1 : Below w.heap.size w (kwB w) := ((((((below_alloc w _).alloc (by simp) _).alloc (by simp; omega) _).alloc (by simp; omega) _).alloc (by simp; omega) _).alloc (by simp; omega) _)
  exact h1.alloc (by rw [kwB_size]; omega) _
theorem kw1_lists (w : World) : ∀ t, t < 7 → ∃ v, (kwM w.heap.size)[t]? = some v ∧ IA (kwB w) v := by
  have e1 : ∀ X : World, ∀ o : Obj, (X.alloc o).heap.size = X.heap.size + 1 := fun X o => World.size_alloc X o
  have l0 := (((((IA.lit w [0] _ 1 rfl rfl (by omega)).alloc (.cells #[.int .i64 1, .int .i64 0] 3)).alloc (.cells #[.int .i64 0, .int .i64 1, .int .i64 2, .int .i64 0, .int .i64 1, .int .i64 2] 3)).alloc (.cells #[.int .i64 0, .int .i64 0, .int .i64 0, .int .i64 1] 3)).alloc (.cells #[.int .i64 1, .int .i64 1, .int .i64 1, .int .i64 0] 3)).alloc (.cells #[.int .i64 9, .int .i64 (-1), .int .i64 9] 3)
  have l1 := ((((IA.lit (w.alloc (.cells #[.int .i64 0] 3)) [1, 0] _ 2 rfl rfl (by omega)).alloc (.cells #[.int .i64 0, .int .i64 1, .int .i64 2, .int .i64 0, .int .i64 1, .int .i64 2] 3)).alloc (.cells #[.int .i64 0, .int .i64 0, .int .i64 0, .int .i64 1] 3)).alloc (.cells #[.int .i64 1, .int .i64 1, .int .i64 1, .int .i64 0] 3)).alloc (.cells #[.int .i64 9, .int .i64 (-1), .int .i64 9] 3)
  have l2 := (((IA.lit ((w.alloc (.cells #[.int .i64 0] 3)).alloc (.cells #[.int .i64 1, .int .i64 0] 3)) [0, 1, 2, 0, 1, 2] _ 6 rfl rfl (by omega)).alloc (.cells #[.int .i64 0, .int .i64 0, .int .i64 0, .int .i64 1] 3)).alloc (.cells #[.int .i64 1, .int .i64 1, .int .i64 1, .int .i64 0] 3)).alloc (.cells #[.int .i64 9, .int .i64 (-1), .int .i64 9] 3)
  have l3 := ((IA.lit (((w.alloc (.cells #[.int .i64 0] 3)).alloc (.cells #[.int .i64 1, .int .i64 0] 3)).alloc (.cells #[.int .i64 0, .int .i64 1, .int .i64 2, .int .i64 0, .int .i64 1, .int .i64 2] 3)) [0, 0, 0, 1] _ 4 rfl rfl (by omega)).alloc (.cells #[.int .i64 1, .int .i64 1, .int .i64 1, .int .i64 0] 3)).alloc (.cells #[.int .i64 9, .int .i64 (-1), .int .i64 9] 3)
  have l4 := (IA.lit ((((w.alloc (.cells #[.int .i64 0] 3)).alloc (.cells #[.int .i64 1, .int .i64 0] 3)).alloc (.cells #[.int .i64 0, .int .i64 1, .int .i64 2, .int .i64 0, .int .i64 1, .int .i64 2] 3)).alloc (.cells #[.int .i64 0, .int .i64 0, .int .i64 0, .int .i64 1] 3)) [1, 1, 1, 0] _ 4 rfl rfl (by omega)).alloc (.cells #[.int .i64 9, .int .i64 (-1), .int .i64 9] 3)
  have l5 := IA.lit (((((w.alloc (.cells #[.int .i64 0] 3)).alloc (.cells #[.int .i64 1, .int .i64 0] 3)).alloc (.cells #[.int .i64 0, .int .i64 1, .int .i64 2, .int .i64 0, .int .i64 1, .int .i64 2] 3)).alloc (.cells #[.int .i64 0, .int .i64 0, .int .i64 0, .int .i64 1] 3)).alloc (.cells #[.int .i64 1, .int .i64 1, .int .i64 1, .int .i64 0] 3)) [9, -1, 9] _ 3 rfl rfl (by omega)
  simp only [e1] at l1 l2 l3 l4 l5
  intro t ht
  obtain rfl | rfl | rfl | rfl | rfl | rfl | rfl : t = 0 ∨ t = 1 ∨ t = 2 ∨ t = 3 ∨ t = 4 ∨ t = 5 ∨ t = 6 := by omega
  · exact ⟨_, rfl, IA.nil _⟩
  · exact ⟨_, rfl, l0⟩
  · exact ⟨_, rfl, l1⟩
  · exact ⟨_, rfl, l2⟩
  · exact ⟨_, rfl, l3⟩
  · exact ⟨_, rfl, l4⟩
  · exact ⟨_, rfl, l5⟩
theorem kw1_rows (w : World) : Rows7 (kw1 w) (w.heap.size + 6) := by
  have s1 := kwB_size w
  refine ⟨fun t ht => ?_, by unfold kw1; simp only [World.size_alloc]; omega⟩
  obtain ⟨v, h1, h2⟩ := kw1_lists w t ht
  refine ⟨v, ?_, h2.alloc _⟩
  have h3 := cell_lit (kwB w) (kwM w.heap.size) 27 t
  rw [s1, h1] at h3
  exact h3

set_option maxRecDepth 100000 in
set_option maxHeartbeats 4000000 in
theorem known_walk (w : World) : Calls Try.prog 8 #[] w fun e w' => e = .returned (.bool true) ∧ Below w.heap.size w w' := by
  have hM : ∀ w, (Instr.makeSlice 22 (.int .i64 50) (.int .i64 50)).run Try.prog w = .ok (.slice (some ⟨w.heap.size, 0, none⟩) 50 50) (w.alloc (.cells (madeCells #[.bool false] 50) 4)) :=
    fun w => run_make_row' (P := Try.prog) 22 4 (.bool false) 1 Try.underlying22 info4 rfl .i64 .i64 50 (by omega) (by omega) w
  go_enter Try.func8, Try.ntmps8
  go_wp2_with fail
  have hR := kw0_rows w
  have hB := kw0_below w
  change Code.wp Try.prog _ _ _ (kw0 w)
  simp only [Nat.add_assoc, Nat.reduceAdd]
  generalize kw0 w = W0 at hR hB ⊢
  clear hM
  generalize w.heap.size + 6 = L at *
  generalize w.heap.size + 7 = E at *
  go_loopw [3] (fun i wr => ∃ t : Nat, t ≤ 7 ∧ i = .int .i64 t ∧ Rows9 wr L E ∧ Below w.heap.size w wr) (fun i _ => 7 - (intOf i).toNat)
  case atStart => exact ⟨0, by omega, rfl, hR, hB⟩
  case round =>
    clear hR hB
    obtain ⟨t, ht, rfl, hR, hB⟩ := hrel
    by_cases hlt : t < 7
    · have d1 : decide ((t : Int) < 7) = true := by simp; omega
      go_wp2
      clear d1
      obtain ⟨wo, rfl⟩ : ∃ wo : World, wo = wr := ⟨_, rfl⟩
      go_loopw [4] (fun i wr => ∃ k : Nat, k ≤ 9 ∧ i = .int .i64 k ∧ Rows9 wr L E ∧ Below w.heap.size w wr) (fun i _ => 9 - (intOf i).toNat)
      case atStart => exact ⟨0, by omega, rfl, hR, hB⟩
      case round =>
        clear hR hB
        obtain ⟨k, hk, rfl, hR, hB⟩ := hrel
        by_cases hltk : k < 9
        · obtain ⟨v, hx1, hLA⟩ := hR.l t hlt
          obtain ⟨n, hx2, hn1, hn2⟩ := hR.e k hltk
          have h3 : Hid (∀ W, Below wr.heap.size wr W → Calls Try.prog 3 #[v, .int .i64 n] W fun e w' => e = .returned (.bool true) ∧ Below W.heap.size W w') := fun W hW => tells_LA (hLA.below hW) n hn1 hn2
          have h5 : Hid (∀ W, Below wr.heap.size wr W → Calls Try.prog 5 #[v, .int .i64 n] W fun e w' => e = .returned (.bool true) ∧ Below W.heap.size W w') := fun W hW => all_LA (hLA.below hW) n
          have hLl := hR.hl
          have hEl := hR.he
          have HR := Lib.hid hR
          have HB := Lib.hid hB
          obtain ⟨a, len, cap, bs, rfl, _⟩ := hLA
          clear hR hB
          have q1 : (0 : Int) ≤ (t : Int) := by omega
          have q2 : (t : Int) < 7 := by omega
          have q3 : (0 : Int) ≤ (k : Int) := by omega
          have q4 : (k : Int) < 9 := by omega
          go_wp2_with fail
          go_region_held3 (fun w' => w'.cell? ⟨L, t, none⟩ = some (.slice a len cap) ∧ w'.cell? ⟨E, k, none⟩ = some (.int .i64 n))
            (first | go_keep | exact ⟨(hb2.cell (p := ⟨L, t, none⟩) (by simpa using hLl)).trans hx1, (hb2.cell (p := ⟨E, k, none⟩) (by simpa using hEl)).trans hx2⟩ | exact ⟨(hb1.cell (p := ⟨L, t, none⟩) (by simpa using hLl)).trans hx1, (hb1.cell (p := ⟨E, k, none⟩) (by simpa using hEl)).trans hx2⟩)
            (first
              | (go_at_call 3; refine (h3.out _ (by first | exact Below.refl _ _ | exact (Below.refl _ _).drew)).mono ?_; rintro e w1 ⟨rfl, hb0⟩; have hb1 : Below wr.heap.size wr w1 := ⟨hb0.os, hb0.tape, hb0.output, hb0.size, hb0.block⟩)
              | (go_at_call 5; refine (h5.out _ (by first | exact Below.refl _ _ | exact (Below.refl _ _).drew | exact hb1)).mono ?_; rintro e w2 ⟨rfl, hb00⟩; have hb2 : Below wr.heap.size wr w2 := Below.on hb1 (Nat.le_refl _) hb00))
          go_wp2
          go_roundw
          case rel => exact ⟨k + 1, by omega, by go_num, HR.out.below hb2, HB.out.trans (hb2.mono HB.out.size)⟩
          case measure => simp [intOf]; omega
        · go_wp2
          go_roundw
          case rel => exact ⟨t + 1, by omega, by go_num, hR, hB⟩
          case measure => simp [intOf]; omega
    · go_wp2_with fail
      have hR1 := hR.below (kw1_below wr)
      have hQ1 := kw1_rows wr
      have hB1 := Below.on hB (Nat.le_refl _) (kw1_below wr)
      change Code.wp Try.prog _ _ _ (kw1 wr)
      simp only [Nat.add_assoc, Nat.reduceAdd]
      generalize kw1 wr = W1 at hR1 hQ1 hB1 ⊢
      generalize wr.heap.size + 6 = M at *
      clear hR hB
      go_loopw [6] (fun i wr => ∃ t : Nat, t ≤ 7 ∧ i = .int .i64 t ∧ Rows9 wr L E ∧ Rows7 wr M ∧ Below w.heap.size w wr) (fun i _ => 7 - (intOf i).toNat)
      case atStart => exact ⟨0, by omega, rfl, hR1, hQ1, hB1⟩
      case round =>
        clear hR1 hQ1 hB1
        obtain ⟨t, ht, rfl, hR, hQ, hB⟩ := hrel
        by_cases hlt : t < 7
        · have d1 : decide ((t : Int) < 7) = true := by simp; omega
          go_wp2_with fail
          clear d1
          obtain ⟨wo, rfl⟩ : ∃ wo : World, wo = wr := ⟨_, rfl⟩
          go_loopw [7] (fun i wr => ∃ k : Nat, k ≤ 9 ∧ i = .int .i64 k ∧ Rows9 wr L E ∧ Rows7 wr M ∧ Below w.heap.size w wr) (fun i _ => 9 - (intOf i).toNat)
          case atStart => exact ⟨0, by omega, rfl, hR, hQ, hB⟩
          case round =>
            clear hR hQ hB
            obtain ⟨k, hk, rfl, hR, hQ, hB⟩ := hrel
            by_cases hltk : k < 9
            · have d2 : decide ((k : Int) < 9) = true := by simp; omega
              go_wp2_with fail
              clear d2
              obtain ⟨wo2, rfl⟩ : ∃ wo2 : World, wo2 = wr := ⟨_, rfl⟩
              go_loopw [8] (fun i wr => ∃ m : Nat, m ≤ 9 ∧ i = .int .i64 m ∧ Rows9 wr L E ∧ Rows7 wr M ∧ Below w.heap.size w wr) (fun i _ => 9 - (intOf i).toNat)
              case atStart => exact ⟨0, by omega, rfl, hR, hQ, hB⟩
              case round =>
                clear hR hQ hB
                obtain ⟨m, hm, rfl, hR, hQ, hB⟩ := hrel
                by_cases hltm : m < 9
                · obtain ⟨v, hx1, hIA⟩ := hQ.l t hlt
                  obtain ⟨n, hx2, _⟩ := hR.e k hltk
                  obtain ⟨n', hx3, _⟩ := hR.e m hltm
                  have h4 : Hid (Calls Try.prog 4 #[v, .agg #[.int .i64 n, .int .i64 n']] wr.drew fun e w' => e = .returned (.bool true) ∧ Below wr.drew.heap.size wr.drew w') := gaps_IA (hIA.below (Below.refl _ _).drew) n n'
                  have HR := Lib.hid (hR.below (Below.refl _ _).drew)
                  have HQ := Lib.hid (hQ.below (Below.refl _ _).drew)
                  have HB := Lib.hid hB.drew
                  have hy1 : wr.drew.cell? ⟨M, t, none⟩ = some v := hx1
                  have hy2 : wr.drew.cell? ⟨E, k, none⟩ = some (.int .i64 n) := hx2
                  have hy3 : wr.drew.cell? ⟨E, m, none⟩ = some (.int .i64 n') := hx3
                  obtain ⟨a, len, cap, bs, rfl, _⟩ := hIA
                  clear hR hQ hB hx1 hx2 hx3
                  have q1 : (0 : Int) ≤ (t : Int) := by omega
                  have q2 : (t : Int) < 7 := by omega
                  have q3 : (0 : Int) ≤ (k : Int) := by omega
                  have q4 : (k : Int) < 9 := by omega
                  have q5 : (0 : Int) ≤ (m : Int) := by omega
                  have q6 : (m : Int) < 9 := by omega
                  go_wp2_with fail
                  refine wp_region_still_tail 13 (by kernel_rfl) (by kernel_rfl) ?_
                  simp only [List.take_succ_cons, List.take_zero, List.drop_succ_cons, List.drop_zero]
                  change wpStill Try.prog _ wr.drew (fun a' => wpList Try.prog _ _ _ a' wr.drew) _ _
                  generalize wr.drew = wd at *
                  repeat still_step
                  refine wpStill_nil ?_
                  go_wp2_with (go_at_call 4; refine h4.out.mono ?_; rintro e w5 ⟨rfl, h5⟩)
                  go_roundw
                  case rel => exact ⟨m + 1, by omega, by go_num, HR.out.below h5, HQ.out.below h5, Below.on HB.out (Nat.le_refl _) h5⟩
                  case measure => simp [intOf]; omega
                · go_wp2_with fail
                  go_roundw
                  case rel => exact ⟨k + 1, by omega, by go_num, hR, hQ, hB⟩
                  case measure => simp [intOf]; omega
            · go_wp2_with fail
              go_roundw
              case rel => exact ⟨t + 1, by omega, by go_num, hR, hQ, hB⟩
              case measure => simp [intOf]; omega
        · obtain ⟨v, hx, hIA⟩ := hQ.l 3 (by omega)
          have HIA := Lib.hid hIA
          have HQ := Lib.hid hQ
          have HB := Lib.hid hB
          obtain ⟨a, len, cap, bs, rfl, _⟩ := hIA
          have hMl := hQ.hl
          clear hR hQ hB
          go_wp2_with fail
          refine (works_c _).mono ?_
          rintro e w1 ⟨rfl, h1⟩
          have hx1 := (h1.cell (p := ⟨M, 3, none⟩) hMl).trans hx
          have I1 := Lib.hid (HIA.out.below h1)
          have B1 := Lib.hid (Below.on HB.out (Nat.le_refl _) h1)
          have hM1 : M < w1.heap.size := Nat.lt_of_lt_of_le hMl h1.size
          clear hx h1 hMl
          go_wp2_with fail
          refine (gaps_IA I1.out _ _).mono ?_
          rintro e w2 ⟨rfl, h1⟩
          have hx2 := (h1.cell (p := ⟨M, 3, none⟩) hM1).trans hx1
          have I2 := Lib.hid (I1.out.below h1)
          have B2 := Lib.hid (Below.on B1.out (Nat.le_refl _) h1)
          have hM2 : M < w2.heap.size := Nat.lt_of_lt_of_le hM1 h1.size
          clear hx1 h1 hM1
          go_wp2_with fail
          refine (gaps_IA I2.out _ _).mono ?_
          rintro e w3 ⟨rfl, h1⟩
          have hx3 := (h1.cell (p := ⟨M, 3, none⟩) hM2).trans hx2
          have I3 := Lib.hid (I2.out.below h1)
          have B3 := Lib.hid (Below.on B2.out (Nat.le_refl _) h1)
          clear hx2 h1 hM2
          go_wp2_with fail
          refine (gaps_IA I3.out _ _).mono ?_
          rintro e w4 ⟨rfl, h1⟩
          have B4 := Lib.hid (Below.on B3.out (Nat.le_refl _) h1)
          clear h1
          go_wp2
          go_ret
          exact ⟨rfl, B4.out⟩
end Go.Proofs.Ytooonjoiidcmgaa
