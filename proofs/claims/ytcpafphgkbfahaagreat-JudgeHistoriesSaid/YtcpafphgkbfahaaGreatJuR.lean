/- copySnap. Conditions: what lies in memory. -/
import Derived.Test.YtcpafphgkbfahaaGreatJuS0
namespace Go.Proofs.YtcpafphgkbfahaaGreat
open Go.RowKit Go.Shelf
set_option linter.unusedVariables false
set_option linter.unusedSimpArgs false
theorem cells14 {W : World} {X : Nat} {t : TypeId} {b0 b1 b2 b3 b4 b5 b6 b7 b8 b9 b10 b11 b12 b13 : Value} (h : W.heap[X]? = some (.cells #[b0, b1, b2, b3, b4, b5, b6, b7, b8, b9, b10, b11, b12, b13] t (0, 0))) : (W.cell? ⟨X, 0, none⟩ = some b0 ∧ W.frozen? ⟨X, 0, none⟩ = false) ∧ (W.cell? ⟨X, 1, none⟩ = some b1 ∧ W.frozen? ⟨X, 1, none⟩ = false) ∧ (W.cell? ⟨X, 2, none⟩ = some b2 ∧ W.frozen? ⟨X, 2, none⟩ = false) ∧ (W.cell? ⟨X, 3, none⟩ = some b3 ∧ W.frozen? ⟨X, 3, none⟩ = false) ∧ (W.cell? ⟨X, 4, none⟩ = some b4 ∧ W.frozen? ⟨X, 4, none⟩ = false) ∧ (W.cell? ⟨X, 5, none⟩ = some b5 ∧ W.frozen? ⟨X, 5, none⟩ = false) ∧ (W.cell? ⟨X, 6, none⟩ = some b6 ∧ W.frozen? ⟨X, 6, none⟩ = false) ∧ (W.cell? ⟨X, 7, none⟩ = some b7 ∧ W.frozen? ⟨X, 7, none⟩ = false) ∧ (W.cell? ⟨X, 8, none⟩ = some b8 ∧ W.frozen? ⟨X, 8, none⟩ = false) ∧ (W.cell? ⟨X, 9, none⟩ = some b9 ∧ W.frozen? ⟨X, 9, none⟩ = false) ∧ (W.cell? ⟨X, 10, none⟩ = some b10 ∧ W.frozen? ⟨X, 10, none⟩ = false) ∧ (W.cell? ⟨X, 11, none⟩ = some b11 ∧ W.frozen? ⟨X, 11, none⟩ = false) ∧ (W.cell? ⟨X, 12, none⟩ = some b12 ∧ W.frozen? ⟨X, 12, none⟩ = false) ∧ (W.cell? ⟨X, 13, none⟩ = some b13 ∧ W.frozen? ⟨X, 13, none⟩ = false) := by
  refine ⟨⟨by simpa using (cell_of_heap h 0).1, (cell_of_heap h 0).2⟩, ⟨by simpa using (cell_of_heap h 1).1, (cell_of_heap h 1).2⟩, ⟨by simpa using (cell_of_heap h 2).1, (cell_of_heap h 2).2⟩, ⟨by simpa using (cell_of_heap h 3).1, (cell_of_heap h 3).2⟩, ⟨by simpa using (cell_of_heap h 4).1, (cell_of_heap h 4).2⟩, ⟨by simpa using (cell_of_heap h 5).1, (cell_of_heap h 5).2⟩, ⟨by simpa using (cell_of_heap h 6).1, (cell_of_heap h 6).2⟩, ⟨by simpa using (cell_of_heap h 7).1, (cell_of_heap h 7).2⟩, ⟨by simpa using (cell_of_heap h 8).1, (cell_of_heap h 8).2⟩, ⟨by simpa using (cell_of_heap h 9).1, (cell_of_heap h 9).2⟩, ⟨by simpa using (cell_of_heap h 10).1, (cell_of_heap h 10).2⟩, ⟨by simpa using (cell_of_heap h 11).1, (cell_of_heap h 11).2⟩, ⟨by simpa using (cell_of_heap h 12).1, (cell_of_heap h 12).2⟩, ⟨by simpa using (cell_of_heap h 13).1, (cell_of_heap h 13).2⟩⟩
theorem tw_heap {W : World} {X : Nat} {t : TypeId} {b0 b1 b2 b3 b4 b5 b6 b7 b8 b9 b10 b11 : Value} (h : W.heap[X]? = some (.cells #[b0, b1, b2, b3, b4, b5, b6, b7, b8, b9, b10, b11] t (0, 0))) (a0 a1 a2 a3 a4 a5 a6 a7 a8 a9 a10 a11 : Value) : ((((((((((((W.setCell ⟨X, 0, none⟩ a0).setCell ⟨X, 1, none⟩ a1).setCell ⟨X, 2, none⟩ a2).setCell ⟨X, 3, none⟩ a3).setCell ⟨X, 4, none⟩ a4).setCell ⟨X, 5, none⟩ a5).setCell ⟨X, 6, none⟩ a6).setCell ⟨X, 7, none⟩ a7).setCell ⟨X, 8, none⟩ a8).setCell ⟨X, 9, none⟩ a9).setCell ⟨X, 10, none⟩ a10).setCell ⟨X, 11, none⟩ a11).heap[X]? = some (.cells #[a0, a1, a2, a3, a4, a5, a6, a7, a8, a9, a10, a11] t (0, 0)) := by
  simpa using heap_set (heap_set (heap_set (heap_set (heap_set (heap_set (heap_set (heap_set (heap_set (heap_set (heap_set (heap_set (h) 0 a0) 1 a1) 2 a2) 3 a3) 4 a4) 5 a5) 6 a6) 7 a7) 8 a8) 9 a9) 10 a10) 11 a11
theorem tw0 {W : World} {X : Nat} {t : TypeId} {b0 b1 b2 b3 b4 b5 b6 b7 b8 b9 b10 b11 : Value} (h : W.heap[X]? = some (.cells #[b0, b1, b2, b3, b4, b5, b6, b7, b8, b9, b10, b11] t (0, 0))) (a0 a1 a2 a3 a4 a5 a6 a7 a8 a9 a10 a11 : Value) : ((((((((((((W.setCell ⟨X, 0, none⟩ a0).setCell ⟨X, 1, none⟩ a1).setCell ⟨X, 2, none⟩ a2).setCell ⟨X, 3, none⟩ a3).setCell ⟨X, 4, none⟩ a4).setCell ⟨X, 5, none⟩ a5).setCell ⟨X, 6, none⟩ a6).setCell ⟨X, 7, none⟩ a7).setCell ⟨X, 8, none⟩ a8).setCell ⟨X, 9, none⟩ a9).setCell ⟨X, 10, none⟩ a10).setCell ⟨X, 11, none⟩ a11).cell? ⟨X, 0, none⟩ = some a0 := by
  simpa using (cell_of_heap (tw_heap h a0 a1 a2 a3 a4 a5 a6 a7 a8 a9 a10 a11) 0).1
theorem tw1 {W : World} {X : Nat} {t : TypeId} {b0 b1 b2 b3 b4 b5 b6 b7 b8 b9 b10 b11 : Value} (h : W.heap[X]? = some (.cells #[b0, b1, b2, b3, b4, b5, b6, b7, b8, b9, b10, b11] t (0, 0))) (a0 a1 a2 a3 a4 a5 a6 a7 a8 a9 a10 a11 : Value) : ((((((((((((W.setCell ⟨X, 0, none⟩ a0).setCell ⟨X, 1, none⟩ a1).setCell ⟨X, 2, none⟩ a2).setCell ⟨X, 3, none⟩ a3).setCell ⟨X, 4, none⟩ a4).setCell ⟨X, 5, none⟩ a5).setCell ⟨X, 6, none⟩ a6).setCell ⟨X, 7, none⟩ a7).setCell ⟨X, 8, none⟩ a8).setCell ⟨X, 9, none⟩ a9).setCell ⟨X, 10, none⟩ a10).setCell ⟨X, 11, none⟩ a11).cell? ⟨X, 1, none⟩ = some a1 := by
  simpa using (cell_of_heap (tw_heap h a0 a1 a2 a3 a4 a5 a6 a7 a8 a9 a10 a11) 1).1
theorem tw2 {W : World} {X : Nat} {t : TypeId} {b0 b1 b2 b3 b4 b5 b6 b7 b8 b9 b10 b11 : Value} (h : W.heap[X]? = some (.cells #[b0, b1, b2, b3, b4, b5, b6, b7, b8, b9, b10, b11] t (0, 0))) (a0 a1 a2 a3 a4 a5 a6 a7 a8 a9 a10 a11 : Value) : ((((((((((((W.setCell ⟨X, 0, none⟩ a0).setCell ⟨X, 1, none⟩ a1).setCell ⟨X, 2, none⟩ a2).setCell ⟨X, 3, none⟩ a3).setCell ⟨X, 4, none⟩ a4).setCell ⟨X, 5, none⟩ a5).setCell ⟨X, 6, none⟩ a6).setCell ⟨X, 7, none⟩ a7).setCell ⟨X, 8, none⟩ a8).setCell ⟨X, 9, none⟩ a9).setCell ⟨X, 10, none⟩ a10).setCell ⟨X, 11, none⟩ a11).cell? ⟨X, 2, none⟩ = some a2 := by
  simpa using (cell_of_heap (tw_heap h a0 a1 a2 a3 a4 a5 a6 a7 a8 a9 a10 a11) 2).1
theorem tw3 {W : World} {X : Nat} {t : TypeId} {b0 b1 b2 b3 b4 b5 b6 b7 b8 b9 b10 b11 : Value} (h : W.heap[X]? = some (.cells #[b0, b1, b2, b3, b4, b5, b6, b7, b8, b9, b10, b11] t (0, 0))) (a0 a1 a2 a3 a4 a5 a6 a7 a8 a9 a10 a11 : Value) : ((((((((((((W.setCell ⟨X, 0, none⟩ a0).setCell ⟨X, 1, none⟩ a1).setCell ⟨X, 2, none⟩ a2).setCell ⟨X, 3, none⟩ a3).setCell ⟨X, 4, none⟩ a4).setCell ⟨X, 5, none⟩ a5).setCell ⟨X, 6, none⟩ a6).setCell ⟨X, 7, none⟩ a7).setCell ⟨X, 8, none⟩ a8).setCell ⟨X, 9, none⟩ a9).setCell ⟨X, 10, none⟩ a10).setCell ⟨X, 11, none⟩ a11).cell? ⟨X, 3, none⟩ = some a3 := by
  simpa using (cell_of_heap (tw_heap h a0 a1 a2 a3 a4 a5 a6 a7 a8 a9 a10 a11) 3).1
theorem tw4 {W : World} {X : Nat} {t : TypeId} {b0 b1 b2 b3 b4 b5 b6 b7 b8 b9 b10 b11 : Value} (h : W.heap[X]? = some (.cells #[b0, b1, b2, b3, b4, b5, b6, b7, b8, b9, b10, b11] t (0, 0))) (a0 a1 a2 a3 a4 a5 a6 a7 a8 a9 a10 a11 : Value) : ((((((((((((W.setCell ⟨X, 0, none⟩ a0).setCell ⟨X, 1, none⟩ a1).setCell ⟨X, 2, none⟩ a2).setCell ⟨X, 3, none⟩ a3).setCell ⟨X, 4, none⟩ a4).setCell ⟨X, 5, none⟩ a5).setCell ⟨X, 6, none⟩ a6).setCell ⟨X, 7, none⟩ a7).setCell ⟨X, 8, none⟩ a8).setCell ⟨X, 9, none⟩ a9).setCell ⟨X, 10, none⟩ a10).setCell ⟨X, 11, none⟩ a11).cell? ⟨X, 4, none⟩ = some a4 := by
  simpa using (cell_of_heap (tw_heap h a0 a1 a2 a3 a4 a5 a6 a7 a8 a9 a10 a11) 4).1
theorem tw5 {W : World} {X : Nat} {t : TypeId} {b0 b1 b2 b3 b4 b5 b6 b7 b8 b9 b10 b11 : Value} (h : W.heap[X]? = some (.cells #[b0, b1, b2, b3, b4, b5, b6, b7, b8, b9, b10, b11] t (0, 0))) (a0 a1 a2 a3 a4 a5 a6 a7 a8 a9 a10 a11 : Value) : ((((((((((((W.setCell ⟨X, 0, none⟩ a0).setCell ⟨X, 1, none⟩ a1).setCell ⟨X, 2, none⟩ a2).setCell ⟨X, 3, none⟩ a3).setCell ⟨X, 4, none⟩ a4).setCell ⟨X, 5, none⟩ a5).setCell ⟨X, 6, none⟩ a6).setCell ⟨X, 7, none⟩ a7).setCell ⟨X, 8, none⟩ a8).setCell ⟨X, 9, none⟩ a9).setCell ⟨X, 10, none⟩ a10).setCell ⟨X, 11, none⟩ a11).cell? ⟨X, 5, none⟩ = some a5 := by
  simpa using (cell_of_heap (tw_heap h a0 a1 a2 a3 a4 a5 a6 a7 a8 a9 a10 a11) 5).1
theorem tw6 {W : World} {X : Nat} {t : TypeId} {b0 b1 b2 b3 b4 b5 b6 b7 b8 b9 b10 b11 : Value} (h : W.heap[X]? = some (.cells #[b0, b1, b2, b3, b4, b5, b6, b7, b8, b9, b10, b11] t (0, 0))) (a0 a1 a2 a3 a4 a5 a6 a7 a8 a9 a10 a11 : Value) : ((((((((((((W.setCell ⟨X, 0, none⟩ a0).setCell ⟨X, 1, none⟩ a1).setCell ⟨X, 2, none⟩ a2).setCell ⟨X, 3, none⟩ a3).setCell ⟨X, 4, none⟩ a4).setCell ⟨X, 5, none⟩ a5).setCell ⟨X, 6, none⟩ a6).setCell ⟨X, 7, none⟩ a7).setCell ⟨X, 8, none⟩ a8).setCell ⟨X, 9, none⟩ a9).setCell ⟨X, 10, none⟩ a10).setCell ⟨X, 11, none⟩ a11).cell? ⟨X, 6, none⟩ = some a6 := by
  simpa using (cell_of_heap (tw_heap h a0 a1 a2 a3 a4 a5 a6 a7 a8 a9 a10 a11) 6).1
theorem tw7 {W : World} {X : Nat} {t : TypeId} {b0 b1 b2 b3 b4 b5 b6 b7 b8 b9 b10 b11 : Value} (h : W.heap[X]? = some (.cells #[b0, b1, b2, b3, b4, b5, b6, b7, b8, b9, b10, b11] t (0, 0))) (a0 a1 a2 a3 a4 a5 a6 a7 a8 a9 a10 a11 : Value) : ((((((((((((W.setCell ⟨X, 0, none⟩ a0).setCell ⟨X, 1, none⟩ a1).setCell ⟨X, 2, none⟩ a2).setCell ⟨X, 3, none⟩ a3).setCell ⟨X, 4, none⟩ a4).setCell ⟨X, 5, none⟩ a5).setCell ⟨X, 6, none⟩ a6).setCell ⟨X, 7, none⟩ a7).setCell ⟨X, 8, none⟩ a8).setCell ⟨X, 9, none⟩ a9).setCell ⟨X, 10, none⟩ a10).setCell ⟨X, 11, none⟩ a11).cell? ⟨X, 7, none⟩ = some a7 := by
  simpa using (cell_of_heap (tw_heap h a0 a1 a2 a3 a4 a5 a6 a7 a8 a9 a10 a11) 7).1
theorem tw8 {W : World} {X : Nat} {t : TypeId} {b0 b1 b2 b3 b4 b5 b6 b7 b8 b9 b10 b11 : Value} (h : W.heap[X]? = some (.cells #[b0, b1, b2, b3, b4, b5, b6, b7, b8, b9, b10, b11] t (0, 0))) (a0 a1 a2 a3 a4 a5 a6 a7 a8 a9 a10 a11 : Value) : ((((((((((((W.setCell ⟨X, 0, none⟩ a0).setCell ⟨X, 1, none⟩ a1).setCell ⟨X, 2, none⟩ a2).setCell ⟨X, 3, none⟩ a3).setCell ⟨X, 4, none⟩ a4).setCell ⟨X, 5, none⟩ a5).setCell ⟨X, 6, none⟩ a6).setCell ⟨X, 7, none⟩ a7).setCell ⟨X, 8, none⟩ a8).setCell ⟨X, 9, none⟩ a9).setCell ⟨X, 10, none⟩ a10).setCell ⟨X, 11, none⟩ a11).cell? ⟨X, 8, none⟩ = some a8 := by
  simpa using (cell_of_heap (tw_heap h a0 a1 a2 a3 a4 a5 a6 a7 a8 a9 a10 a11) 8).1
theorem tw9 {W : World} {X : Nat} {t : TypeId} {b0 b1 b2 b3 b4 b5 b6 b7 b8 b9 b10 b11 : Value} (h : W.heap[X]? = some (.cells #[b0, b1, b2, b3, b4, b5, b6, b7, b8, b9, b10, b11] t (0, 0))) (a0 a1 a2 a3 a4 a5 a6 a7 a8 a9 a10 a11 : Value) : ((((((((((((W.setCell ⟨X, 0, none⟩ a0).setCell ⟨X, 1, none⟩ a1).setCell ⟨X, 2, none⟩ a2).setCell ⟨X, 3, none⟩ a3).setCell ⟨X, 4, none⟩ a4).setCell ⟨X, 5, none⟩ a5).setCell ⟨X, 6, none⟩ a6).setCell ⟨X, 7, none⟩ a7).setCell ⟨X, 8, none⟩ a8).setCell ⟨X, 9, none⟩ a9).setCell ⟨X, 10, none⟩ a10).setCell ⟨X, 11, none⟩ a11).cell? ⟨X, 9, none⟩ = some a9 := by
  simpa using (cell_of_heap (tw_heap h a0 a1 a2 a3 a4 a5 a6 a7 a8 a9 a10 a11) 9).1
theorem tw10 {W : World} {X : Nat} {t : TypeId} {b0 b1 b2 b3 b4 b5 b6 b7 b8 b9 b10 b11 : Value} (h : W.heap[X]? = some (.cells #[b0, b1, b2, b3, b4, b5, b6, b7, b8, b9, b10, b11] t (0, 0))) (a0 a1 a2 a3 a4 a5 a6 a7 a8 a9 a10 a11 : Value) : ((((((((((((W.setCell ⟨X, 0, none⟩ a0).setCell ⟨X, 1, none⟩ a1).setCell ⟨X, 2, none⟩ a2).setCell ⟨X, 3, none⟩ a3).setCell ⟨X, 4, none⟩ a4).setCell ⟨X, 5, none⟩ a5).setCell ⟨X, 6, none⟩ a6).setCell ⟨X, 7, none⟩ a7).setCell ⟨X, 8, none⟩ a8).setCell ⟨X, 9, none⟩ a9).setCell ⟨X, 10, none⟩ a10).setCell ⟨X, 11, none⟩ a11).cell? ⟨X, 10, none⟩ = some a10 := by
  simpa using (cell_of_heap (tw_heap h a0 a1 a2 a3 a4 a5 a6 a7 a8 a9 a10 a11) 10).1
theorem tw11 {W : World} {X : Nat} {t : TypeId} {b0 b1 b2 b3 b4 b5 b6 b7 b8 b9 b10 b11 : Value} (h : W.heap[X]? = some (.cells #[b0, b1, b2, b3, b4, b5, b6, b7, b8, b9, b10, b11] t (0, 0))) (a0 a1 a2 a3 a4 a5 a6 a7 a8 a9 a10 a11 : Value) : ((((((((((((W.setCell ⟨X, 0, none⟩ a0).setCell ⟨X, 1, none⟩ a1).setCell ⟨X, 2, none⟩ a2).setCell ⟨X, 3, none⟩ a3).setCell ⟨X, 4, none⟩ a4).setCell ⟨X, 5, none⟩ a5).setCell ⟨X, 6, none⟩ a6).setCell ⟨X, 7, none⟩ a7).setCell ⟨X, 8, none⟩ a8).setCell ⟨X, 9, none⟩ a9).setCell ⟨X, 10, none⟩ a10).setCell ⟨X, 11, none⟩ a11).cell? ⟨X, 11, none⟩ = some a11 := by
  simpa using (cell_of_heap (tw_heap h a0 a1 a2 a3 a4 a5 a6 a7 a8 a9 a10 a11) 11).1
theorem tw_below {W V : World} {X n : Nat} (h : Below n V W) (hn : n ≤ X) (a0 a1 a2 a3 a4 a5 a6 a7 a8 a9 a10 a11 : Value) : Below n V ((((((((((((W.setCell ⟨X, 0, none⟩ a0).setCell ⟨X, 1, none⟩ a1).setCell ⟨X, 2, none⟩ a2).setCell ⟨X, 3, none⟩ a3).setCell ⟨X, 4, none⟩ a4).setCell ⟨X, 5, none⟩ a5).setCell ⟨X, 6, none⟩ a6).setCell ⟨X, 7, none⟩ a7).setCell ⟨X, 8, none⟩ a8).setCell ⟨X, 9, none⟩ a9).setCell ⟨X, 10, none⟩ a10).setCell ⟨X, 11, none⟩ a11) :=
  ((((((((((((h.setCell hn a0).setCell hn a1).setCell hn a2).setCell hn a3).setCell hn a4).setCell hn a5).setCell hn a6).setCell hn a7).setCell hn a8).setCell hn a9).setCell hn a10).setCell hn a11)
theorem tw_other {W : World} {X b : Nat} (hb : b ≠ X) (a0 a1 a2 a3 a4 a5 a6 a7 a8 a9 a10 a11 : Value) : ((((((((((((W.setCell ⟨X, 0, none⟩ a0).setCell ⟨X, 1, none⟩ a1).setCell ⟨X, 2, none⟩ a2).setCell ⟨X, 3, none⟩ a3).setCell ⟨X, 4, none⟩ a4).setCell ⟨X, 5, none⟩ a5).setCell ⟨X, 6, none⟩ a6).setCell ⟨X, 7, none⟩ a7).setCell ⟨X, 8, none⟩ a8).setCell ⟨X, 9, none⟩ a9).setCell ⟨X, 10, none⟩ a10).setCell ⟨X, 11, none⟩ a11).heap[b]? = W.heap[b]? := by
  refine (heap_setCell_other (((((((((((W.setCell ⟨X, 0, none⟩ a0).setCell ⟨X, 1, none⟩ a1).setCell ⟨X, 2, none⟩ a2).setCell ⟨X, 3, none⟩ a3).setCell ⟨X, 4, none⟩ a4).setCell ⟨X, 5, none⟩ a5).setCell ⟨X, 6, none⟩ a6).setCell ⟨X, 7, none⟩ a7).setCell ⟨X, 8, none⟩ a8).setCell ⟨X, 9, none⟩ a9).setCell ⟨X, 10, none⟩ a10) ⟨X, 11, none⟩ b a11 hb).trans ?_
  refine (heap_setCell_other ((((((((((W.setCell ⟨X, 0, none⟩ a0).setCell ⟨X, 1, none⟩ a1).setCell ⟨X, 2, none⟩ a2).setCell ⟨X, 3, none⟩ a3).setCell ⟨X, 4, none⟩ a4).setCell ⟨X, 5, none⟩ a5).setCell ⟨X, 6, none⟩ a6).setCell ⟨X, 7, none⟩ a7).setCell ⟨X, 8, none⟩ a8).setCell ⟨X, 9, none⟩ a9) ⟨X, 10, none⟩ b a10 hb).trans ?_
  refine (heap_setCell_other (((((((((W.setCell ⟨X, 0, none⟩ a0).setCell ⟨X, 1, none⟩ a1).setCell ⟨X, 2, none⟩ a2).setCell ⟨X, 3, none⟩ a3).setCell ⟨X, 4, none⟩ a4).setCell ⟨X, 5, none⟩ a5).setCell ⟨X, 6, none⟩ a6).setCell ⟨X, 7, none⟩ a7).setCell ⟨X, 8, none⟩ a8) ⟨X, 9, none⟩ b a9 hb).trans ?_
  refine (heap_setCell_other ((((((((W.setCell ⟨X, 0, none⟩ a0).setCell ⟨X, 1, none⟩ a1).setCell ⟨X, 2, none⟩ a2).setCell ⟨X, 3, none⟩ a3).setCell ⟨X, 4, none⟩ a4).setCell ⟨X, 5, none⟩ a5).setCell ⟨X, 6, none⟩ a6).setCell ⟨X, 7, none⟩ a7) ⟨X, 8, none⟩ b a8 hb).trans ?_
  refine (heap_setCell_other (((((((W.setCell ⟨X, 0, none⟩ a0).setCell ⟨X, 1, none⟩ a1).setCell ⟨X, 2, none⟩ a2).setCell ⟨X, 3, none⟩ a3).setCell ⟨X, 4, none⟩ a4).setCell ⟨X, 5, none⟩ a5).setCell ⟨X, 6, none⟩ a6) ⟨X, 7, none⟩ b a7 hb).trans ?_
  refine (heap_setCell_other ((((((W.setCell ⟨X, 0, none⟩ a0).setCell ⟨X, 1, none⟩ a1).setCell ⟨X, 2, none⟩ a2).setCell ⟨X, 3, none⟩ a3).setCell ⟨X, 4, none⟩ a4).setCell ⟨X, 5, none⟩ a5) ⟨X, 6, none⟩ b a6 hb).trans ?_
  refine (heap_setCell_other (((((W.setCell ⟨X, 0, none⟩ a0).setCell ⟨X, 1, none⟩ a1).setCell ⟨X, 2, none⟩ a2).setCell ⟨X, 3, none⟩ a3).setCell ⟨X, 4, none⟩ a4) ⟨X, 5, none⟩ b a5 hb).trans ?_
  refine (heap_setCell_other ((((W.setCell ⟨X, 0, none⟩ a0).setCell ⟨X, 1, none⟩ a1).setCell ⟨X, 2, none⟩ a2).setCell ⟨X, 3, none⟩ a3) ⟨X, 4, none⟩ b a4 hb).trans ?_
  refine (heap_setCell_other (((W.setCell ⟨X, 0, none⟩ a0).setCell ⟨X, 1, none⟩ a1).setCell ⟨X, 2, none⟩ a2) ⟨X, 3, none⟩ b a3 hb).trans ?_
  refine (heap_setCell_other ((W.setCell ⟨X, 0, none⟩ a0).setCell ⟨X, 1, none⟩ a1) ⟨X, 2, none⟩ b a2 hb).trans ?_
  refine (heap_setCell_other (W.setCell ⟨X, 0, none⟩ a0) ⟨X, 1, none⟩ b a1 hb).trans ?_
  refine (heap_setCell_other W ⟨X, 0, none⟩ b a0 hb).trans ?_
  rfl

theorem info22 : (Tryz.prog.info? 22).map (fun i => (i.zero, i.size, i.bytes)) = some (some (.slice none 0 0), 1, 24) := by kernel_rfl
theorem heap_alloc_newS (W : World) (a : Addr) (u : Value) (o : Obj) : ((W.setCell a u).alloc o).heap[W.heap.size]? = some o := by
  have := heap_alloc_new (W.setCell a u) o; rwa [World.size_setCell] at this
theorem owns_slice {w : World} {base n : Nat} {e : TypeId} {size : Nat} {v : Value} {xs : List Value} (h : w.ownsRow base e size v n xs) : ∃ a m c, v = .slice a m c := by
  rcases h.2 with ⟨rfl, _⟩ | ⟨g, cap, cur, rfl, _⟩
  · exact ⟨_, _, _, rfl⟩
  · exact ⟨_, _, _, rfl⟩
theorem paths_at {P : Nat → Prop} {W : World} {a : Option Addr} {n c : Nat} {xs : List (List Int)} (h : PathsP P W (.slice a n c) xs) {j : Nat} (hj : j < xs.length) : ∃ b off v, a = some ⟨b, off, none⟩ ∧ P b ∧ W.cell? ⟨b, off + j, none⟩ = some v ∧ IntsP P W v (gp xs j) := by
  obtain ⟨pv, ⟨a', cap, e, _, _, h3⟩, h4⟩ := h
  simp only [Value.slice.injEq] at e
  obtain ⟨rfl, _, _⟩ := e
  obtain ⟨b, off, e1, hp, hc⟩ := h3 j hj
  exact ⟨b, off, pv j, e1, hp, by simpa using hc 0 (by decide), h4 j hj⟩
/-- what lies below n stays, but for block X -/
structure BelowX (n X : Nat) (a b : World) : Prop where
  os : b.os = a.os
  tape : b.tape = a.tape
  output : b.output = a.output
  size : a.heap.size ≤ b.heap.size
  block : ∀ k, k < n → k ≠ X → b.heap[k]? = a.heap[k]?
theorem BelowX.refl (n X : Nat) (a : World) : BelowX n X a a := ⟨rfl, rfl, rfl, Nat.le_refl _, fun _ _ _ => rfl⟩
theorem BelowX.trans {n X : Nat} {a b c : World} (h : BelowX n X a b) (k : BelowX n X b c) : BelowX n X a c :=
  ⟨k.os.trans h.os, k.tape.trans h.tape, k.output.trans h.output, Nat.le_trans h.size k.size, fun i hi hx => (k.block i hi hx).trans (h.block i hi hx)⟩
theorem BelowX.of {n m X : Nat} {a b : World} (h : Below m a b) (hn : n ≤ m) : BelowX n X a b := ⟨h.os, h.tape, h.output, h.size, fun k hk _ => h.block k (by omega)⟩
theorem BelowX.setCell {n X : Nat} {a b : World} (h : BelowX n X a b) (o : Nat) (u : Value) : BelowX n X a (b.setCell ⟨X, o, none⟩ u) :=
  ⟨h.os, h.tape, h.output, by rw [World.size_setCell]; exact h.size, fun k hk hx => (heap_setCell_other b ⟨X, o, none⟩ k u (fun e => hx e)).trans (h.block k hk hx)⟩
theorem BelowX.then {n X : Nat} {a b c : World} (h : BelowX n X a b) (hn : n ≤ a.heap.size) (k : Below b.heap.size b c) : BelowX n X a c :=
  h.trans (BelowX.of k (Nat.le_trans hn h.size))
theorem BelowX.drew {n X : Nat} {a b : World} (h : BelowX n X a b) : BelowX n X a b.drew := ⟨h.os, h.tape, h.output, h.size, h.block⟩
theorem BelowX.grown {n X : Nat} {a b c : World} {r : Option Nat} (h : BelowX n X a b) (hn : n ≤ a.heap.size) (k : b.grownBy c r) (hr : ∀ j, r = some j → n ≤ j) : BelowX n X a c :=
  ⟨k.os.trans h.os, k.tape.trans h.tape, k.output.trans h.output, Nat.le_trans h.size k.size, fun i hi hx => (k.block i (Nat.lt_of_lt_of_le hi (Nat.le_trans hn h.size)) (fun e => by have := hr i e.symm; omega)).trans (h.block i hi hx)⟩
theorem BelowX.mono {n X m : Nat} {a b : World} (h : BelowX n X a b) (hm : m ≤ n) : BelowX m X a b := ⟨h.os, h.tape, h.output, h.size, fun k hk hx => h.block k (by omega) hx⟩
theorem BelowX.low {n X m : Nat} {a b : World} (h : BelowX n X a b) (hm : m ≤ n) (hx : m ≤ X) : Below m a b := ⟨h.os, h.tape, h.output, h.size, fun k hk => h.block k (by omega) (by omega)⟩
theorem keepsX {W W' : World} {X : Nat} (h : BelowX W.heap.size X W W') : ∀ b, b ≠ X → b < W.heap.size → b ≠ X ∧ W'.heap[b]? = W.heap[b]? := fun b hx hb => ⟨hx, h.block b hb hx⟩
theorem keepsG {W W' : World} {X : Nat} (h : BelowX W.heap.size X W W') : ∀ b, X < b → b < W.heap.size → X < b ∧ W'.heap[b]? = W.heap[b]? := fun b hx hb => ⟨hx, h.block b hb (by omega)⟩
structure FitsAll (S : Sn) : Prop where
  d : S.depths.length * 8 ≤ 140737488351232
  p : S.paths.length * 24 ≤ 140737488351232
  u : S.used.length * 8 ≤ 140737488351232
  m : S.most.length * 8 ≤ 140737488351232
  o : S.owned.length * 8 ≤ 140737488351232
  h : S.held.length * 8 ≤ 140737488351232
  f : S.flies.length * 8 ≤ 140737488351232
  t : S.tags.length * 8 ≤ 140737488351232
  c : S.caches.length * 128 ≤ 140737488351232
  hs : S.handles.length * 40 ≤ 140737488351232
  ds : S.dids.length * 64 ≤ 140737488351232
  pp : ∀ g, g < S.paths.length → (gp S.paths g).length * 8 ≤ 140737488351232
  cp : ∀ g, g < S.caches.length → (gc S.caches g).pages.length * 8 ≤ 140737488351232
  dp : ∀ g, g < S.dids.length → (gd S.dids g).hs.length * 8 ≤ 140737488351232
set_option maxRecDepth 100000 in
set_option maxHeartbeats 16000000 in
theorem copySnap_c {P : Nat → Prop} (v1 v2 v3 v4 v5 v6 v7 v8 v9 v10 v11 : Value) (S : Sn) (w : World) (hS : SnP P w v1 v2 v3 v4 v5 v6 v7 v8 v9 v10 v11 S) (hF : FitsAll S) :
    Calls Tryz.prog 8 #[.agg #[.int .i64 S.now, v1, v2, v3, v4, v5, v6, v7, v8, v9, v10, v11]] w fun e w' => (∃ u1 u2 u3 u4 u5 u6 u7 u8 u9 u10 u11, e = .returned (.agg #[.int .i64 S.now, u1, u2, u3, u4, u5, u6, u7, u8, u9, u10, u11]) ∧ SnP (fun b => w.heap.size ≤ b) w' u1 u2 u3 u4 u5 u6 u7 u8 u9 u10 u11 S) ∧ Below w.heap.size w w' := by
  obtain ⟨a1, c1, e1, l1, k1⟩ := hS.d.form
  obtain ⟨a2, c2, e2, l2, k2⟩ := hS.p.form
  obtain ⟨a3, c3, e3, l3, k3⟩ := hS.u.form
  obtain ⟨a4, c4, e4, l4, k4⟩ := hS.m.form
  obtain ⟨a5, c5, e5, l5, k5⟩ := hS.o.form
  obtain ⟨a6, c6, e6, l6, k6⟩ := hS.h.form
  obtain ⟨a7, c7, e7, l7, k7⟩ := hS.f.form
  obtain ⟨a8, c8, e8, l8, k8⟩ := hS.t.form
  obtain ⟨a9, c9, e9, l9, k9⟩ := hS.c.form
  obtain ⟨a10, c10, e10, l10, k10⟩ := hS.hs.form
  obtain ⟨a11, c11, e11, l11, k11⟩ := hS.ds.form
  subst e1 e2 e3 e4 e5 e6 e7 e8 e9 e10 e11
  unfold maxLen at k1 k2 k3 k4 k5 k6 k7 k8 k9 k10 k11
  obtain ⟨n1, h1⟩ : ∃ n, n = S.depths.length := ⟨_, rfl⟩
  obtain ⟨n2, h2⟩ : ∃ n, n = S.paths.length := ⟨_, rfl⟩
  obtain ⟨n3, h3⟩ : ∃ n, n = S.used.length := ⟨_, rfl⟩
  obtain ⟨n4, h4⟩ : ∃ n, n = S.most.length := ⟨_, rfl⟩
  obtain ⟨n5, h5⟩ : ∃ n, n = S.owned.length := ⟨_, rfl⟩
  obtain ⟨n6, h6⟩ : ∃ n, n = S.held.length := ⟨_, rfl⟩
  obtain ⟨n7, h7⟩ : ∃ n, n = S.flies.length := ⟨_, rfl⟩
  obtain ⟨n8, h8⟩ : ∃ n, n = S.tags.length := ⟨_, rfl⟩
  obtain ⟨n9, h9⟩ : ∃ n, n = S.caches.length := ⟨_, rfl⟩
  obtain ⟨n10, h10⟩ : ∃ n, n = S.handles.length := ⟨_, rfl⟩
  obtain ⟨n11, h11⟩ : ∃ n, n = S.dids.length := ⟨_, rfl⟩
  rw [← h1, ← h2, ← h3, ← h4, ← h5, ← h6, ← h7, ← h8, ← h9, ← h10, ← h11] at hS
  rw [← h1] at l1 ⊢
  have H1 := Lib.hid h1
  rw [← h2] at l2 ⊢
  have H2 := Lib.hid h2
  rw [← h3] at l3 ⊢
  have H3 := Lib.hid h3
  rw [← h4] at l4 ⊢
  have H4 := Lib.hid h4
  rw [← h5] at l5 ⊢
  have H5 := Lib.hid h5
  rw [← h6] at l6 ⊢
  have H6 := Lib.hid h6
  rw [← h7] at l7 ⊢
  have H7 := Lib.hid h7
  rw [← h8] at l8 ⊢
  have H8 := Lib.hid h8
  rw [← h9] at l9 ⊢
  have H9 := Lib.hid h9
  rw [← h10] at l10 ⊢
  have H10 := Lib.hid h10
  rw [← h11] at l11 ⊢
  have H11 := Lib.hid h11
  clear h1 h2 h3 h4 h5 h6 h7 h8 h9 h10 h11
  obtain ⟨w3, hw3⟩ : ∃ w3, w3 = ((w.alloc (.cells #[.int .i64 S.now, .slice a1 n1 c1, .slice a2 n2 c2, .slice a3 n3 c3, .slice a4 n4 c4, .slice a5 n5 c5, .slice a6 n6 c6, .slice a7 n7 c7, .slice a8 n8 c8, .slice a9 n9 c9, .slice a10 n10 c10, .slice a11 n11 c11] 28)).alloc (.cells #[.int .i64 0, .slice none 0 0, .slice none 0 0, .slice none 0 0, .slice none 0 0, .slice none 0 0, .slice none 0 0, .slice none 0 0, .slice none 0 0, .slice none 0 0, .slice none 0 0, .slice none 0 0] 28)).alloc (.cells #[.int .i64 S.now, .slice a1 n1 c1, .slice a2 n2 c2, .slice a3 n3 c3, .slice a4 n4 c4, .slice a5 n5 c5, .slice a6 n6 c6, .slice a7 n7 c7, .slice a8 n8 c8, .slice a9 n9 c9, .slice a10 n10 c10, .slice a11 n11 c11] 28) := ⟨_, rfl⟩
  have hb3 : Below w.heap.size w w3 := by rw [hw3]; exact ((below_alloc w _).alloc (by simp) _).alloc (by simp; omega) _
  have hs3 : w3.heap.size = w.heap.size + 1 + 1 + 1 := by rw [hw3]; simp
  have tB : w3.heap[w.heap.size]? = some (.cells #[.int .i64 S.now, .slice a1 n1 c1, .slice a2 n2 c2, .slice a3 n3 c3, .slice a4 n4 c4, .slice a5 n5 c5, .slice a6 n6 c6, .slice a7 n7 c7, .slice a8 n8 c8, .slice a9 n9 c9, .slice a10 n10 c10, .slice a11 n11 c11] 28 (0, 0)) := by rw [hw3]; exact heap_alloc_past _ _ (heap_alloc_past _ _ (World.alloc_heap_new w _))
  have tR : w3.heap[w.heap.size + 1]? = some (.cells #[.int .i64 0, .slice none 0 0, .slice none 0 0, .slice none 0 0, .slice none 0 0, .slice none 0 0, .slice none 0 0, .slice none 0 0, .slice none 0 0, .slice none 0 0, .slice none 0 0, .slice none 0 0] 28 (0, 0)) := by rw [hw3]; exact heap_alloc_past _ _ (heap_alloc_new2 w _ _)
  have tX : w3.heap[w.heap.size + 1 + 1]? = some (.cells #[.int .i64 S.now, .slice a1 n1 c1, .slice a2 n2 c2, .slice a3 n3 c3, .slice a4 n4 c4, .slice a5 n5 c5, .slice a6 n6 c6, .slice a7 n7 c7, .slice a8 n8 c8, .slice a9 n9 c9, .slice a10 n10 c10, .slice a11 n11 c11] 28 (0, 0)) := by
    rw [hw3]; have := World.alloc_heap_new ((w.alloc (.cells #[.int .i64 S.now, .slice a1 n1 c1, .slice a2 n2 c2, .slice a3 n3 c3, .slice a4 n4 c4, .slice a5 n5 c5, .slice a6 n6 c6, .slice a7 n7 c7, .slice a8 n8 c8, .slice a9 n9 c9, .slice a10 n10 c10, .slice a11 n11 c11] 28)).alloc (.cells #[.int .i64 0, .slice none 0 0, .slice none 0 0, .slice none 0 0, .slice none 0 0, .slice none 0 0, .slice none 0 0, .slice none 0 0, .slice none 0 0, .slice none 0 0, .slice none 0 0, .slice none 0 0] 28)) (.cells #[.int .i64 S.now, .slice a1 n1 c1, .slice a2 n2 c2, .slice a3 n3 c3, .slice a4 n4 c4, .slice a5 n5 c5, .slice a6 n6 c6, .slice a7 n7 c7, .slice a8 n8 c8, .slice a9 n9 c9, .slice a10 n10 c10, .slice a11 n11 c11] 28); simpa using this
  have HS3 : Hid (SnP (fun b => b ≠ w.heap.size + 1 + 1) w3 (.slice a1 n1 c1) (.slice a2 n2 c2) (.slice a3 n3 c3) (.slice a4 n4 c4) (.slice a5 n5 c5) (.slice a6 n6 c6) (.slice a7 n7 c7) (.slice a8 n8 c8) (.slice a9 n9 c9) (.slice a10 n10 c10) (.slice a11 n11 c11) S) := hS.keep (fun b _ hb => ⟨by omega, hb3.block b hb⟩)
  have HF := Lib.hid hF
  have HB3 := Lib.hid hb3
  have TB := Lib.hid tB
  have TR := Lib.hid tR
  have TX := Lib.hid tX
  clear hb3 tR tX hS hF
  obtain ⟨⟨y0, _⟩, ⟨y1, _⟩, ⟨y2, _⟩, ⟨y3, _⟩, ⟨y4, _⟩, ⟨y5, _⟩, ⟨y6, _⟩, ⟨y7, _⟩, ⟨y8, _⟩, ⟨y9, _⟩, ⟨y10, _⟩, y11, _⟩ := cells12 tB
  clear tB
  go_enter Tryz.func8, Tryz.ntmps8
  go_wp2_with fail
  rw [← hw3]
  clear hw3 y0 y1 y2 y3 y4 y5 y6 y7 y8 y9 y10 y11
  refine (copy_c _ _ w3 HS3.out.d HF.out.d).mono ?_
  rintro e w4 ⟨u1, rfl, hrow, hb⟩
  have hx1 : BelowX w3.heap.size (w.heap.size + 1 + 1) w3 w4 := BelowX.of hb (Nat.le_refl _)
  have hrl := hrow.lt
  obtain ⟨_, hu1⟩ := ints_of_row (P := fun b => w.heap.size + 1 + 1 < b) hrow (fun g e => by have := hrl g e; omega)
  obtain ⟨ua1, uc1, rfl, _, _⟩ := hu1.form
  have hs4 := hb.size
  have TX4 := (hb.block (w.heap.size + 1 + 1) (by omega)).trans TX.out
  have HU1 := Lib.hid hu1
  have HX1 := Lib.hid hx1
  clear hrow hb hu1 hx1 hrl
  obtain ⟨⟨y0, g0⟩, ⟨y1, g1⟩, ⟨y2, g2⟩, ⟨y3, g3⟩, ⟨y4, g4⟩, ⟨y5, g5⟩, ⟨y6, g6⟩, ⟨y7, g7⟩, ⟨y8, g8⟩, ⟨y9, g9⟩, ⟨y10, g10⟩, y11, g11⟩ := cells12 TX4
  have hU : Hid (w4.heap.size = w4.heap.size) := rfl
  go_wp2
  clear y0 g0 y1 g1 y2 g2 y3 g3 y4 g4 y5 g5 y6 g6 y7 g7 y8 g8 y9 g9 y10 g10 y11 g11
  obtain ⟨wa, hwa⟩ : ∃ wa, wa = (w4.setCell ⟨w.heap.size + 1 + 1, 1, none⟩ (.slice ua1 S.depths.length uc1)).setCell ⟨w.heap.size + 1 + 1, 2, none⟩ (.slice none 0 0) := ⟨_, rfl⟩
  have txa : wa.heap[w.heap.size + 1 + 1]? = some (.cells #[.int .i64 S.now, (.slice ua1 S.depths.length uc1), .slice none 0 0, .slice a3 n3 c3, .slice a4 n4 c4, .slice a5 n5 c5, .slice a6 n6 c6, .slice a7 n7 c7, .slice a8 n8 c8, .slice a9 n9 c9, .slice a10 n10 c10, .slice a11 n11 c11] 28 (0, 0)) := by rw [hwa]; simpa using heap_set (heap_set TX4 1 (.slice ua1 S.depths.length uc1)) 2 (.slice none 0 0)
  have h4a : BelowX w4.heap.size (w.heap.size + 1 + 1) w4 wa := by rw [hwa]; exact ((BelowX.refl _ _ _).setCell 1 _).setCell 2 _
  have h3a : BelowX w3.heap.size (w.heap.size + 1 + 1) w3 wa := by rw [hwa]; exact (HX1.out.setCell 1 _).setCell 2 _
  have hsa : wa.heap.size = w4.heap.size := by rw [hwa, World.size_setCell, World.size_setCell]
  have TXa := Lib.hid txa
  have HAX := Lib.hid h3a
  have D1a := Lib.hid (HU1.out.keep (keepsG h4a))
  have HSa := Lib.hid (HS3.out.keep (keepsX h3a))
  have TBa := Lib.hid ((h3a.block (w.heap.size) (by omega) (by omega)).trans TB.out)
  have TRa := Lib.hid ((h3a.block (w.heap.size + 1) (by omega) (by omega)).trans TR.out)
  rw [← hwa]
  clear hwa h4a h3a txa TX4 hU HU1 HX1
  obtain ⟨i22, j0, j1, j2, j3⟩ := info_parts info22
  go_loopw [4] (fun i wr => ∃ (k : Nat) (v : Value) (pv : Nat → Value), k ≤ n2 ∧ i = .int .i64 k ∧ wr.heap[w.heap.size + 1 + 1]? = some (.cells #[.int .i64 S.now, (.slice ua1 S.depths.length uc1), v, .slice a3 n3 c3, .slice a4 n4 c4, .slice a5 n5 c5, .slice a6 n6 c6, .slice a7 n7 c7, .slice a8 n8 c8, .slice a9 n9 c9, .slice a10 n10 c10, .slice a11 n11 c11] 28 (0, 0)) ∧ Nest wa.heap.size wr 22 1 v k pv pathC (gp S.paths) ∧ BelowX wa.heap.size (w.heap.size + 1 + 1) wa wr) (fun i _ => n2 - (intOf i).toNat)
  case atStart => exact ⟨0, _, fun _ => .slice none 0 0, Nat.zero_le _, rfl, TXa.out, Nest.nil, BelowX.refl _ _ _⟩
  case round =>
    obtain ⟨k, v, pv, hk, rfl, hx, hn, hB⟩ := hrel
    have hsB := hB.size
    have HN := Lib.hid hn
    have HBX := Lib.hid hB
    have HX := Lib.hid hx
    have tBr := (hB.block (w.heap.size) (by omega) (by omega)).trans TBa.out
    have TBr := Lib.hid tBr
    have yB2 : wr.cell? ⟨w.heap.size, 2, none⟩ = some (.slice a2 n2 c2) := (cell_of_heap tBr 2).1
    clear hn hB hx tBr
    by_cases hlt : k < n2
    · have HLT := Lib.hid hlt
      obtain ⟨b, off, vs, rfl, hbx, xa, hv⟩ := paths_at HSa.out.p (by rw [← H2.out]; exact hlt)
      obtain ⟨pa, pc, rfl, _, _⟩ := hv.form
      have hbl := World.block_lt_of_cell? wa _ xa
      have hKB : ∀ w', BelowX wa.heap.size (w.heap.size + 1 + 1) wa w' → w'.heap[w.heap.size + 1 + 1]? = some (.cells #[.int .i64 S.now, (.slice ua1 S.depths.length uc1), v, .slice a3 n3 c3, .slice a4 n4 c4, .slice a5 n5 c5, .slice a6 n6 c6, .slice a7 n7 c7, .slice a8 n8 c8, .slice a9 n9 c9, .slice a10 n10 c10, .slice a11 n11 c11] 28 (0, 0)) → (w'.cell? ⟨w.heap.size + 1 + 1, 2, none⟩ = some v ∧ w'.cell? ⟨w.heap.size, 2, none⟩ = some (.slice (some ⟨b, off, none⟩) n2 c2) ∧ w'.cell? ⟨b, off + k, none⟩ = some (.slice pa (gp S.paths k).length pc)) :=
        fun w' hb hx => ⟨(cell_of_heap hx 2).1, (cell_of_block (hb.block (w.heap.size) (by omega) (by omega)) 2).trans (cell_of_heap TBa.out 2).1, (cell_of_block (hb.block b hbl hbx) _).trans xa⟩
      have hk0 := hKB wr HBX.out HX.out
      have kX := hk0.1
      have kb := hk0.2.2
      have KB := Lib.hid hKB
      have HVd : Hid (IntsP (fun b => b ≠ w.heap.size + 1 + 1) wr.drew (.slice pa (gp S.paths k).length pc) (gp S.paths k)) := (hv.keep (keepsX HBX.out)).below (below_drewN wr 1)
      have HPF : Hid ((gp S.paths k).length * 8 ≤ 140737488351232) := HF.out.pp k (by rw [← H2.out]; exact hlt)
      have hpn : (n2 : Nat) * 24 ≤ 140737488351232 := by have := HF.out.p; rwa [← H2.out] at this
      have hi1 : (k : Int) < (n2 : Int) := by omega
      have hi0 : (0 : Int) ≤ (k : Int) := by omega
      have hp22 : (Value.slice pa (gp S.paths k).length pc).oneCell' = true := rfl
      clear hk0 hKB hv xa hbl
      go_wp2_with fail
      go_region_law (first
          | (go_simp; go_at_call 21; refine (copy_c _ _ _ HVd.out HPF.out).mono ?_; rintro e w5 ⟨vp, rfl, hrow5, hb5'⟩; obtain ⟨va, vn, vc, rfl⟩ := owns_slice hrow5; have hb5 : Below wr.heap.size wr w5 := below_then (below_drewN wr 1) (below_low hb5' (Nat.le_refl _)); have hs5 := hb5.size; have hN5 := HN.out.below hb5; have hB5 := HBX.out.then (Nat.le_refl _) hb5; have hx5 := (hb5.block (w.heap.size + 1 + 1) (by omega)).trans HX.out; have k5 := KB.out w5 hB5 hx5; have k5a := fun o => KB.out (w5.alloc o) (hB5.then (Nat.le_refl _) (below_alloc w5 o)) (heap_alloc_past w5 o hx5))
          | (refine step_append_lies _ (by rfl) _ _ 23 (by rfl) wa.heap.size 22 i22 (.slice none 0 0) 1 24 Tryz.underlying23 j0 j1 j2 j3 rfl (by decide) v k ((List.range k).flatMap fun j => pathC j (pv j)) (by rfl) (hN5.alloc _).row ⟨w5.heap.size, 0, none⟩ 1 1 [.slice va vn vc] (by rfl) (by rfl) (World.news_of_block (cs := #[.slice va vn vc]) (t := 22) (fr := (0, 0)) (heap_alloc_new w5 _)) (by simp [Value.oneCell']) (by omega) (by unfold maxLen; omega) (by omega) (by rw [World.size_alloc]; omega) (w5.heap.size + 1) (by simp) ?_; intro g cap w6 hown hgrow hat hlt2; have hx6 := (hgrow.block (w.heap.size + 1 + 1) (by rw [World.size_alloc]; omega) (fun e => by have := (hN5.row.lt _ e.symm).1; omega)).trans (heap_alloc_past w5 _ hx5); have hB6 := (hB5.then (Nat.le_refl _) (below_alloc w5 _)).grown (Nat.le_refl _) hgrow (fun j e => (hN5.row.lt j e).1); have k6 := KB.out w6 hB6 hx6; have kc := k6.1; have kf := (cell_of_heap hx6 2).2))
      all_goals
        go_wp2
        go_roundw
        case rel => exact ⟨k + 1, .slice (some ⟨g, 0, none⟩) (k + 1) cap, _, HLT.out, by go_num, by simpa using heap_set hx6 2 (.slice (some ⟨g, 0, none⟩) (k + 1) cap), ((hN5.alloc _).push (by decide) ((owns_mono hrow5 hsB).alloc _) hgrow hown).setCell (by omega) 2 _, hB6.setCell 2 _⟩
        case measure => simp [intOf]; have := HLT.out; omega
    · obtain rfl : n2 = k := by omega
      have hp2 : PathsP (fun b => w.heap.size + 1 + 1 < b) wr v S.paths := by
        have hn := HN.out; rw [H2.out] at hn; exact hn.paths (fun g hg => by omega)
      obtain ⟨ua2, uc2, rfl, _, _⟩ := hp2.form
      have D1 := Lib.hid (D1a.out.keep (keepsG HBX.out))
      have D2 := Lib.hid hp2
      have HSr := Lib.hid (HSa.out.keep (keepsX HBX.out))
      have HAX2 := Lib.hid (HAX.out.trans (HBX.out.mono (by omega)))
      have HX2 := Lib.hid HX.out
      have TRr := Lib.hid ((HBX.out.block (w.heap.size + 1) (by omega) (by omega)).trans TRa.out)
      have hwr : w.heap.size + 1 + 1 + 1 ≤ wr.heap.size := by omega
      clear hp2 D1a HSa HAX HBX HX HN TXa TBa
      have hsz : w.heap.size + 1 + 1 + 1 ≤ wr.heap.size := by omega
      clear hwr
      have y3 := (cell_of_heap TBr.out 3).1
      have y4 := (cell_of_heap TBr.out 4).1
      simp at y3 y4
      have KB : Hid (∀ w', Below wr.heap.size wr w' → (w'.cell? ⟨w.heap.size, 3, none⟩ = some (.slice a3 n3 c3) ∧ w'.cell? ⟨w.heap.size, 4, none⟩ = some (.slice a4 n4 c4))) :=
        fun w' hb => ⟨(cell_of_block (hb.block _ (Nat.lt_of_lt_of_le (by omega) hsz)) 3).trans (cell_of_heap TBr.out 3).1, (cell_of_block (hb.block _ (Nat.lt_of_lt_of_le (by omega) hsz)) 4).trans (cell_of_heap TBr.out 4).1⟩
      have KS : Hid (∀ (w' : World) (o : Nat) (u : Value), (w'.cell? ⟨w.heap.size, 3, none⟩ = some (.slice a3 n3 c3) ∧ w'.cell? ⟨w.heap.size, 4, none⟩ = some (.slice a4 n4 c4)) → ((w'.setCell ⟨w.heap.size + 1 + 1, o, none⟩ u).cell? ⟨w.heap.size, 3, none⟩ = some (.slice a3 n3 c3) ∧ (w'.setCell ⟨w.heap.size + 1 + 1, o, none⟩ u).cell? ⟨w.heap.size, 4, none⟩ = some (.slice a4 n4 c4))) :=
        fun w' o u h => ⟨(cell_of_block (heap_setCell_other w' ⟨w.heap.size + 1 + 1, o, none⟩ (w.heap.size) u (by simp; omega)) 3).trans h.1, (cell_of_block (heap_setCell_other w' ⟨w.heap.size + 1 + 1, o, none⟩ (w.heap.size) u (by simp; omega)) 4).trans h.2⟩
      have HC : Hid (Calls Tryz.prog 21 #[.slice a3 n3 c3] wr.drew fun e w' => ∃ v, e = .returned v ∧ w'.ownsRow wr.drew.heap.size 3 1 v S.used.length (S.used.map (Value.int .i64)) ∧ Below wr.drew.heap.size wr.drew w') := copy_c _ _ _ (HSr.out.u.below (below_drewN wr 1)) HF.out.u
      go_wp2_with fail
      go_region_held3 (fun w' => w'.cell? ⟨w.heap.size, 3, none⟩ = some (.slice a3 n3 c3) ∧ w'.cell? ⟨w.heap.size, 4, none⟩ = some (.slice a4 n4 c4))
        (first | exact kwb0 | exact kwb1 | exact KS.out _ _ _ (kwb1) | exact KS.out _ _ _ (KS.out _ _ _ (kwb1)) | go_keep)
        (first
          | (go_at_call 21; refine HC.out.mono ?_; rintro e wb0 ⟨u3, rfl, hrow3, hbwb0'⟩; obtain ⟨va3, vn3, vc3, rfl⟩ := owns_slice hrow3; have hbwb0 : Below wr.heap.size wr wb0 := below_then (below_drewN wr 1) (below_low hbwb0' (Nat.le_refl _)); have hswb0 := hbwb0.size; have kwb0 := KB.out wb0 hbwb0)
          | (go_at_call 21; refine (copy_c _ _ wb0 (HSr.out.m.below hbwb0) HF.out.m).mono ?_; rintro e wb1 ⟨u4, rfl, hrow4, hbwb1'⟩; obtain ⟨va4, vn4, vc4, rfl⟩ := owns_slice hrow4; have hbwb1 := below_on hbwb0 (Nat.le_refl _) hbwb1'; have hswb1 := hbwb1'.size; have kwb1 := KB.out wb1 hbwb1; have hx := (hbwb1.block (w.heap.size + 1 + 1) (Nat.lt_of_lt_of_le (by omega) hsz)).trans HX2.out; have cc3 := cell_of_heap hx 3; have d3 := cc3.1; have f3 := cc3.2; have cc4 := cell_of_heap hx 4; have d4 := cc4.1; have f4 := cc4.2; simp at d3 d4))
      obtain ⟨wb, hwb⟩ : ∃ wb, wb = ((wb1.setCell ⟨w.heap.size + 1 + 1, 3, none⟩ (.slice va3 vn3 vc3)).setCell ⟨w.heap.size + 1 + 1, 4, none⟩ (.slice va4 vn4 vc4)) := ⟨_, rfl⟩
      have HX2 : Hid (wb.heap[w.heap.size + 1 + 1]? = some (.cells #[.int .i64 S.now, (.slice ua1 S.depths.length uc1), .slice ua2 S.paths.length uc2, .slice va3 vn3 vc3, .slice va4 vn4 vc4, .slice a5 n5 c5, .slice a6 n6 c6, .slice a7 n7 c7, .slice a8 n8 c8, .slice a9 n9 c9, .slice a10 n10 c10, .slice a11 n11 c11] 28 (0, 0))) := by unfold Hid; rw [hwb]; simpa using heap_set (heap_set (hx) 3 (.slice va3 vn3 vc3)) 4 (.slice va4 vn4 vc4)
      have hT : BelowX wr.heap.size (w.heap.size + 1 + 1) wr wb := by rw [hwb]; exact ((BelowX.of hbwb1 (Nat.le_refl _)).setCell 3 _).setCell 4 _
      have hN3 : BelowX wb0.heap.size (w.heap.size + 1 + 1) wb0 wb := by rw [hwb]; exact ((BelowX.of (hbwb1') (Nat.le_refl _)).setCell 3 _).setCell 4 _
      have D3 := Lib.hid ((ints_of_row (P := fun b => w.heap.size + 1 + 1 < b) hrow3 (fun g e => by have h1 := (hrow3.lt g e).1; have h2 : wr.heap.size ≤ g := h1; omega)).2.keep (keepsG hN3))
      have hN4 : BelowX wb1.heap.size (w.heap.size + 1 + 1) wb1 wb := by rw [hwb]; exact ((BelowX.refl _ _ _).setCell 3 _).setCell 4 _
      have D4 := Lib.hid ((ints_of_row (P := fun b => w.heap.size + 1 + 1 < b) hrow4 (fun g e => by have h1 := (hrow4.lt g e).1; have h2 : wr.heap.size ≤ g := Nat.le_trans hbwb0.size h1; omega)).2.keep (keepsG hN4))
      have D1 := Lib.hid (D1.out.keep (keepsG hT))
      have D2 := Lib.hid (D2.out.keep (keepsG hT))
      have HSr := Lib.hid (HSr.out.keep (keepsX hT))
      have HAX2 := Lib.hid (HAX2.out.trans ((hT).mono (Nat.le_trans (by omega : w3.heap.size ≤ w.heap.size + 1 + 1 + 1) hsz)))
      have TBr := Lib.hid (((hT).block (w.heap.size) (Nat.lt_of_lt_of_le (by omega) hsz) (by omega)).trans TBr.out)
      have TRr := Lib.hid (((hT).block (w.heap.size + 1) (Nat.lt_of_lt_of_le (by omega) hsz) (by omega)).trans TRr.out)
      have hsz := Nat.le_trans hsz hT.size
      rw [← hwb]
      clear hwb hT hx y3 hrow3 hN3 y4 hrow4 hN4 d3 f3 cc3 d4 f4 cc4 hbwb0 hbwb0' hswb0 kwb0 hbwb1 hbwb1' hswb1 kwb1 HC KB KS
      have y5 := (cell_of_heap TBr.out 5).1
      have y6 := (cell_of_heap TBr.out 6).1
      have y7 := (cell_of_heap TBr.out 7).1
      simp at y5 y6 y7
      have KB : Hid (∀ w', Below wb.heap.size wb w' → (w'.cell? ⟨w.heap.size, 5, none⟩ = some (.slice a5 n5 c5) ∧ w'.cell? ⟨w.heap.size, 6, none⟩ = some (.slice a6 n6 c6) ∧ w'.cell? ⟨w.heap.size, 7, none⟩ = some (.slice a7 n7 c7))) :=
        fun w' hb => ⟨(cell_of_block (hb.block _ (Nat.lt_of_lt_of_le (by omega) hsz)) 5).trans (cell_of_heap TBr.out 5).1, (cell_of_block (hb.block _ (Nat.lt_of_lt_of_le (by omega) hsz)) 6).trans (cell_of_heap TBr.out 6).1, (cell_of_block (hb.block _ (Nat.lt_of_lt_of_le (by omega) hsz)) 7).trans (cell_of_heap TBr.out 7).1⟩
      have KS : Hid (∀ (w' : World) (o : Nat) (u : Value), (w'.cell? ⟨w.heap.size, 5, none⟩ = some (.slice a5 n5 c5) ∧ w'.cell? ⟨w.heap.size, 6, none⟩ = some (.slice a6 n6 c6) ∧ w'.cell? ⟨w.heap.size, 7, none⟩ = some (.slice a7 n7 c7)) → ((w'.setCell ⟨w.heap.size + 1 + 1, o, none⟩ u).cell? ⟨w.heap.size, 5, none⟩ = some (.slice a5 n5 c5) ∧ (w'.setCell ⟨w.heap.size + 1 + 1, o, none⟩ u).cell? ⟨w.heap.size, 6, none⟩ = some (.slice a6 n6 c6) ∧ (w'.setCell ⟨w.heap.size + 1 + 1, o, none⟩ u).cell? ⟨w.heap.size, 7, none⟩ = some (.slice a7 n7 c7))) :=
        fun w' o u h => ⟨(cell_of_block (heap_setCell_other w' ⟨w.heap.size + 1 + 1, o, none⟩ (w.heap.size) u (by simp; omega)) 5).trans h.1, (cell_of_block (heap_setCell_other w' ⟨w.heap.size + 1 + 1, o, none⟩ (w.heap.size) u (by simp; omega)) 6).trans h.2.1, (cell_of_block (heap_setCell_other w' ⟨w.heap.size + 1 + 1, o, none⟩ (w.heap.size) u (by simp; omega)) 7).trans h.2.2⟩
      have HC : Hid (Calls Tryz.prog 21 #[.slice a5 n5 c5] wb.drew fun e w' => ∃ v, e = .returned v ∧ w'.ownsRow wb.drew.heap.size 3 1 v S.owned.length (S.owned.map (Value.int .i64)) ∧ Below wb.drew.heap.size wb.drew w') := copy_c _ _ _ (HSr.out.o.below (below_drewN wb 1)) HF.out.o
      go_wp2_with fail
      go_region_held3 (fun w' => w'.cell? ⟨w.heap.size, 5, none⟩ = some (.slice a5 n5 c5) ∧ w'.cell? ⟨w.heap.size, 6, none⟩ = some (.slice a6 n6 c6) ∧ w'.cell? ⟨w.heap.size, 7, none⟩ = some (.slice a7 n7 c7))
        (first | exact kwc0 | exact kwc1 | exact kwc2 | exact KS.out _ _ _ (kwc2) | exact KS.out _ _ _ (KS.out _ _ _ (kwc2)) | exact KS.out _ _ _ (KS.out _ _ _ (KS.out _ _ _ (kwc2))) | go_keep)
        (first
          | (go_at_call 21; refine HC.out.mono ?_; rintro e wc0 ⟨u5, rfl, hrow5, hbwc0'⟩; obtain ⟨va5, vn5, vc5, rfl⟩ := owns_slice hrow5; have hbwc0 : Below wb.heap.size wb wc0 := below_then (below_drewN wb 1) (below_low hbwc0' (Nat.le_refl _)); have hswc0 := hbwc0.size; have kwc0 := KB.out wc0 hbwc0)
          | (go_at_call 21; refine (copy_c _ _ wc0 (HSr.out.h.below hbwc0) HF.out.h).mono ?_; rintro e wc1 ⟨u6, rfl, hrow6, hbwc1'⟩; obtain ⟨va6, vn6, vc6, rfl⟩ := owns_slice hrow6; have hbwc1 := below_on hbwc0 (Nat.le_refl _) hbwc1'; have hswc1 := hbwc1'.size; have kwc1 := KB.out wc1 hbwc1)
          | (go_at_call 21; refine (copy_c _ _ wc1 (HSr.out.f.below hbwc1) HF.out.f).mono ?_; rintro e wc2 ⟨u7, rfl, hrow7, hbwc2'⟩; obtain ⟨va7, vn7, vc7, rfl⟩ := owns_slice hrow7; have hbwc2 := below_on hbwc1 (Nat.le_refl _) hbwc2'; have hswc2 := hbwc2'.size; have kwc2 := KB.out wc2 hbwc2; have hx := (hbwc2.block (w.heap.size + 1 + 1) (Nat.lt_of_lt_of_le (by omega) hsz)).trans HX2.out; have cc5 := cell_of_heap hx 5; have d5 := cc5.1; have f5 := cc5.2; have cc6 := cell_of_heap hx 6; have d6 := cc6.1; have f6 := cc6.2; have cc7 := cell_of_heap hx 7; have d7 := cc7.1; have f7 := cc7.2; simp at d5 d6 d7))
      obtain ⟨wc, hwc⟩ : ∃ wc, wc = (((wc2.setCell ⟨w.heap.size + 1 + 1, 5, none⟩ (.slice va5 vn5 vc5)).setCell ⟨w.heap.size + 1 + 1, 6, none⟩ (.slice va6 vn6 vc6)).setCell ⟨w.heap.size + 1 + 1, 7, none⟩ (.slice va7 vn7 vc7)) := ⟨_, rfl⟩
      have HX2 : Hid (wc.heap[w.heap.size + 1 + 1]? = some (.cells #[.int .i64 S.now, (.slice ua1 S.depths.length uc1), .slice ua2 S.paths.length uc2, .slice va3 vn3 vc3, .slice va4 vn4 vc4, .slice va5 vn5 vc5, .slice va6 vn6 vc6, .slice va7 vn7 vc7, .slice a8 n8 c8, .slice a9 n9 c9, .slice a10 n10 c10, .slice a11 n11 c11] 28 (0, 0))) := by unfold Hid; rw [hwc]; simpa using heap_set (heap_set (heap_set (hx) 5 (.slice va5 vn5 vc5)) 6 (.slice va6 vn6 vc6)) 7 (.slice va7 vn7 vc7)
      have hT : BelowX wb.heap.size (w.heap.size + 1 + 1) wb wc := by rw [hwc]; exact (((BelowX.of hbwc2 (Nat.le_refl _)).setCell 5 _).setCell 6 _).setCell 7 _
      have hN5 : BelowX wc0.heap.size (w.heap.size + 1 + 1) wc0 wc := by rw [hwc]; exact (((BelowX.of (below_on (hbwc1') (Nat.le_refl _) hbwc2') (Nat.le_refl _)).setCell 5 _).setCell 6 _).setCell 7 _
      have D5 := Lib.hid ((ints_of_row (P := fun b => w.heap.size + 1 + 1 < b) hrow5 (fun g e => by have h1 := (hrow5.lt g e).1; have h2 : wb.heap.size ≤ g := h1; omega)).2.keep (keepsG hN5))
      have hN6 : BelowX wc1.heap.size (w.heap.size + 1 + 1) wc1 wc := by rw [hwc]; exact (((BelowX.of (hbwc2') (Nat.le_refl _)).setCell 5 _).setCell 6 _).setCell 7 _
      have D6 := Lib.hid ((ints_of_row (P := fun b => w.heap.size + 1 + 1 < b) hrow6 (fun g e => by have h1 := (hrow6.lt g e).1; have h2 : wb.heap.size ≤ g := Nat.le_trans hbwc0.size h1; omega)).2.keep (keepsG hN6))
      have hN7 : BelowX wc2.heap.size (w.heap.size + 1 + 1) wc2 wc := by rw [hwc]; exact (((BelowX.refl _ _ _).setCell 5 _).setCell 6 _).setCell 7 _
      have D7 := Lib.hid ((ints_of_row (P := fun b => w.heap.size + 1 + 1 < b) hrow7 (fun g e => by have h1 := (hrow7.lt g e).1; have h2 : wb.heap.size ≤ g := Nat.le_trans hbwc1.size h1; omega)).2.keep (keepsG hN7))
      have D1 := Lib.hid (D1.out.keep (keepsG hT))
      have D2 := Lib.hid (D2.out.keep (keepsG hT))
      have D3 := Lib.hid (D3.out.keep (keepsG hT))
      have D4 := Lib.hid (D4.out.keep (keepsG hT))
      have HSr := Lib.hid (HSr.out.keep (keepsX hT))
      have HAX2 := Lib.hid (HAX2.out.trans ((hT).mono (Nat.le_trans (by omega : w3.heap.size ≤ w.heap.size + 1 + 1 + 1) hsz)))
      have TBr := Lib.hid (((hT).block (w.heap.size) (Nat.lt_of_lt_of_le (by omega) hsz) (by omega)).trans TBr.out)
      have TRr := Lib.hid (((hT).block (w.heap.size + 1) (Nat.lt_of_lt_of_le (by omega) hsz) (by omega)).trans TRr.out)
      have hsz := Nat.le_trans hsz hT.size
      rw [← hwc]
      clear hwc hT hx y5 hrow5 hN5 y6 hrow6 hN6 y7 hrow7 hN7 d5 f5 cc5 d6 f6 cc6 d7 f7 cc7 hbwc0 hbwc0' hswc0 kwc0 hbwc1 hbwc1' hswc1 kwc1 hbwc2 hbwc2' hswc2 kwc2 HC KB KS
      have y8 := (cell_of_heap TBr.out 8).1
      simp at y8
      have HC : Hid (Calls Tryz.prog 21 #[.slice a8 n8 c8] wc fun e w' => ∃ v, e = .returned v ∧ w'.ownsRow wc.heap.size 3 1 v S.tags.length (S.tags.map (Value.int .i64)) ∧ Below wc.heap.size wc w') := copy_c _ _ _ (HSr.out.t) HF.out.t
      go_wp2_with (first
          | (go_at_call 21; refine HC.out.mono ?_; rintro e wd0 ⟨u8, rfl, hrow8, hbwd0'⟩; obtain ⟨va8, vn8, vc8, rfl⟩ := owns_slice hrow8; have hbwd0 : Below wc.heap.size wc wd0 := hbwd0'; have hswd0 := hbwd0.size; have hx := (hbwd0.block (w.heap.size + 1 + 1) (Nat.lt_of_lt_of_le (by omega) hsz)).trans HX2.out; have cc8 := cell_of_heap hx 8; have d8 := cc8.1; have f8 := cc8.2; have cc9 := cell_of_heap hx 9; have d9 := cc9.1; have f9 := cc9.2; simp at d8 d9))
      obtain ⟨wd, hwd⟩ : ∃ wd, wd = ((wd0.setCell ⟨w.heap.size + 1 + 1, 8, none⟩ (.slice va8 vn8 vc8)).setCell ⟨w.heap.size + 1 + 1, 9, none⟩ (.slice none 0 0)) := ⟨_, rfl⟩
      have HX2 : Hid (wd.heap[w.heap.size + 1 + 1]? = some (.cells #[.int .i64 S.now, (.slice ua1 S.depths.length uc1), .slice ua2 S.paths.length uc2, .slice va3 vn3 vc3, .slice va4 vn4 vc4, .slice va5 vn5 vc5, .slice va6 vn6 vc6, .slice va7 vn7 vc7, .slice va8 vn8 vc8, .slice none 0 0, .slice a10 n10 c10, .slice a11 n11 c11] 28 (0, 0))) := by unfold Hid; rw [hwd]; simpa using heap_set (heap_set (hx) 8 (.slice va8 vn8 vc8)) 9 (.slice none 0 0)
      have hT : BelowX wc.heap.size (w.heap.size + 1 + 1) wc wd := by rw [hwd]; exact ((BelowX.of hbwd0 (Nat.le_refl _)).setCell 8 _).setCell 9 _
      have hN8 : BelowX wd0.heap.size (w.heap.size + 1 + 1) wd0 wd := by rw [hwd]; exact ((BelowX.refl _ _ _).setCell 8 _).setCell 9 _
      have D8 := Lib.hid ((ints_of_row (P := fun b => w.heap.size + 1 + 1 < b) hrow8 (fun g e => by have h1 := (hrow8.lt g e).1; have h2 : wc.heap.size ≤ g := h1; omega)).2.keep (keepsG hN8))
      have D1 := Lib.hid (D1.out.keep (keepsG hT))
      have D2 := Lib.hid (D2.out.keep (keepsG hT))
      have D3 := Lib.hid (D3.out.keep (keepsG hT))
      have D4 := Lib.hid (D4.out.keep (keepsG hT))
      have D5 := Lib.hid (D5.out.keep (keepsG hT))
      have D6 := Lib.hid (D6.out.keep (keepsG hT))
      have D7 := Lib.hid (D7.out.keep (keepsG hT))
      have HSr := Lib.hid (HSr.out.keep (keepsX hT))
      have HAX2 := Lib.hid (HAX2.out.trans ((hT).mono (Nat.le_trans (by omega : w3.heap.size ≤ w.heap.size + 1 + 1 + 1) hsz)))
      have TBr := Lib.hid (((hT).block (w.heap.size) (Nat.lt_of_lt_of_le (by omega) hsz) (by omega)).trans TBr.out)
      have TRr := Lib.hid (((hT).block (w.heap.size + 1) (Nat.lt_of_lt_of_le (by omega) hsz) (by omega)).trans TRr.out)
      have hsz := Nat.le_trans hsz hT.size
      rw [← hwd]
      clear hwd hT hx y8 hrow8 hN8 d8 f8 cc8 d9 f9 cc9 hbwd0 hbwd0' hswd0 HC
      obtain ⟨i47, p470, p471, p472, p473⟩ := info_parts info47
      go_loopw [5] (fun i wr => ∃ (k : Nat) (v : Value) (pv : Nat → Value), k ≤ n9 ∧ i = .int .i64 k ∧ wr.heap[w.heap.size + 1 + 1]? = some (.cells #[.int .i64 S.now, (.slice ua1 S.depths.length uc1), .slice ua2 S.paths.length uc2, .slice va3 vn3 vc3, .slice va4 vn4 vc4, .slice va5 vn5 vc5, .slice va6 vn6 vc6, .slice va7 vn7 vc7, .slice va8 vn8 vc8, v, .slice a10 n10 c10, .slice a11 n11 c11] 28 (0, 0)) ∧ Nest wd.heap.size wr 47 14 v k pv (caC S.caches) (fun j => (gc S.caches j).pages) ∧ BelowX wd.heap.size (w.heap.size + 1 + 1) wd wr) (fun i _ => n9 - (intOf i).toNat)
      case atStart => exact ⟨0, _, fun _ => .slice none 0 0, Nat.zero_le _, rfl, HX2.out, Nest.nil, BelowX.refl _ _ _⟩
      case round =>
        obtain ⟨k, v, pv, hk, rfl, hx, hn, hB⟩ := hrel
        have hsB := hB.size
        have HN := Lib.hid hn
        have HBX := Lib.hid hB
        have HX := Lib.hid hx
        have tBr := (hB.block (w.heap.size) (by omega) (by omega)).trans TBr.out
        have yB : wr.cell? ⟨w.heap.size, 9, none⟩ = some (.slice a9 n9 c9) := (cell_of_heap tBr 9).1
        clear hn hB hx tBr
        by_cases hlt : k < n9
        · have HLT := Lib.hid hlt
          obtain ⟨b, off, vs, rfl, x0, xs, hv⟩ := (HSr.out.keep (keepsX HBX.out)).c.at (j := k) (by rw [← H9.out]; exact hlt)
          obtain ⟨pa, pc, rfl, _, _⟩ := hv.form
          have x1 : wr.cell? ⟨b, off + k * 14 + 1, none⟩ = some (.int .i64 (gc S.caches k).align) := xs 1 (by decide) (by decide)
          have x2 : wr.cell? ⟨b, off + k * 14 + 2, none⟩ = some (.int .i64 (gc S.caches k).flags) := xs 2 (by decide) (by decide)
          have x3 : wr.cell? ⟨b, off + k * 14 + 3, none⟩ = some (.int .i64 (gc S.caches k).refs) := xs 3 (by decide) (by decide)
          have x4 : wr.cell? ⟨b, off + k * 14 + 4, none⟩ = some (.bool (gc S.caches k).live) := xs 4 (by decide) (by decide)
          have x5 : wr.cell? ⟨b, off + k * 14 + 5, none⟩ = some (.int .i64 (gc S.caches k).waits) := xs 5 (by decide) (by decide)
          have x6 : wr.cell? ⟨b, off + k * 14 + 6, none⟩ = some (.slice pa (gc S.caches k).pages.length pc) := xs 6 (by decide) (by decide)
          have x7 : wr.cell? ⟨b, off + k * 14 + 7, none⟩ = some (.int .i64 (gc S.caches k).l0) := xs 7 (by decide) (by decide)
          have x8 : wr.cell? ⟨b, off + k * 14 + 8, none⟩ = some (.int .i64 (gc S.caches k).l1) := xs 8 (by decide) (by decide)
          have x9 : wr.cell? ⟨b, off + k * 14 + 9, none⟩ = some (.int .i64 (gc S.caches k).l2) := xs 9 (by decide) (by decide)
          have x10 : wr.cell? ⟨b, off + k * 14 + 10, none⟩ = some (.int .i64 (gc S.caches k).l3) := xs 10 (by decide) (by decide)
          have x11 : wr.cell? ⟨b, off + k * 14 + 11, none⟩ = some (.int .i64 (gc S.caches k).order) := xs 11 (by decide) (by decide)
          have x12 : wr.cell? ⟨b, off + k * 14 + 12, none⟩ = some (.int .i64 (gc S.caches k).objects) := xs 12 (by decide) (by decide)
          have x13 : wr.cell? ⟨b, off + k * 14 + 13, none⟩ = some (.int .i64 (gc S.caches k).l6) := xs 13 (by decide) (by decide)
          clear xs
          have HPF : Hid ((gc S.caches k).pages.length * 8 ≤ 140737488351232) := HF.out.cp k (by rw [← H9.out]; exact hlt)
          have hpn : (n9 : Nat) * 128 ≤ 140737488351232 := by have := HF.out.c; rwa [← H9.out] at this
          obtain ⟨wA, hwA⟩ : ∃ wA, wA = wr.alloc (.cells #[.int .i64 (gc S.caches k).size, .int .i64 (gc S.caches k).align, .int .i64 (gc S.caches k).flags, .int .i64 (gc S.caches k).refs, .bool (gc S.caches k).live, .int .i64 (gc S.caches k).waits, .slice pa (gc S.caches k).pages.length pc, .int .i64 (gc S.caches k).l0, .int .i64 (gc S.caches k).l1, .int .i64 (gc S.caches k).l2, .int .i64 (gc S.caches k).l3, .int .i64 (gc S.caches k).order, .int .i64 (gc S.caches k).objects, .int .i64 (gc S.caches k).l6] 47) := ⟨_, rfl⟩
          have hbA : Below wr.heap.size wr wA := by rw [hwA]; exact below_alloc _ _
          have hsA : wA.heap.size = wr.heap.size + 1 := by rw [hwA, World.size_alloc]
          have hA6 : wA.heap[wr.heap.size]? = some (.cells #[.int .i64 (gc S.caches k).size, .int .i64 (gc S.caches k).align, .int .i64 (gc S.caches k).flags, .int .i64 (gc S.caches k).refs, .bool (gc S.caches k).live, .int .i64 (gc S.caches k).waits, .slice pa (gc S.caches k).pages.length pc, .int .i64 (gc S.caches k).l0, .int .i64 (gc S.caches k).l1, .int .i64 (gc S.caches k).l2, .int .i64 (gc S.caches k).l3, .int .i64 (gc S.caches k).order, .int .i64 (gc S.caches k).objects, .int .i64 (gc S.caches k).l6] 47 (0, 0)) := by rw [hwA]; exact World.alloc_heap_new _ _
          have HC := Lib.hid (copy_c _ _ wA (hv.below hbA) HPF.out)
          have HA6 := Lib.hid hA6
          have HBA := Lib.hid hbA
          clear hv hbA hA6
          go_wp2_with fail
          rw [← hwA]
          clear hwA x0 x1 x2 x3 x4 x5 x6 x7 x8 x9 x10 x11 x12 x13 yB
          refine HC.out.mono ?_
          rintro e w5 ⟨vp, rfl, hrow5, hb5'⟩
          obtain ⟨va, vn, vc, rfl⟩ := owns_slice hrow5
          have hs5 := hb5'.size
          have hb5 := below_on HBA.out (Nat.le_refl _) hb5'
          have t6 := (hb5'.block (wr.heap.size) (by omega)).trans HA6.out
          obtain ⟨⟨z0, _⟩, ⟨z1, _⟩, ⟨z2, _⟩, ⟨z3, _⟩, ⟨z4, _⟩, ⟨z5, _⟩, ⟨z6, zf⟩, ⟨z7, _⟩, ⟨z8, _⟩, ⟨z9, _⟩, ⟨z10, _⟩, ⟨z11, _⟩, ⟨z12, _⟩, z13, _⟩ := cells14 t6
          have hbS : Below wr.heap.size wr (w5.setCell ⟨wr.heap.size, 6, none⟩ (.slice va vn vc)) := hb5.setCell (by show wr.heap.size ≤ wr.heap.size; exact Nat.le_refl _) _
          have hNS := HN.out.below hbS
          have hBS := HBX.out.then (Nat.le_refl _) hbS
          have hxS := (hbS.block (w.heap.size + 1 + 1) (by omega)).trans HX.out
          have hcS := (cell_of_heap hxS 9).1
          simp at hcS
          have hrS : (w5.setCell ⟨wr.heap.size, 6, none⟩ (.slice va vn vc)).ownsRow wd.heap.size 3 1 (.slice va vn vc) (gc S.caches k).pages.length ((gc S.caches k).pages.map (Value.int .i64)) := owns_mono (owns_setCell hrow5 (by omega) 6 _) (by omega)
          have HNS := Lib.hid hNS
          have HBS := Lib.hid hBS
          have HXS := Lib.hid hxS
          have HRS := Lib.hid hrS
          clear hb5 hb5' hbS hNS hBS hxS hrS hrow5 t6 HC HA6 HBA
          go_wp2_with (at_builtin; refine wpList_append_lies _ rfl _ _ 24 rfl wd.heap.size 47 i47 (.agg #[.int .i64 0, .int .i64 0, .int .i64 0, .int .i64 0, .bool false, .int .i64 0, .slice none 0 0, .int .i64 0, .int .i64 0, .int .i64 0, .int .i64 0, .int .i64 0, .int .i64 0, .int .i64 0]) 14 128 Tryz.underlying24 p470 p471 p472 p473 rfl (by decide) v k ((List.range k).flatMap fun j => (caC S.caches) j (pv j)) rfl (HNS.out.alloc _).row ⟨w5.heap.size, 0, none⟩ 1 1 [.int .i64 (gc S.caches k).size, .int .i64 (gc S.caches k).align, .int .i64 (gc S.caches k).flags, .int .i64 (gc S.caches k).refs, .bool (gc S.caches k).live, .int .i64 (gc S.caches k).waits, .slice va vn vc, .int .i64 (gc S.caches k).l0, .int .i64 (gc S.caches k).l1, .int .i64 (gc S.caches k).l2, .int .i64 (gc S.caches k).l3, .int .i64 (gc S.caches k).order, .int .i64 (gc S.caches k).objects, .int .i64 (gc S.caches k).l6] rfl rfl (World.news_of_block (cs := #[.int .i64 (gc S.caches k).size, .int .i64 (gc S.caches k).align, .int .i64 (gc S.caches k).flags, .int .i64 (gc S.caches k).refs, .bool (gc S.caches k).live, .int .i64 (gc S.caches k).waits, .slice va vn vc, .int .i64 (gc S.caches k).l0, .int .i64 (gc S.caches k).l1, .int .i64 (gc S.caches k).l2, .int .i64 (gc S.caches k).l3, .int .i64 (gc S.caches k).order, .int .i64 (gc S.caches k).objects, .int .i64 (gc S.caches k).l6]) (t := 47) (fr := (0, 0)) (heap_alloc_newS w5 _ _ _)) (by simp [Value.oneCell']) (by omega) (by unfold maxLen; omega) (by omega) (by rw [World.size_alloc, World.size_setCell]; omega) (w5.heap.size + 1) (by simp) ?_)
          intro g cap w6 hown hgrow hat hlt2
          have hg6 := hgrow.size
          simp only [World.size_alloc, World.size_setCell] at hg6
          have hx6 : w6.heap[w.heap.size + 1 + 1]? = some (.cells #[.int .i64 S.now, (.slice ua1 S.depths.length uc1), .slice ua2 S.paths.length uc2, .slice va3 vn3 vc3, .slice va4 vn4 vc4, .slice va5 vn5 vc5, .slice va6 vn6 vc6, .slice va7 vn7 vc7, .slice va8 vn8 vc8, v, .slice a10 n10 c10, .slice a11 n11 c11] 28 (0, 0)) := (hgrow.block (w.heap.size + 1 + 1) (by rw [World.size_alloc, World.size_setCell]; omega) (fun e => by have := (HNS.out.row.lt _ e.symm).1; omega)).trans (heap_alloc_past _ _ HXS.out)
          have HB6 : Hid (BelowX wd.heap.size (w.heap.size + 1 + 1) wd w6) := (HBS.out.then (Nat.le_refl _) (below_alloc _ _)).grown (Nat.le_refl _) hgrow (fun j e => (HNS.out.row.lt j e).1)
          have HN6 := Lib.hid ((HNS.out.alloc _).push (by decide) (HRS.out.alloc _) hgrow hown)
          have kc := (cell_of_heap hx6 9).1
          have kf := (cell_of_heap hx6 9).2
          simp at kc
          have HX6 := Lib.hid hx6
          clear hown hgrow hat hx6 hcS z0 z1 z2 z3 z4 z5 z6 z7 z8 z9 z10 z11 z12 z13 zf
          go_wp2
          go_roundw
          case rel => exact ⟨k + 1, .slice (some ⟨g, 0, none⟩) (k + 1) cap, _, HLT.out, by go_num, by simpa using heap_set HX6.out 9 (.slice (some ⟨g, 0, none⟩) (k + 1) cap), HN6.out.setCell (by omega) 9 _, HB6.out.setCell 9 _⟩
          case measure => simp [intOf]; have := HLT.out; omega
        · obtain rfl : n9 = k := by omega
          have hpz : CasP (fun b => w.heap.size + 1 + 1 < b) wr v S.caches := by
            have hn := HN.out; rw [H9.out] at hn; exact hn.caches (fun g hg => by omega)
          obtain ⟨va9, vc9, rfl, _, _⟩ := hpz.form
          have D9 := Lib.hid hpz
          have hT := HBX.out
          have HX2 := Lib.hid HX.out
          have D1 := Lib.hid (D1.out.keep (keepsG hT))
          have D2 := Lib.hid (D2.out.keep (keepsG hT))
          have D3 := Lib.hid (D3.out.keep (keepsG hT))
          have D4 := Lib.hid (D4.out.keep (keepsG hT))
          have D5 := Lib.hid (D5.out.keep (keepsG hT))
          have D6 := Lib.hid (D6.out.keep (keepsG hT))
          have D7 := Lib.hid (D7.out.keep (keepsG hT))
          have D8 := Lib.hid (D8.out.keep (keepsG hT))
          have HSr := Lib.hid (HSr.out.keep (keepsX hT))
          have HAX2 := Lib.hid (HAX2.out.trans ((hT).mono (Nat.le_trans (by omega : w3.heap.size ≤ w.heap.size + 1 + 1 + 1) hsz)))
          have TBr := Lib.hid (((hT).block (w.heap.size) (Nat.lt_of_lt_of_le (by omega) hsz) (by omega)).trans TBr.out)
          have TRr := Lib.hid (((hT).block (w.heap.size + 1) (Nat.lt_of_lt_of_le (by omega) hsz) (by omega)).trans TRr.out)
          have hsz := Nat.le_trans hsz hT.size
          clear hpz hT HN HBX HX
          have y10 := fun o => cell_alloc_past wr o (cell_of_heap TBr.out 10).1
          simp at y10
          have hlit := World.ownsRow_lit (base := wr.heap.size) (e := 70) (size := 5) wr #[] 0 (Nat.le_refl _) (by unfold maxLen; omega) rfl
          have HLI : Hid ((wr.alloc (.cells #[] 70)).ownsRow wr.heap.size 70 5 (.slice (some ⟨wr.heap.size, 0, none⟩) 0 0) 0 []) := hlit
          have HSA := Lib.hid (HSr.out.hs.below (below_alloc wr (.cells #[] 70)))
          clear hlit
          go_wp2_with (at_builtin; refine wpList_append_hds (P := fun b => b ≠ w.heap.size + 1 + 1) _ rfl _ _ rfl wr.heap.size wr.heap.size rfl HLI.out _ S.handles HSA.out rfl HF.out.hs (by rw [World.size_alloc]; omega) ?_)
          intro v10 w5 hown hgrow
          obtain ⟨va10, vn10, vc10, rfl⟩ := owns_slice hown
          have hg5 := hgrow.size
          simp only [World.size_alloc] at hg5
          have hx := (hgrow.block (w.heap.size + 1 + 1) (by rw [World.size_alloc]; omega) (fun e => by have := Option.some.inj e; omega)).trans (heap_alloc_past _ _ HX2.out)
          have cc10 := cell_of_heap hx 10
          have cc11 := cell_of_heap hx 11
          have d10 := cc10.1
          have f10 := cc10.2
          have d11 := cc11.1
          have f11 := cc11.2
          simp at d10 d11
          have hb5 : BelowX wr.heap.size (w.heap.size + 1 + 1) wr w5 := (BelowX.of (below_alloc wr _) (Nat.le_refl _)).grown (Nat.le_refl _) hgrow (fun j e => by have := Option.some.inj e; omega)
          have hd10 : HdsP (fun b => w.heap.size + 1 + 1 < b) w5 (.slice va10 vn10 vc10) S.handles := hds_of_row hown (fun g hg => by omega)
          have HX5 := Lib.hid hx
          have HB5 := Lib.hid hb5
          have HD10 := Lib.hid hd10
          clear hown hgrow hb5 hd10 cc10 cc11 hx y10
          go_wp2_with fail
          obtain ⟨we, hwe⟩ : ∃ we, we = (w5.setCell ⟨w.heap.size + 1 + 1, 10, none⟩ (.slice va10 vn10 vc10)).setCell ⟨w.heap.size + 1 + 1, 11, none⟩ (.slice none 0 0) := ⟨_, rfl⟩
          have HX2 : Hid (we.heap[w.heap.size + 1 + 1]? = some (.cells #[.int .i64 S.now, (.slice ua1 S.depths.length uc1), .slice ua2 S.paths.length uc2, .slice va3 vn3 vc3, .slice va4 vn4 vc4, .slice va5 vn5 vc5, .slice va6 vn6 vc6, .slice va7 vn7 vc7, .slice va8 vn8 vc8, .slice va9 S.caches.length vc9, .slice va10 vn10 vc10, .slice none 0 0] 28 (0, 0))) := by unfold Hid; rw [hwe]; simpa using heap_set (heap_set HX5.out 10 (.slice va10 vn10 vc10)) 11 (.slice none 0 0)
          have hT : BelowX wr.heap.size (w.heap.size + 1 + 1) wr we := by rw [hwe]; exact (HB5.out.setCell 10 _).setCell 11 _
          have hN : BelowX w5.heap.size (w.heap.size + 1 + 1) w5 we := by rw [hwe]; exact ((BelowX.refl _ _ _).setCell 10 _).setCell 11 _
          have D10 := Lib.hid (HD10.out.keep (keepsG hN))
          have D1 := Lib.hid (D1.out.keep (keepsG hT))
          have D2 := Lib.hid (D2.out.keep (keepsG hT))
          have D3 := Lib.hid (D3.out.keep (keepsG hT))
          have D4 := Lib.hid (D4.out.keep (keepsG hT))
          have D5 := Lib.hid (D5.out.keep (keepsG hT))
          have D6 := Lib.hid (D6.out.keep (keepsG hT))
          have D7 := Lib.hid (D7.out.keep (keepsG hT))
          have D8 := Lib.hid (D8.out.keep (keepsG hT))
          have D9 := Lib.hid (D9.out.keep (keepsG hT))
          have HSr := Lib.hid (HSr.out.keep (keepsX hT))
          have HAX2 := Lib.hid (HAX2.out.trans ((hT).mono (Nat.le_trans (by omega : w3.heap.size ≤ w.heap.size + 1 + 1 + 1) hsz)))
          have TBr := Lib.hid (((hT).block (w.heap.size) (Nat.lt_of_lt_of_le (by omega) hsz) (by omega)).trans TBr.out)
          have TRr := Lib.hid (((hT).block (w.heap.size + 1) (Nat.lt_of_lt_of_le (by omega) hsz) (by omega)).trans TRr.out)
          have hsz := Nat.le_trans hsz hT.size
          rw [← hwe]
          clear hwe hT hN d10 f10 d11 f11 HX5 HB5 HD10 HLI HSA
          obtain ⟨i73, p730, p731, p732, p733⟩ := info_parts info73
          go_loopw [7] (fun i wr => ∃ (k : Nat) (v : Value) (pv : Nat → Value), k ≤ n11 ∧ i = .int .i64 k ∧ wr.heap[w.heap.size + 1 + 1]? = some (.cells #[.int .i64 S.now, (.slice ua1 S.depths.length uc1), .slice ua2 S.paths.length uc2, .slice va3 vn3 vc3, .slice va4 vn4 vc4, .slice va5 vn5 vc5, .slice va6 vn6 vc6, .slice va7 vn7 vc7, .slice va8 vn8 vc8, .slice va9 S.caches.length vc9, .slice va10 vn10 vc10, v] 28 (0, 0)) ∧ Nest we.heap.size wr 73 6 v k pv (ddC S.dids) (fun j => (gd S.dids j).hs) ∧ BelowX we.heap.size (w.heap.size + 1 + 1) we wr) (fun i _ => n11 - (intOf i).toNat)
          case atStart => exact ⟨0, _, fun _ => .slice none 0 0, Nat.zero_le _, rfl, HX2.out, Nest.nil, BelowX.refl _ _ _⟩
          case round =>
            obtain ⟨k, v, pv, hk, rfl, hx, hn, hB⟩ := hrel
            have hsB := hB.size
            have HN := Lib.hid hn
            have HBX := Lib.hid hB
            have HX := Lib.hid hx
            have tBr := (hB.block (w.heap.size) (by omega) (by omega)).trans TBr.out
            have yB : wr.cell? ⟨w.heap.size, 11, none⟩ = some (.slice a11 n11 c11) := (cell_of_heap tBr 11).1
            clear hn hB hx tBr
            by_cases hlt : k < n11
            · have HLT := Lib.hid hlt
              obtain ⟨b, off, vs, rfl, x0, x1, x2, x3, x4, x5, hv⟩ := (HSr.out.keep (keepsX HBX.out)).ds.at (j := k) (by rw [← H11.out]; exact hlt)
              obtain ⟨pa, pc, rfl, _, _⟩ := hv.form
              have HPF : Hid ((gd S.dids k).hs.length * 8 ≤ 140737488351232) := HF.out.dp k (by rw [← H11.out]; exact hlt)
              have hpn : (n11 : Nat) * 64 ≤ 140737488351232 := by have := HF.out.ds; rwa [← H11.out] at this
              obtain ⟨wA, hwA⟩ : ∃ wA, wA = wr.alloc (.cells #[.int .i64 (gd S.dids k).cpu, .int .i64 (gd S.dids k).op, .int .i64 (gd S.dids k).frm, .int .i64 (gd S.dids k).to, .int .i64 (gd S.dids k).e, .slice pa (gd S.dids k).hs.length pc] 73) := ⟨_, rfl⟩
              have hbA : Below wr.heap.size wr wA := by rw [hwA]; exact below_alloc _ _
              have hsA : wA.heap.size = wr.heap.size + 1 := by rw [hwA, World.size_alloc]
              have hA6 : wA.heap[wr.heap.size]? = some (.cells #[.int .i64 (gd S.dids k).cpu, .int .i64 (gd S.dids k).op, .int .i64 (gd S.dids k).frm, .int .i64 (gd S.dids k).to, .int .i64 (gd S.dids k).e, .slice pa (gd S.dids k).hs.length pc] 73 (0, 0)) := by rw [hwA]; exact World.alloc_heap_new _ _
              have HC := Lib.hid (copy_c _ _ wA (hv.below hbA) HPF.out)
              have HA6 := Lib.hid hA6
              have HBA := Lib.hid hbA
              clear hv hbA hA6
              go_wp2_with fail
              rw [← hwA]
              clear hwA x0 x1 x2 x3 x4 x5 yB
              refine HC.out.mono ?_
              rintro e w5 ⟨vp, rfl, hrow5, hb5'⟩
              obtain ⟨va, vn, vc, rfl⟩ := owns_slice hrow5
              have hs5 := hb5'.size
              have hb5 := below_on HBA.out (Nat.le_refl _) hb5'
              have t6 := (hb5'.block (wr.heap.size) (by omega)).trans HA6.out
              obtain ⟨⟨z0, _⟩, ⟨z1, _⟩, ⟨z2, _⟩, ⟨z3, _⟩, ⟨z4, _⟩, z5, zf⟩ := cells6 t6
              have hbS : Below wr.heap.size wr (w5.setCell ⟨wr.heap.size, 5, none⟩ (.slice va vn vc)) := hb5.setCell (by show wr.heap.size ≤ wr.heap.size; exact Nat.le_refl _) _
              have hNS := HN.out.below hbS
              have hBS := HBX.out.then (Nat.le_refl _) hbS
              have hxS := (hbS.block (w.heap.size + 1 + 1) (by omega)).trans HX.out
              have hcS := (cell_of_heap hxS 11).1
              simp at hcS
              have hrS : (w5.setCell ⟨wr.heap.size, 5, none⟩ (.slice va vn vc)).ownsRow we.heap.size 3 1 (.slice va vn vc) (gd S.dids k).hs.length ((gd S.dids k).hs.map (Value.int .i64)) := owns_mono (owns_setCell hrow5 (by omega) 5 _) (by omega)
              have HNS := Lib.hid hNS
              have HBS := Lib.hid hBS
              have HXS := Lib.hid hxS
              have HRS := Lib.hid hrS
              clear hb5 hb5' hbS hNS hBS hxS hrS hrow5 t6 HC HA6 HBA
              go_wp2_with (at_builtin; refine wpList_append_lies _ rfl _ _ 26 rfl we.heap.size 73 i73 (.agg #[.int .i64 0, .int .i64 0, .int .i64 0, .int .i64 0, .int .i64 0, .slice none 0 0]) 6 64 Tryz.underlying26 p730 p731 p732 p733 rfl (by decide) v k ((List.range k).flatMap fun j => (ddC S.dids) j (pv j)) rfl (HNS.out.alloc _).row ⟨w5.heap.size, 0, none⟩ 1 1 [.int .i64 (gd S.dids k).cpu, .int .i64 (gd S.dids k).op, .int .i64 (gd S.dids k).frm, .int .i64 (gd S.dids k).to, .int .i64 (gd S.dids k).e, .slice va vn vc] rfl rfl (World.news_of_block (cs := #[.int .i64 (gd S.dids k).cpu, .int .i64 (gd S.dids k).op, .int .i64 (gd S.dids k).frm, .int .i64 (gd S.dids k).to, .int .i64 (gd S.dids k).e, .slice va vn vc]) (t := 73) (fr := (0, 0)) (heap_alloc_newS w5 _ _ _)) (by simp [Value.oneCell']) (by omega) (by unfold maxLen; omega) (by omega) (by rw [World.size_alloc, World.size_setCell]; omega) (w5.heap.size + 1) (by simp) ?_)
              intro g cap w6 hown hgrow hat hlt2
              have hg6 := hgrow.size
              simp only [World.size_alloc, World.size_setCell] at hg6
              have hx6 : w6.heap[w.heap.size + 1 + 1]? = some (.cells #[.int .i64 S.now, (.slice ua1 S.depths.length uc1), .slice ua2 S.paths.length uc2, .slice va3 vn3 vc3, .slice va4 vn4 vc4, .slice va5 vn5 vc5, .slice va6 vn6 vc6, .slice va7 vn7 vc7, .slice va8 vn8 vc8, .slice va9 S.caches.length vc9, .slice va10 vn10 vc10, v] 28 (0, 0)) := (hgrow.block (w.heap.size + 1 + 1) (by rw [World.size_alloc, World.size_setCell]; omega) (fun e => by have := (HNS.out.row.lt _ e.symm).1; omega)).trans (heap_alloc_past _ _ HXS.out)
              have HB6 : Hid (BelowX we.heap.size (w.heap.size + 1 + 1) we w6) := (HBS.out.then (Nat.le_refl _) (below_alloc _ _)).grown (Nat.le_refl _) hgrow (fun j e => (HNS.out.row.lt j e).1)
              have HN6 := Lib.hid ((HNS.out.alloc _).push (by decide) (HRS.out.alloc _) hgrow hown)
              have kc := (cell_of_heap hx6 11).1
              have kf := (cell_of_heap hx6 11).2
              simp at kc
              have HX6 := Lib.hid hx6
              clear hown hgrow hat hx6 hcS z0 z1 z2 z3 z4 z5 zf
              go_wp2
              go_roundw
              case rel => exact ⟨k + 1, .slice (some ⟨g, 0, none⟩) (k + 1) cap, _, HLT.out, by go_num, by simpa using heap_set HX6.out 11 (.slice (some ⟨g, 0, none⟩) (k + 1) cap), HN6.out.setCell (by omega) 11 _, HB6.out.setCell 11 _⟩
              case measure => simp [intOf]; have := HLT.out; omega
            · obtain rfl : n11 = k := by omega
              have hpz : DdsP (fun b => w.heap.size + 1 + 1 < b) wr v S.dids := by
                have hn := HN.out; rw [H11.out] at hn; exact hn.dids (fun g hg => by omega)
              obtain ⟨va11, vc11, rfl, _, _⟩ := hpz.form
              have D11 := Lib.hid hpz
              have hT := HBX.out
              have HX2 := Lib.hid HX.out
              have D1 := Lib.hid (D1.out.keep (keepsG hT))
              have D2 := Lib.hid (D2.out.keep (keepsG hT))
              have D3 := Lib.hid (D3.out.keep (keepsG hT))
              have D4 := Lib.hid (D4.out.keep (keepsG hT))
              have D5 := Lib.hid (D5.out.keep (keepsG hT))
              have D6 := Lib.hid (D6.out.keep (keepsG hT))
              have D7 := Lib.hid (D7.out.keep (keepsG hT))
              have D8 := Lib.hid (D8.out.keep (keepsG hT))
              have D9 := Lib.hid (D9.out.keep (keepsG hT))
              have D10 := Lib.hid (D10.out.keep (keepsG hT))
              have HSr := Lib.hid (HSr.out.keep (keepsX hT))
              have HAX2 := Lib.hid (HAX2.out.trans ((hT).mono (Nat.le_trans (by omega : w3.heap.size ≤ w.heap.size + 1 + 1 + 1) hsz)))
              have TBr := Lib.hid (((hT).block (w.heap.size) (Nat.lt_of_lt_of_le (by omega) hsz) (by omega)).trans TBr.out)
              have TRr := Lib.hid (((hT).block (w.heap.size + 1) (Nat.lt_of_lt_of_le (by omega) hsz) (by omega)).trans TRr.out)
              have hsz := Nat.le_trans hsz hT.size
              clear hpz hT HN HBX HX
              have HBW : Hid (Below w.heap.size w wr) := below_then HB3.out (HAX2.out.low (by omega) (by omega))
              obtain ⟨⟨y0, _⟩, ⟨y1, _⟩, ⟨y2, _⟩, ⟨y3, _⟩, ⟨y4, _⟩, ⟨y5, _⟩, ⟨y6, _⟩, ⟨y7, _⟩, ⟨y8, _⟩, ⟨y9, _⟩, ⟨y10, _⟩, y11, _⟩ := cells12 HX2.out
              obtain ⟨⟨r0, q0⟩, ⟨r1, q1⟩, ⟨r2, q2⟩, ⟨r3, q3⟩, ⟨r4, q4⟩, ⟨r5, q5⟩, ⟨r6, q6⟩, ⟨r7, q7⟩, ⟨r8, q8⟩, ⟨r9, q9⟩, ⟨r10, q10⟩, r11, q11⟩ := cells12 TRr.out
              go_wp2
              have hfin : ∀ b, w.heap.size + 1 + 1 < b → b < wr.heap.size → w.heap.size ≤ b ∧ _ := fun b hb _ => ⟨by omega, tw_other (W := wr) (X := w.heap.size + 1) (show b ≠ w.heap.size + 1 by omega) (.int .i64 S.now) ((.slice ua1 S.depths.length uc1)) (.slice ua2 S.paths.length uc2) (.slice va3 vn3 vc3) (.slice va4 vn4 vc4) (.slice va5 vn5 vc5) (.slice va6 vn6 vc6) (.slice va7 vn7 vc7) (.slice va8 vn8 vc8) (.slice va9 S.caches.length vc9) (.slice va10 vn10 vc10) (.slice va11 S.dids.length vc11)⟩
              refine bodyPost_ret (v := .agg #[.int .i64 S.now, (.slice ua1 S.depths.length uc1), .slice ua2 S.paths.length uc2, .slice va3 vn3 vc3, .slice va4 vn4 vc4, .slice va5 vn5 vc5, .slice va6 vn6 vc6, .slice va7 vn7 vc7, .slice va8 vn8 vc8, .slice va9 S.caches.length vc9, .slice va10 vn10 vc10, .slice va11 S.dids.length vc11]) (by simp [results, Tryz.results8, go_sem, tw0 TRr.out, tw1 TRr.out, tw2 TRr.out, tw3 TRr.out, tw4 TRr.out, tw5 TRr.out, tw6 TRr.out, tw7 TRr.out, tw8 TRr.out, tw9 TRr.out, tw10 TRr.out, tw11 TRr.out]) rfl ⟨⟨_, _, _, _, _, _, _, _, _, _, _, rfl, ?_⟩, tw_below HBW.out (by omega) _ _ _ _ _ _ _ _ _ _ _ _⟩
              exact ⟨D1.out.keep hfin, D2.out.keep hfin, D3.out.keep hfin, D4.out.keep hfin, D5.out.keep hfin, D6.out.keep hfin, D7.out.keep hfin, D8.out.keep hfin, D9.out.keep hfin, D10.out.keep hfin, D11.out.keep hfin⟩
end Go.Proofs.YtcpafphgkbfahaaGreat
