/- The first call of some operations that names a handle. Conditions: what lies in memory. -/
import Derived.Test.YtcpafphgkbfahaaGreatJuC
import Derived.Handy
namespace Go.Proofs.YtcpafphgkbfahaaGreat
open Go.RowKit Go.Shelf
set_option linter.unusedVariables false
set_option linter.unusedSimpArgs false
theorem six_heap {W : World} {X : Nat} {t : TypeId} {b0 b1 b2 b3 b4 b5 : Value} (h : W.heap[X]? = some (.cells #[b0, b1, b2, b3, b4, b5] t (0, 0))) (a0 a1 a2 a3 a4 a5 : Value) : ((((((W.setCell ⟨X, 0, none⟩ a0).setCell ⟨X, 1, none⟩ a1).setCell ⟨X, 2, none⟩ a2).setCell ⟨X, 3, none⟩ a3).setCell ⟨X, 4, none⟩ a4).setCell ⟨X, 5, none⟩ a5).heap[X]? = some (.cells #[a0, a1, a2, a3, a4, a5] t (0, 0)) := by
  simpa using heap_set (heap_set (heap_set (heap_set (heap_set (heap_set h 0 a0) 1 a1) 2 a2) 3 a3) 4 a4) 5 a5
theorem six0 {W : World} {X : Nat} {t : TypeId} {b0 b1 b2 b3 b4 b5 : Value} (h : W.heap[X]? = some (.cells #[b0, b1, b2, b3, b4, b5] t (0, 0))) (a0 a1 a2 a3 a4 a5 : Value) : ((((((W.setCell ⟨X, 0, none⟩ a0).setCell ⟨X, 1, none⟩ a1).setCell ⟨X, 2, none⟩ a2).setCell ⟨X, 3, none⟩ a3).setCell ⟨X, 4, none⟩ a4).setCell ⟨X, 5, none⟩ a5).cell? ⟨X, 0, none⟩ = some a0 := by
  simpa using (cell_of_heap (six_heap h a0 a1 a2 a3 a4 a5) 0).1
theorem six1 {W : World} {X : Nat} {t : TypeId} {b0 b1 b2 b3 b4 b5 : Value} (h : W.heap[X]? = some (.cells #[b0, b1, b2, b3, b4, b5] t (0, 0))) (a0 a1 a2 a3 a4 a5 : Value) : ((((((W.setCell ⟨X, 0, none⟩ a0).setCell ⟨X, 1, none⟩ a1).setCell ⟨X, 2, none⟩ a2).setCell ⟨X, 3, none⟩ a3).setCell ⟨X, 4, none⟩ a4).setCell ⟨X, 5, none⟩ a5).cell? ⟨X, 1, none⟩ = some a1 := by
  simpa using (cell_of_heap (six_heap h a0 a1 a2 a3 a4 a5) 1).1
theorem six2 {W : World} {X : Nat} {t : TypeId} {b0 b1 b2 b3 b4 b5 : Value} (h : W.heap[X]? = some (.cells #[b0, b1, b2, b3, b4, b5] t (0, 0))) (a0 a1 a2 a3 a4 a5 : Value) : ((((((W.setCell ⟨X, 0, none⟩ a0).setCell ⟨X, 1, none⟩ a1).setCell ⟨X, 2, none⟩ a2).setCell ⟨X, 3, none⟩ a3).setCell ⟨X, 4, none⟩ a4).setCell ⟨X, 5, none⟩ a5).cell? ⟨X, 2, none⟩ = some a2 := by
  simpa using (cell_of_heap (six_heap h a0 a1 a2 a3 a4 a5) 2).1
theorem six3 {W : World} {X : Nat} {t : TypeId} {b0 b1 b2 b3 b4 b5 : Value} (h : W.heap[X]? = some (.cells #[b0, b1, b2, b3, b4, b5] t (0, 0))) (a0 a1 a2 a3 a4 a5 : Value) : ((((((W.setCell ⟨X, 0, none⟩ a0).setCell ⟨X, 1, none⟩ a1).setCell ⟨X, 2, none⟩ a2).setCell ⟨X, 3, none⟩ a3).setCell ⟨X, 4, none⟩ a4).setCell ⟨X, 5, none⟩ a5).cell? ⟨X, 3, none⟩ = some a3 := by
  simpa using (cell_of_heap (six_heap h a0 a1 a2 a3 a4 a5) 3).1
theorem six4 {W : World} {X : Nat} {t : TypeId} {b0 b1 b2 b3 b4 b5 : Value} (h : W.heap[X]? = some (.cells #[b0, b1, b2, b3, b4, b5] t (0, 0))) (a0 a1 a2 a3 a4 a5 : Value) : ((((((W.setCell ⟨X, 0, none⟩ a0).setCell ⟨X, 1, none⟩ a1).setCell ⟨X, 2, none⟩ a2).setCell ⟨X, 3, none⟩ a3).setCell ⟨X, 4, none⟩ a4).setCell ⟨X, 5, none⟩ a5).cell? ⟨X, 4, none⟩ = some a4 := by
  simpa using (cell_of_heap (six_heap h a0 a1 a2 a3 a4 a5) 4).1
theorem six5 {W : World} {X : Nat} {t : TypeId} {b0 b1 b2 b3 b4 b5 : Value} (h : W.heap[X]? = some (.cells #[b0, b1, b2, b3, b4, b5] t (0, 0))) (a0 a1 a2 a3 a4 a5 : Value) : ((((((W.setCell ⟨X, 0, none⟩ a0).setCell ⟨X, 1, none⟩ a1).setCell ⟨X, 2, none⟩ a2).setCell ⟨X, 3, none⟩ a3).setCell ⟨X, 4, none⟩ a4).setCell ⟨X, 5, none⟩ a5).cell? ⟨X, 5, none⟩ = some a5 := by
  simpa using (cell_of_heap (six_heap h a0 a1 a2 a3 a4 a5) 5).1
theorem six_below {W V : World} {X n : Nat} (h : Below n V W) (hn : n ≤ X) (a0 a1 a2 a3 a4 a5 : Value) : Below n V ((((((W.setCell ⟨X, 0, none⟩ a0).setCell ⟨X, 1, none⟩ a1).setCell ⟨X, 2, none⟩ a2).setCell ⟨X, 3, none⟩ a3).setCell ⟨X, 4, none⟩ a4).setCell ⟨X, 5, none⟩ a5) :=
  (((((h.setCell hn a0).setCell hn a1).setCell hn a2).setCell hn a3).setCell hn a4).setCell hn a5

set_option maxHeartbeats 1000000 in
theorem first_givesF {P : Nat → Prop} (now : Int) (v1 v2 v3 v4 v5 v6 v7 v8 v9 v10 v11 : Value) (ds : List Dd) (h : Int) (w : World) (hI : DdsP P w v11 ds) :
    Calls Tryz.prog 18 #[.agg #[.int .i64 now, v1, v2, v3, v4, v5, v6, v7, v8, v9, v10, v11], .int .i64 h, .func (.func 19) #[] #[]] w fun e w' => (∃ u, e = .returned u ∧ ((firstAt (fun d => namesF d h && givesF d) ds = none ∧ u = .tuple #[.agg #[.int .i64 0, .int .i64 0, .int .i64 0, .int .i64 (-1), .int .i64 0, .slice none 0 0], .bool false]) ∨
      ∃ k v, firstAt (fun d => namesF d h && givesF d) ds = some k ∧ u = .tuple #[.agg #[.int .i64 (gd ds k).cpu, .int .i64 (gd ds k).op, .int .i64 (gd ds k).frm, .int .i64 (gd ds k).to, .int .i64 (gd ds k).e, v], .bool true] ∧ ∃ va vn vc, v = .slice va vn vc)) ∧ Below w.heap.size w w' := by
  obtain ⟨a, c, rfl, hlc, hcm⟩ := hI.form
  unfold maxLen at hcm
  obtain ⟨len, hlen⟩ : ∃ len, len = ds.length := ⟨_, rfl⟩
  have HL := Lib.hid hlen
  rw [← hlen] at hlc hI ⊢
  have HI := Lib.hid hI
  clear hlen hI
  go_enter Tryz.func18, Tryz.ntmps18
  go_wp2_with fail
  obtain ⟨w4, hw4⟩ : ∃ w4, w4 = (((w.alloc (.cells #[.int .i64 now, v1, v2, v3, v4, v5, v6, v7, v8, v9, v10, .slice a len c] 28)).alloc (.cells #[.int .i64 h] 3)).alloc (.cells #[.func (.func 19) #[] #[]] 78)).alloc (.cells #[.int .i64 0, .int .i64 0, .int .i64 0, .int .i64 0, .int .i64 0, .slice none 0 0] 73) := ⟨_, rfl⟩
  have hb4 : Below w.heap.size w w4 := by rw [hw4]; exact (((below_alloc w _).alloc (by simp) _).alloc (by simp; omega) _).alloc (by simp; omega) _
  have s11 : w4.cell? ⟨w.heap.size, 11, none⟩ = some (.slice a len c) := by rw [hw4]; go_simp
  have s1 : w4.cell? ⟨w.heap.size + 1, 0, none⟩ = some (.int .i64 h) := by rw [hw4]; go_simp
  have s2 : w4.cell? ⟨w.heap.size + 1 + 1, 0, none⟩ = some (.func (.func 19) #[] #[]) := by rw [hw4]; go_simp
  have s3 : w4.heap[w.heap.size + 1 + 1 + 1]? = some (.cells #[.int .i64 0, .int .i64 0, .int .i64 0, .int .i64 0, .int .i64 0, .slice none 0 0] 73 (0, 0)) := by
    rw [hw4]; have := World.alloc_heap_new (((w.alloc (.cells #[.int .i64 now, v1, v2, v3, v4, v5, v6, v7, v8, v9, v10, .slice a len c] 28)).alloc (.cells #[.int .i64 h] 3)).alloc (.cells #[.func (.func 19) #[] #[]] 78)) (.cells #[.int .i64 0, .int .i64 0, .int .i64 0, .int .i64 0, .int .i64 0, .slice none 0 0] 73); simpa using this
  have hsz : w4.heap.size = w.heap.size + 1 + 1 + 1 + 1 := by rw [hw4]; simp
  rw [← hw4]
  clear hw4
  have HI4 := Lib.hid (HI.out.below hb4)
  refine (indexDids_givesF _ ds h (w.heap.size + 1) (w.heap.size + 1 + 1) w4 HI4.out s1 s2).mono ?_
  rintro e w5 ⟨⟨r, rfl, hr⟩, hb⟩
  have HB5 := Lib.hid (below_on hb4 (Nat.le_refl _) hb)
  have t11 := (hb.cell (p := ⟨w.heap.size, 11, none⟩) (by rw [hsz]; show w.heap.size < _; omega)).trans s11
  have t3 := (hb.block (w.heap.size + 1 + 1 + 1) (by omega)).trans s3
  have T3 := Lib.hid t3
  have HI5 := Lib.hid (HI4.out.below hb)
  have hsz5 := hb.size
  clear hb4 s11 s1 s2 s3 hb t3
  have c0 := (cell_of_heap T3.out 0).1
  have c1 := (cell_of_heap T3.out 1).1
  have c2 := (cell_of_heap T3.out 2).1
  have c3 := (cell_of_heap T3.out 3).1
  have c4 := (cell_of_heap T3.out 4).1
  have c5 := (cell_of_heap T3.out 5).1
  have f0 := (cell_of_heap T3.out 0).2
  have f1 := (cell_of_heap T3.out 1).2
  have f2 := (cell_of_heap T3.out 2).2
  have f3 := (cell_of_heap T3.out 3).2
  have f4 := (cell_of_heap T3.out 4).2
  have f5 := (cell_of_heap T3.out 5).2
  simp at c0 c1 c2 c3 c4 c5
  rcases hr with ⟨rfl, hf⟩ | ⟨k, hk, rfl, hf⟩
  · have HF := Lib.hid hf
    clear hf
    go_wp2
    refine bodyPost_ret (v := .tuple #[.agg #[.int .i64 0, .int .i64 0, .int .i64 0, .int .i64 (-1), .int .i64 0, .slice none 0 0], .bool false]) (by simp [results, Tryz.results18, go_sem, six0 T3.out, six1 T3.out, six2 T3.out, six3 T3.out, six4 T3.out, six5 T3.out]) rfl ⟨⟨_, rfl, .inl ⟨HF.out, rfl⟩⟩, six_below HB5.out (by omega) _ _ _ _ _ _⟩
  · have HF := Lib.hid hf
    clear hf
    obtain ⟨b, off, v, rfl, q0, q1, q2, q3, q4, q5, hv⟩ := HI5.out.at (j := k) (by omega)
    obtain ⟨va, vc, rfl, _, _⟩ := hv.form
    rw [← HL.out] at hk
    go_wp2
    refine bodyPost_ret (v := .tuple #[.agg #[.int .i64 (gd ds k).cpu, .int .i64 (gd ds k).op, .int .i64 (gd ds k).frm, .int .i64 (gd ds k).to, .int .i64 (gd ds k).e, .slice va (gd ds k).hs.length vc], .bool true]) (by simp [results, Tryz.results18, go_sem, six0 T3.out, six1 T3.out, six2 T3.out, six3 T3.out, six4 T3.out, six5 T3.out]) rfl ⟨⟨_, rfl, .inr ⟨k, _, HF.out, rfl, _, _, _, rfl⟩⟩, six_below HB5.out (by omega) _ _ _ _ _ _⟩

set_option maxHeartbeats 1000000 in
theorem first_takesF {P : Nat → Prop} (now : Int) (v1 v2 v3 v4 v5 v6 v7 v8 v9 v10 v11 : Value) (ds : List Dd) (h : Int) (w : World) (hI : DdsP P w v11 ds) :
    Calls Tryz.prog 18 #[.agg #[.int .i64 now, v1, v2, v3, v4, v5, v6, v7, v8, v9, v10, v11], .int .i64 h, .func (.func 53) #[] #[]] w fun e w' => (∃ u, e = .returned u ∧ ((firstAt (fun d => namesF d h && takesF d) ds = none ∧ u = .tuple #[.agg #[.int .i64 0, .int .i64 0, .int .i64 0, .int .i64 (-1), .int .i64 0, .slice none 0 0], .bool false]) ∨
      ∃ k v, firstAt (fun d => namesF d h && takesF d) ds = some k ∧ u = .tuple #[.agg #[.int .i64 (gd ds k).cpu, .int .i64 (gd ds k).op, .int .i64 (gd ds k).frm, .int .i64 (gd ds k).to, .int .i64 (gd ds k).e, v], .bool true] ∧ ∃ va vn vc, v = .slice va vn vc)) ∧ Below w.heap.size w w' := by
  obtain ⟨a, c, rfl, hlc, hcm⟩ := hI.form
  unfold maxLen at hcm
  obtain ⟨len, hlen⟩ : ∃ len, len = ds.length := ⟨_, rfl⟩
  have HL := Lib.hid hlen
  rw [← hlen] at hlc hI ⊢
  have HI := Lib.hid hI
  clear hlen hI
  go_enter Tryz.func18, Tryz.ntmps18
  go_wp2_with fail
  obtain ⟨w4, hw4⟩ : ∃ w4, w4 = (((w.alloc (.cells #[.int .i64 now, v1, v2, v3, v4, v5, v6, v7, v8, v9, v10, .slice a len c] 28)).alloc (.cells #[.int .i64 h] 3)).alloc (.cells #[.func (.func 53) #[] #[]] 78)).alloc (.cells #[.int .i64 0, .int .i64 0, .int .i64 0, .int .i64 0, .int .i64 0, .slice none 0 0] 73) := ⟨_, rfl⟩
  have hb4 : Below w.heap.size w w4 := by rw [hw4]; exact (((below_alloc w _).alloc (by simp) _).alloc (by simp; omega) _).alloc (by simp; omega) _
  have s11 : w4.cell? ⟨w.heap.size, 11, none⟩ = some (.slice a len c) := by rw [hw4]; go_simp
  have s1 : w4.cell? ⟨w.heap.size + 1, 0, none⟩ = some (.int .i64 h) := by rw [hw4]; go_simp
  have s2 : w4.cell? ⟨w.heap.size + 1 + 1, 0, none⟩ = some (.func (.func 53) #[] #[]) := by rw [hw4]; go_simp
  have s3 : w4.heap[w.heap.size + 1 + 1 + 1]? = some (.cells #[.int .i64 0, .int .i64 0, .int .i64 0, .int .i64 0, .int .i64 0, .slice none 0 0] 73 (0, 0)) := by
    rw [hw4]; have := World.alloc_heap_new (((w.alloc (.cells #[.int .i64 now, v1, v2, v3, v4, v5, v6, v7, v8, v9, v10, .slice a len c] 28)).alloc (.cells #[.int .i64 h] 3)).alloc (.cells #[.func (.func 53) #[] #[]] 78)) (.cells #[.int .i64 0, .int .i64 0, .int .i64 0, .int .i64 0, .int .i64 0, .slice none 0 0] 73); simpa using this
  have hsz : w4.heap.size = w.heap.size + 1 + 1 + 1 + 1 := by rw [hw4]; simp
  rw [← hw4]
  clear hw4
  have HI4 := Lib.hid (HI.out.below hb4)
  refine (indexDids_takesF _ ds h (w.heap.size + 1) (w.heap.size + 1 + 1) w4 HI4.out s1 s2).mono ?_
  rintro e w5 ⟨⟨r, rfl, hr⟩, hb⟩
  have HB5 := Lib.hid (below_on hb4 (Nat.le_refl _) hb)
  have t11 := (hb.cell (p := ⟨w.heap.size, 11, none⟩) (by rw [hsz]; show w.heap.size < _; omega)).trans s11
  have t3 := (hb.block (w.heap.size + 1 + 1 + 1) (by omega)).trans s3
  have T3 := Lib.hid t3
  have HI5 := Lib.hid (HI4.out.below hb)
  have hsz5 := hb.size
  clear hb4 s11 s1 s2 s3 hb t3
  have c0 := (cell_of_heap T3.out 0).1
  have c1 := (cell_of_heap T3.out 1).1
  have c2 := (cell_of_heap T3.out 2).1
  have c3 := (cell_of_heap T3.out 3).1
  have c4 := (cell_of_heap T3.out 4).1
  have c5 := (cell_of_heap T3.out 5).1
  have f0 := (cell_of_heap T3.out 0).2
  have f1 := (cell_of_heap T3.out 1).2
  have f2 := (cell_of_heap T3.out 2).2
  have f3 := (cell_of_heap T3.out 3).2
  have f4 := (cell_of_heap T3.out 4).2
  have f5 := (cell_of_heap T3.out 5).2
  simp at c0 c1 c2 c3 c4 c5
  rcases hr with ⟨rfl, hf⟩ | ⟨k, hk, rfl, hf⟩
  · have HF := Lib.hid hf
    clear hf
    go_wp2
    refine bodyPost_ret (v := .tuple #[.agg #[.int .i64 0, .int .i64 0, .int .i64 0, .int .i64 (-1), .int .i64 0, .slice none 0 0], .bool false]) (by simp [results, Tryz.results18, go_sem, six0 T3.out, six1 T3.out, six2 T3.out, six3 T3.out, six4 T3.out, six5 T3.out]) rfl ⟨⟨_, rfl, .inl ⟨HF.out, rfl⟩⟩, six_below HB5.out (by omega) _ _ _ _ _ _⟩
  · have HF := Lib.hid hf
    clear hf
    obtain ⟨b, off, v, rfl, q0, q1, q2, q3, q4, q5, hv⟩ := HI5.out.at (j := k) (by omega)
    obtain ⟨va, vc, rfl, _, _⟩ := hv.form
    rw [← HL.out] at hk
    go_wp2
    refine bodyPost_ret (v := .tuple #[.agg #[.int .i64 (gd ds k).cpu, .int .i64 (gd ds k).op, .int .i64 (gd ds k).frm, .int .i64 (gd ds k).to, .int .i64 (gd ds k).e, .slice va (gd ds k).hs.length vc], .bool true]) (by simp [results, Tryz.results18, go_sem, six0 T3.out, six1 T3.out, six2 T3.out, six3 T3.out, six4 T3.out, six5 T3.out]) rfl ⟨⟨_, rfl, .inr ⟨k, _, HF.out, rfl, _, _, _, rfl⟩⟩, six_below HB5.out (by omega) _ _ _ _ _ _⟩
end Go.Proofs.YtcpafphgkbfahaaGreat
