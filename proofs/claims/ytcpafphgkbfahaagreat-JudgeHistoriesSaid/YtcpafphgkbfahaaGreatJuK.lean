/- judge.History. Conditions: what lies in memory. -/
import Derived.Test.YtcpafphgkbfahaaGreatJuJ
namespace Go.Proofs.YtcpafphgkbfahaaGreat
open Go.RowKit Go.Shelf
set_option linter.unusedVariables false
set_option linter.unusedSimpArgs false
theorem cells12a {W : World} {X : Nat} {t : TypeId} {b0 b1 b2 b3 b4 b5 b6 b7 b8 b9 b10 b11 : Value} (h : W.heap[X]? = some (.cells #[b0, b1, b2, b3, b4, b5, b6, b7, b8, b9, b10, b11] t (0, 0))) : ((∀ o, (W.alloc o).cell? ⟨X, 0, none⟩ = some b0) ∧ ∀ o, (W.alloc o).frozen? ⟨X, 0, none⟩ = false) ∧ ((∀ o, (W.alloc o).cell? ⟨X, 1, none⟩ = some b1) ∧ ∀ o, (W.alloc o).frozen? ⟨X, 1, none⟩ = false) ∧ ((∀ o, (W.alloc o).cell? ⟨X, 2, none⟩ = some b2) ∧ ∀ o, (W.alloc o).frozen? ⟨X, 2, none⟩ = false) ∧ ((∀ o, (W.alloc o).cell? ⟨X, 3, none⟩ = some b3) ∧ ∀ o, (W.alloc o).frozen? ⟨X, 3, none⟩ = false) ∧ ((∀ o, (W.alloc o).cell? ⟨X, 4, none⟩ = some b4) ∧ ∀ o, (W.alloc o).frozen? ⟨X, 4, none⟩ = false) ∧ ((∀ o, (W.alloc o).cell? ⟨X, 5, none⟩ = some b5) ∧ ∀ o, (W.alloc o).frozen? ⟨X, 5, none⟩ = false) ∧ ((∀ o, (W.alloc o).cell? ⟨X, 6, none⟩ = some b6) ∧ ∀ o, (W.alloc o).frozen? ⟨X, 6, none⟩ = false) ∧ ((∀ o, (W.alloc o).cell? ⟨X, 7, none⟩ = some b7) ∧ ∀ o, (W.alloc o).frozen? ⟨X, 7, none⟩ = false) ∧ ((∀ o, (W.alloc o).cell? ⟨X, 8, none⟩ = some b8) ∧ ∀ o, (W.alloc o).frozen? ⟨X, 8, none⟩ = false) ∧ ((∀ o, (W.alloc o).cell? ⟨X, 9, none⟩ = some b9) ∧ ∀ o, (W.alloc o).frozen? ⟨X, 9, none⟩ = false) ∧ ((∀ o, (W.alloc o).cell? ⟨X, 10, none⟩ = some b10) ∧ ∀ o, (W.alloc o).frozen? ⟨X, 10, none⟩ = false) ∧ ((∀ o, (W.alloc o).cell? ⟨X, 11, none⟩ = some b11) ∧ ∀ o, (W.alloc o).frozen? ⟨X, 11, none⟩ = false) := by
  have k : ∀ o, (W.alloc o).heap[X]? = some (.cells #[b0, b1, b2, b3, b4, b5, b6, b7, b8, b9, b10, b11] t (0, 0)) := fun o => heap_alloc_past W o h
  refine ⟨⟨fun o => by simpa using (cell_of_heap (k o) 0).1, fun o => (cell_of_heap (k o) 0).2⟩, ⟨fun o => by simpa using (cell_of_heap (k o) 1).1, fun o => (cell_of_heap (k o) 1).2⟩, ⟨fun o => by simpa using (cell_of_heap (k o) 2).1, fun o => (cell_of_heap (k o) 2).2⟩, ⟨fun o => by simpa using (cell_of_heap (k o) 3).1, fun o => (cell_of_heap (k o) 3).2⟩, ⟨fun o => by simpa using (cell_of_heap (k o) 4).1, fun o => (cell_of_heap (k o) 4).2⟩, ⟨fun o => by simpa using (cell_of_heap (k o) 5).1, fun o => (cell_of_heap (k o) 5).2⟩, ⟨fun o => by simpa using (cell_of_heap (k o) 6).1, fun o => (cell_of_heap (k o) 6).2⟩, ⟨fun o => by simpa using (cell_of_heap (k o) 7).1, fun o => (cell_of_heap (k o) 7).2⟩, ⟨fun o => by simpa using (cell_of_heap (k o) 8).1, fun o => (cell_of_heap (k o) 8).2⟩, ⟨fun o => by simpa using (cell_of_heap (k o) 9).1, fun o => (cell_of_heap (k o) 9).2⟩, ⟨fun o => by simpa using (cell_of_heap (k o) 10).1, fun o => (cell_of_heap (k o) 10).2⟩, ⟨fun o => by simpa using (cell_of_heap (k o) 11).1, fun o => (cell_of_heap (k o) 11).2⟩⟩
theorem cells3a {W : World} {X : Nat} {t : TypeId} {b0 b1 b2 : Value} (h : W.heap[X]? = some (.cells #[b0, b1, b2] t (0, 0))) : ((∀ o, (W.alloc o).cell? ⟨X, 0, none⟩ = some b0) ∧ ∀ o, (W.alloc o).frozen? ⟨X, 0, none⟩ = false) ∧ ((∀ o, (W.alloc o).cell? ⟨X, 1, none⟩ = some b1) ∧ ∀ o, (W.alloc o).frozen? ⟨X, 1, none⟩ = false) ∧ ((∀ o, (W.alloc o).cell? ⟨X, 2, none⟩ = some b2) ∧ ∀ o, (W.alloc o).frozen? ⟨X, 2, none⟩ = false) := by
  have k : ∀ o, (W.alloc o).heap[X]? = some (.cells #[b0, b1, b2] t (0, 0)) := fun o => heap_alloc_past W o h
  refine ⟨⟨fun o => by simpa using (cell_of_heap (k o) 0).1, fun o => (cell_of_heap (k o) 0).2⟩, ⟨fun o => by simpa using (cell_of_heap (k o) 1).1, fun o => (cell_of_heap (k o) 1).2⟩, ⟨fun o => by simpa using (cell_of_heap (k o) 2).1, fun o => (cell_of_heap (k o) 2).2⟩⟩
theorem cells5a {W : World} {X : Nat} {t : TypeId} {b0 b1 b2 b3 b4 : Value} (h : W.heap[X]? = some (.cells #[b0, b1, b2, b3, b4] t (0, 0))) : ((∀ o, (W.alloc o).cell? ⟨X, 0, none⟩ = some b0) ∧ ∀ o, (W.alloc o).frozen? ⟨X, 0, none⟩ = false) ∧ ((∀ o, (W.alloc o).cell? ⟨X, 1, none⟩ = some b1) ∧ ∀ o, (W.alloc o).frozen? ⟨X, 1, none⟩ = false) ∧ ((∀ o, (W.alloc o).cell? ⟨X, 2, none⟩ = some b2) ∧ ∀ o, (W.alloc o).frozen? ⟨X, 2, none⟩ = false) ∧ ((∀ o, (W.alloc o).cell? ⟨X, 3, none⟩ = some b3) ∧ ∀ o, (W.alloc o).frozen? ⟨X, 3, none⟩ = false) ∧ ((∀ o, (W.alloc o).cell? ⟨X, 4, none⟩ = some b4) ∧ ∀ o, (W.alloc o).frozen? ⟨X, 4, none⟩ = false) := by
  have k : ∀ o, (W.alloc o).heap[X]? = some (.cells #[b0, b1, b2, b3, b4] t (0, 0)) := fun o => heap_alloc_past W o h
  refine ⟨⟨fun o => by simpa using (cell_of_heap (k o) 0).1, fun o => (cell_of_heap (k o) 0).2⟩, ⟨fun o => by simpa using (cell_of_heap (k o) 1).1, fun o => (cell_of_heap (k o) 1).2⟩, ⟨fun o => by simpa using (cell_of_heap (k o) 2).1, fun o => (cell_of_heap (k o) 2).2⟩, ⟨fun o => by simpa using (cell_of_heap (k o) 3).1, fun o => (cell_of_heap (k o) 3).2⟩, ⟨fun o => by simpa using (cell_of_heap (k o) 4).1, fun o => (cell_of_heap (k o) 4).2⟩⟩
theorem cells5 {W : World} {X : Nat} {t : TypeId} {b0 b1 b2 b3 b4 : Value} (h : W.heap[X]? = some (.cells #[b0, b1, b2, b3, b4] t (0, 0))) : (W.cell? ⟨X, 0, none⟩ = some b0 ∧ W.frozen? ⟨X, 0, none⟩ = false) ∧ (W.cell? ⟨X, 1, none⟩ = some b1 ∧ W.frozen? ⟨X, 1, none⟩ = false) ∧ (W.cell? ⟨X, 2, none⟩ = some b2 ∧ W.frozen? ⟨X, 2, none⟩ = false) ∧ (W.cell? ⟨X, 3, none⟩ = some b3 ∧ W.frozen? ⟨X, 3, none⟩ = false) ∧ (W.cell? ⟨X, 4, none⟩ = some b4 ∧ W.frozen? ⟨X, 4, none⟩ = false) := by
  refine ⟨⟨by simpa using (cell_of_heap h 0).1, (cell_of_heap h 0).2⟩, ⟨by simpa using (cell_of_heap h 1).1, (cell_of_heap h 1).2⟩, ⟨by simpa using (cell_of_heap h 2).1, (cell_of_heap h 2).2⟩, ⟨by simpa using (cell_of_heap h 3).1, (cell_of_heap h 3).2⟩, ⟨by simpa using (cell_of_heap h 4).1, (cell_of_heap h 4).2⟩⟩
theorem cells3 {W : World} {X : Nat} {t : TypeId} {b0 b1 b2 : Value} (h : W.heap[X]? = some (.cells #[b0, b1, b2] t (0, 0))) : (W.cell? ⟨X, 0, none⟩ = some b0 ∧ W.frozen? ⟨X, 0, none⟩ = false) ∧ (W.cell? ⟨X, 1, none⟩ = some b1 ∧ W.frozen? ⟨X, 1, none⟩ = false) ∧ (W.cell? ⟨X, 2, none⟩ = some b2 ∧ W.frozen? ⟨X, 2, none⟩ = false) := by
  refine ⟨⟨by simpa using (cell_of_heap h 0).1, (cell_of_heap h 0).2⟩, ⟨by simpa using (cell_of_heap h 1).1, (cell_of_heap h 1).2⟩, ⟨by simpa using (cell_of_heap h 2).1, (cell_of_heap h 2).2⟩⟩

theorem info37 : (Tryz.prog.info? 37).map (fun i => (i.zero, i.size, i.bytes)) = some (some (.agg #[.int .i64 0, .int .i64 0, .int .i64 0, .int .i64 0, .int .i64 0, .int .i64 0]), 6, 48) := by kernel_rfl
set_option maxHeartbeats 400000 in
theorem object_c (x0 x1 x2 x3 : Int) (x4 : Bool) (w : World) :
    Calls Tryz.prog 17 #[.agg #[.int .i64 x0, .int .i64 x1, .int .i64 x2, .int .i64 x3, .bool x4]] w fun e w' => e = .returned (.agg #[.int .i64 x0, .int .i64 x1, .int .i64 x2]) ∧ Below w.heap.size w w' := by
  have hb := below_alloc w (.cells #[.int .i64 x0, .int .i64 x1, .int .i64 x2, .int .i64 x3, .bool x4] 70)
  have hb2 : ∀ o, Below w.heap.size w ((w.alloc (.cells #[.int .i64 x0, .int .i64 x1, .int .i64 x2, .int .i64 x3, .bool x4] 70)).alloc o) := fun o => hb.alloc hb.size o
  have HB := Lib.hid hb
  have HB2 := Lib.hid hb2
  clear hb hb2
  go_enter Tryz.func17, Tryz.ntmps17
  go_wp2
  refine bodyPost_ret (v := .agg #[.int .i64 x0, .int .i64 x1, .int .i64 x2]) (by simp [results, Tryz.results17, go_sem]) rfl ⟨rfl, ?_⟩
  first | exact HB.out | exact HB2.out _
theorem firstGive_c {P : Nat → Prop} (now : Int) (v1 v2 v3 v4 v5 v6 v7 v8 v9 v10 v11 : Value) (ds : List Dd) (h : Int) (w : World) (hI : DdsP P w v11 ds) :
    Calls Tryz.prog 18 #[.agg #[.int .i64 now, v1, v2, v3, v4, v5, v6, v7, v8, v9, v10, v11], .int .i64 h, .func (.func 19) #[] #[]] w fun e w' =>
      (∃ x0 x1 x4 va vn vc b, e = .returned (.tuple #[.agg #[.int .i64 x0, .int .i64 x1, .int .i64 (giveFT ds h).1, .int .i64 (giveFT ds h).2, .int .i64 x4, .slice va vn vc], .bool b])) ∧ Below w.heap.size w w' := by
  refine (first_givesF now v1 v2 v3 v4 v5 v6 v7 v8 v9 v10 v11 ds h w hI).mono ?_
  rintro e w' ⟨⟨u, rfl, hu⟩, hb⟩
  refine ⟨?_, hb⟩
  rcases hu with ⟨hf, rfl⟩ | ⟨k, v, hf, rfl, va, vn, vc, rfl⟩
  · exact ⟨0, 0, 0, none, 0, 0, false, by unfold giveFT; rw [hf]⟩
  · exact ⟨_, _, _, va, vn, vc, true, by unfold giveFT; rw [hf]⟩
theorem heap_alloc_new2 (W : World) (o o' : Obj) : ((W.alloc o).alloc o').heap[W.heap.size + 1]? = some o' := by
  have := heap_alloc_new (W.alloc o) o'; rwa [World.size_alloc] at this
theorem owns_mono {w : World} {base base' : Nat} {e : TypeId} {size : Nat} {v : Value} {n : Nat} {xs : List Value} (h : w.ownsRow base e size v n xs) (hb : base' ≤ base) : w.ownsRow base' e size v n xs := by
  refine ⟨h.1, h.2.imp id ?_⟩
  rintro ⟨g, cap, cur, e1, e2, r⟩
  exact ⟨g, cap, cur, e1, Nat.le_trans hb e2, r⟩
def spC (x : Sp) : List Value := [.int .i64 x.kind, .int .i64 x.cache, .int .i64 x.slab, .int .i64 x.obj, .int .i64 x.frm, .int .i64 x.to]
def spsC (l : List Sp) : List Value := l.flatMap spC
theorem spsC_snoc (l : List Sp) (x : Sp) : spsC (l ++ [x]) = spsC l ++ spC x := by simp [spsC]
theorem sp_one (x : Sp) : ∀ u ∈ spC x, u.oneCell' = true := by intro u hu; simp [spC] at hu; rcases hu with rfl | rfl | rfl | rfl | rfl | rfl <;> rfl
theorem owns_sp {w : World} {base g cap n : Nat} {l : List Sp} {x : Sp} (hn : n = l.length) (h : w.ownsRow base 37 6 (.slice (some ⟨g, 0, none⟩) (n + 1) cap) (n + 1) (spsC l ++ spC x)) : w.ownsRow base 37 6 (.slice (some ⟨g, 0, none⟩) (n + 1) cap) (l ++ [x]).length (spsC (l ++ [x])) := by
  rw [spsC_snoc, List.length_append, ← hn]; exact h

set_option maxRecDepth 100000 in
set_option maxHeartbeats 8000000 in
theorem history_c {P : Nat → Prop} (v1 v2 v3 v4 v5 v6 v7 v8 v9 v10 v11 : Value) (S : Sn) (w : World) (hS : SnP P w v1 v2 v3 v4 v5 v6 v7 v8 v9 v10 v11 S) (hF : Fits S) (h150 : S.handles.length ≤ 150) :
    Calls Tryz.prog 7 #[.agg #[.int .i64 S.now, v1, v2, v3, v4, v5, v6, v7, v8, v9, v10, v11]] w fun e w' => (∃ v l, e = .returned v ∧ (ShapedJ S → l = histN S S.handles.length) ∧ (¬ ShapedJ S → l = []) ∧ w'.ownsRow w.heap.size 37 6 v l.length (spsC l)) ∧ Below w.heap.size w w' := by
  obtain ⟨i0, hi0, z1, z2, z3⟩ := info_parts info37
  obtain ⟨a1, c1, e1, l1, k1⟩ := hS.d.form
  obtain ⟨a2, c2, e2, l2, k2⟩ := hS.p.form
  obtain ⟨a3, c3, e3, l3, k3⟩ := hS.u.form
  obtain ⟨a4, c4, e4, l4, k4⟩ := hS.m.form
  obtain ⟨a5, c5, e5, l5, k5⟩ := hS.o.form
  obtain ⟨a6, c6, e6, l6, k6⟩ := hS.h.form
  obtain ⟨a7, c7, e7, l7, k7⟩ := hS.f.form
  obtain ⟨a8, c8, e8, l8, k8⟩ := hS.t.form
  obtain ⟨a9, c9, e9, l9, k9⟩ := hS.c.form
  obtain ⟨a10, c10, e10, l10, k10⟩ := hS.hs.form
  obtain ⟨a11, c11, e11, l11, k11⟩ := hS.ds.form
  subst e1 e2 e3 e4 e5 e6 e7 e8 e9 e10 e11
  unfold maxLen at k1 k2 k3 k4 k5 k6 k7 k8 k9 k10 k11
  obtain ⟨n1, h1⟩ : ∃ n, n = S.depths.length := ⟨_, rfl⟩
  obtain ⟨n2, h2⟩ : ∃ n, n = S.paths.length := ⟨_, rfl⟩
  obtain ⟨n3, h3⟩ : ∃ n, n = S.used.length := ⟨_, rfl⟩
  obtain ⟨n4, h4⟩ : ∃ n, n = S.most.length := ⟨_, rfl⟩
  obtain ⟨n5, h5⟩ : ∃ n, n = S.owned.length := ⟨_, rfl⟩
  obtain ⟨n6, h6⟩ : ∃ n, n = S.held.length := ⟨_, rfl⟩
  obtain ⟨n7, h7⟩ : ∃ n, n = S.flies.length := ⟨_, rfl⟩
  obtain ⟨n8, h8⟩ : ∃ n, n = S.tags.length := ⟨_, rfl⟩
  obtain ⟨n9, h9⟩ : ∃ n, n = S.caches.length := ⟨_, rfl⟩
  obtain ⟨n10, h10⟩ : ∃ n, n = S.handles.length := ⟨_, rfl⟩
  obtain ⟨n11, h11⟩ : ∃ n, n = S.dids.length := ⟨_, rfl⟩
  rw [← h1, ← h2, ← h3, ← h4, ← h5, ← h6, ← h7, ← h8, ← h9, ← h10, ← h11] at hS
  rw [← h1] at l1
  have H1 := Lib.hid h1
  rw [← h2] at l2
  have H2 := Lib.hid h2
  rw [← h3] at l3
  have H3 := Lib.hid h3
  rw [← h4] at l4
  have H4 := Lib.hid h4
  rw [← h5] at l5
  have H5 := Lib.hid h5
  rw [← h6] at l6
  have H6 := Lib.hid h6
  rw [← h7] at l7
  have H7 := Lib.hid h7
  rw [← h8] at l8
  have H8 := Lib.hid h8
  rw [← h9] at l9
  have H9 := Lib.hid h9
  rw [← h10] at l10 h150 ⊢
  have H10 := Lib.hid h10
  rw [← h11] at l11
  have H11 := Lib.hid h11
  rw [← h1, ← h2, ← h3, ← h4, ← h5, ← h6, ← h7, ← h8, ← h9, ← h11]
  clear h1 h2 h3 h4 h5 h6 h7 h8 h9 h10 h11
  obtain ⟨w1, hw1⟩ : ∃ w1, w1 = w.alloc (.cells #[.int .i64 S.now, .slice a1 n1 c1, .slice a2 n2 c2, .slice a3 n3 c3, .slice a4 n4 c4, .slice a5 n5 c5, .slice a6 n6 c6, .slice a7 n7 c7, .slice a8 n8 c8, .slice a9 n9 c9, .slice a10 n10 c10, .slice a11 n11 c11] 28) := ⟨_, rfl⟩
  have hb1 : Below w.heap.size w w1 := by rw [hw1]; exact below_alloc _ _
  have hs1 : w1.heap.size = w.heap.size + 1 := by rw [hw1]; simp
  have t1 : w1.heap[w.heap.size]? = some (.cells #[.int .i64 S.now, .slice a1 n1 c1, .slice a2 n2 c2, .slice a3 n3 c3, .slice a4 n4 c4, .slice a5 n5 c5, .slice a6 n6 c6, .slice a7 n7 c7, .slice a8 n8 c8, .slice a9 n9 c9, .slice a10 n10 c10, .slice a11 n11 c11] 28 (0, 0)) := by rw [hw1]; exact World.alloc_heap_new _ _
  have hSH := shaped_c _ _ _ _ _ _ _ _ _ _ _ S w1 (hS.below hb1) hF
  have HS := Lib.hid hS
  have HSH := Lib.hid hSH
  have HF := Lib.hid hF
  have HB1 := Lib.hid hb1
  have T1 := Lib.hid t1
  clear hS hSH hF hb1
  obtain ⟨⟨y0, _⟩, ⟨y1, _⟩, ⟨y2, _⟩, ⟨y3, _⟩, ⟨y4, _⟩, ⟨y5, _⟩, ⟨y6, _⟩, ⟨y7, _⟩, ⟨y8, _⟩, ⟨y9, _⟩, ⟨y10, _⟩, y11, _⟩ := cells12 t1
  clear t1
  go_enter Tryz.func7, Tryz.ntmps7
  go_wp2_with fail
  rw [← hw1]
  clear hw1
  refine HSH.out.mono ?_
  rintro e w2 ⟨⟨bs, rfl, hbs⟩, hb⟩
  have HBS := Lib.hid hbs
  have HB2 := Lib.hid (below_on HB1.out (Nat.le_refl _) hb)
  have T2 := Lib.hid ((hb.block w.heap.size (by omega)).trans T1.out)
  have hs2 := hb.size
  clear hbs hb HSH y0 y1 y2 y3 y4 y5 y6 y7 y8 y9 y10 y11
  cases bs with
  | false =>
    have hn : ¬ ShapedJ S := fun h => by cases HBS.out.2 h
    have HN := Lib.hid hn
    clear hn
    go_wp2
    go_ret
    exact ⟨⟨_, [], rfl, fun h => absurd h HN.out, fun _ => rfl, World.ownsRow_nil _ _ _ _⟩, HB2.out⟩
  | true =>
    have hsh : ShapedJ S := HBS.out.1 (by trivial)
    have HSJ := Lib.hid hsh
    have HFR : Hid (∀ j, j < S.dids.length → 0 ≤ (gd S.dids j).frm) := fun j hj => (hsh.2.2.2.2.2 j hj).2.2.1.1
    obtain ⟨z10, _⟩ : w2.cell? ⟨w.heap.size, 10, none⟩ = some (.slice a10 n10 c10) ∧ True := ⟨(cell_of_heap T2.out 10).1, trivial⟩
    clear hsh T1 HB1
    go_wp2
    clear z10
    go_loopw [14, 2] (fun i out wr => ∃ (k : Nat) (v : Value), k ≤ n10 ∧ i = .int .i64 k ∧ v = out ∧ wr.ownsRow (w.heap.size + 1) 37 6 v (histN S k).length (spsC (histN S k)) ∧ w.heap.size + 1 ≤ wr.heap.size ∧
      wr.heap[w.heap.size]? = some (.cells #[.int .i64 S.now, .slice a1 n1 c1, .slice a2 n2 c2, .slice a3 n3 c3, .slice a4 n4 c4, .slice a5 n5 c5, .slice a6 n6 c6, .slice a7 n7 c7, .slice a8 n8 c8, .slice a9 n9 c9, .slice a10 n10 c10, .slice a11 n11 c11] 28 (0, 0)) ∧ Below w.heap.size w wr) (fun i _ _ => n10 - (intOf i).toNat)
    case atStart => exact ⟨0, _, Nat.zero_le _, rfl, rfl, World.ownsRow_nil _ _ _ _, by omega, T2.out, HB2.out⟩
    case round =>
      obtain ⟨k, v, hk, rfl, rfl, hrow, hsr, hT, hB⟩ := hrel
      have hlen := histN_length S k
      obtain ⟨ln, hln⟩ : ∃ ln, ln = (histN S k).length := ⟨_, rfl⟩
      rw [← hln] at hrow hlen
      have HLN := Lib.hid hln
      have HLT0 := Lib.hid hrow.lt
      have HROW := Lib.hid hrow
      clear hln
      have T := Lib.hid hT
      have HIr := Lib.hid (HS.out.below hB)
      have HB := Lib.hid hB
      clear hrow hT hB HB2 T2
      by_cases hlt : k < n10
      · obtain ⟨b, off, rfl, q0, q1, q2, q3, q4⟩ := HIr.out.hs.at (j := k) (by rw [← H10.out]; exact hlt)
        obtain ⟨hd, hhd⟩ : ∃ hd, hd = gh S.handles k := ⟨_, rfl⟩
        rw [← hhd] at q0 q1 q2 q3 q4
        have HHD := Lib.hid hhd
        clear hhd HIr
        obtain ⟨wA, hwA⟩ : ∃ wA, wA = wr.alloc (.cells #[.int .i64 hd.cache, .int .i64 hd.slab, .int .i64 hd.obj, .int .i64 hd.group, .bool hd.out] 70) := ⟨_, rfl⟩
        have hbA : Below wr.heap.size wr wA := by rw [hwA]; exact below_alloc _ _
        have hsA : wA.heap.size = wr.heap.size + 1 := by rw [hwA, World.size_alloc]
        have hA4 : wA.heap[wr.heap.size]? = some (.cells #[.int .i64 hd.cache, .int .i64 hd.slab, .int .i64 hd.obj, .int .i64 hd.group, .bool hd.out] 70 (0, 0)) := by rw [hwA]; exact World.alloc_heap_new _ _
        go_wp2_with fail
        rw [← hwA]
        clear hwA q0 q1 q2 q3 q4
        refine (object_c _ _ _ _ _ wA).mono ?_
        rintro e wB ⟨rfl, hb⟩
        have hsB := hb.size
        have tB := (hb.block w.heap.size (by omega)).trans ((hbA.block w.heap.size (by omega)).trans T.out)
        have hB4 := (hb.block wr.heap.size (by omega)).trans hA4
        have hAB := below_on hbA (Nat.le_refl _) hb
        have HROWB := Lib.hid (owns_below HROW.out hAB)
        have HBB := Lib.hid (below_then HB.out (below_low hAB HB.out.size))
        have TB := Lib.hid tB
        have HB4 := Lib.hid hB4
        clear hbA hA4 hb hB4
        obtain ⟨⟨y0, _⟩, ⟨y1, _⟩, ⟨y2, _⟩, ⟨y3, _⟩, ⟨y4, _⟩, ⟨y5, _⟩, ⟨y6, _⟩, ⟨y7, _⟩, ⟨y8, _⟩, ⟨y9, _⟩, ⟨y10, _⟩, y11, _⟩ := cells12a tB
        obtain ⟨wC, hwC⟩ : ∃ wC, wC = wB.alloc (.cells #[.int .i64 hd.cache, .int .i64 hd.slab, .int .i64 hd.obj] 33) := ⟨_, rfl⟩
        have hbC : Below wB.heap.size wB wC := by rw [hwC]; exact below_alloc _ _
        have hsC : wC.heap.size = wB.heap.size + 1 := by rw [hwC, World.size_alloc]
        have hC5 : wC.heap[wB.heap.size]? = some (.cells #[.int .i64 hd.cache, .int .i64 hd.slab, .int .i64 hd.obj] 33 (0, 0)) := by rw [hwC]; exact World.alloc_heap_new _ _
        go_wp2_with fail
        rw [← hwC]
        clear hwC y0 y1 y2 y3 y4 y5 y6 y7 y8 y9 y10 y11 tB
        have HBC := Lib.hid (below_then HBB.out (below_low hbC HBB.out.size))
        refine (firstGive_c _ _ _ _ _ _ _ _ _ _ _ _ S.dids (k : Int) wC (HS.out.below HBC.out).ds).mono ?_
        rintro e wD ⟨⟨x0, x1, x4, va, vn, vc, bb, rfl⟩, hb⟩
        have hsD := hb.size
        have hCD := below_on hbC (Nat.le_refl _) hb
        have tD := (hCD.block w.heap.size (by omega)).trans TB.out
        have hD4 := (hCD.block wr.heap.size (by omega)).trans HB4.out
        have hD5 := (hb.block wB.heap.size (by omega)).trans hC5
        have HROWD := Lib.hid (owns_below HROWB.out hCD)
        have HBD := Lib.hid (below_then HBB.out (below_low hCD HBB.out.size))
        have TD := Lib.hid tD
        have HD4 := Lib.hid hD4
        have HD5 := Lib.hid hD5
        clear hbC hC5 hb hCD tD hD4 HROWB HROW TB HB4 HBC HBB
        obtain ⟨⟨y0, _⟩, ⟨y1, _⟩, y2, _⟩ := cells3a hD5
        clear hD5
        have HGS : Hid (spC (spG S k) = [.int .i64 1, .int .i64 hd.cache, .int .i64 hd.slab, .int .i64 hd.obj, .int .i64 (giveFT S.dids (k : Int)).1, .int .i64 (giveFT S.dids (k : Int)).2]) := by unfold Hid; rw [HHD.out]; rfl
        have HTS : Hid (spC (spT S k) = [.int .i64 3, .int .i64 hd.cache, .int .i64 hd.slab, .int .i64 hd.obj, .int .i64 (takeFT S.dids (k : Int)).1, .int .i64 (takeFT S.dids (k : Int)).2]) := by unfold Hid; rw [HHD.out]; rfl
        go_wp2_with (at_builtin; refine wpList_append_lies _ rfl _ _ 30 rfl (w.heap.size + 1) 37 i0 (.agg #[.int .i64 0, .int .i64 0, .int .i64 0, .int .i64 0, .int .i64 0, .int .i64 0]) 6 48 Tryz.underlying30 hi0 z1 z2 z3 rfl (by decide) v ln (spsC (histN S k)) rfl ((HROWD.out.alloc _).alloc _) ⟨wD.heap.size + 1, 0, none⟩ 1 1 [.int .i64 1, .int .i64 hd.cache, .int .i64 hd.slab, .int .i64 hd.obj, .int .i64 (giveFT S.dids (k : Int)).1, .int .i64 (giveFT S.dids (k : Int)).2] rfl rfl (World.news_of_block (cs := #[.int .i64 1, .int .i64 hd.cache, .int .i64 hd.slab, .int .i64 hd.obj, .int .i64 (giveFT S.dids (k : Int)).1, .int .i64 (giveFT S.dids (k : Int)).2]) (t := 37) (fr := (0, 0)) (heap_alloc_new2 wD _ _)) (by simp [Value.oneCell']) (by omega) (by unfold maxLen; omega) (by omega) (by simp only [World.size_alloc]; omega) (wD.heap.size + 1 + 1) (by simp) ?_)
        intro g cap wE hown hgrow hat hlt2
        have hE := hgrow.size
        simp only [World.size_alloc] at hE
        have tE : wE.heap[w.heap.size]? = some (.cells #[.int .i64 S.now, .slice a1 n1 c1, .slice a2 n2 c2, .slice a3 n3 c3, .slice a4 n4 c4, .slice a5 n5 c5, .slice a6 n6 c6, .slice a7 n7 c7, .slice a8 n8 c8, .slice a9 n9 c9, .slice (some ⟨b, off, none⟩) n10 c10, .slice a11 n11 c11] 28 (0, 0)) := (hgrow.block w.heap.size (by simp only [World.size_alloc]; omega) (fun e => by have := HLT0.out _ e.symm; omega)).trans (heap_alloc_past _ _ (heap_alloc_past _ _ TD.out))
        have hE4 : wE.heap[wr.heap.size]? = some (.cells #[.int .i64 hd.cache, .int .i64 hd.slab, .int .i64 hd.obj, .int .i64 hd.group, .bool hd.out] 70 (0, 0)) := (hgrow.block wr.heap.size (by simp only [World.size_alloc]; omega) (fun e => by have := HLT0.out _ e.symm; omega)).trans (heap_alloc_past _ _ (heap_alloc_past _ _ HD4.out))
        have hE5 : wE.heap[wB.heap.size]? = some (.cells #[.int .i64 hd.cache, .int .i64 hd.slab, .int .i64 hd.obj] 33 (0, 0)) := (hgrow.block wB.heap.size (by simp only [World.size_alloc]; omega) (fun e => by have := HLT0.out _ e.symm; omega)).trans (heap_alloc_past _ _ (heap_alloc_past _ _ HD5.out))
        have HBE : Hid (Below w.heap.size w wE) := ((HBD.out.alloc HBD.out.size _).alloc (by rw [World.size_alloc]; have := HBD.out.size; omega) _).grown hgrow (by simp only [World.size_alloc]; have := HBD.out.size; omega) (fun j e => by have := HLT0.out _ e; omega)
        have HOWN := Lib.hid hown
        have HEV : Hid (g < wE.heap.size ∧ w.heap.size + 1 ≤ g) := ⟨hlt2, (hown.lt g rfl).1⟩
        have TE := Lib.hid tE
        clear hown hgrow hat hlt2 HROWD HBD TD HD4 HD5 y0 y1 y2
        obtain ⟨⟨e0, _⟩, ⟨e1, _⟩, ⟨e2, _⟩, ⟨e3, _⟩, e4, _⟩ := cells5 hE4
        obtain ⟨⟨o0, _⟩, ⟨o1, _⟩, o2, _⟩ := cells3 hE5
        obtain ⟨⟨y0, _⟩, ⟨y1, _⟩, ⟨y2, _⟩, ⟨y3, _⟩, ⟨y4, _⟩, ⟨y5, _⟩, ⟨y6, _⟩, ⟨y7, _⟩, ⟨y8, _⟩, ⟨y9, _⟩, ⟨y10, _⟩, y11, _⟩ := cells12 tE
        clear hE4 hE5 tE
        cases ho : hd.out with
        | true =>
          rw [ho] at e4
          have HSTEP : Hid (histN S (k + 1) = histN S k ++ [spG S k]) := by unfold Hid; rw [histN, ← HHD.out, ho]; rfl
          clear ho
          go_wp2
          go_roundw
          case rel => exact ⟨k + 1, _, by omega, by go_num, rfl, by rw [HSTEP.out]; exact owns_sp HLN.out (by rw [HGS.out]; exact HOWN.out), by omega, TE.out, HBE.out⟩
          case measure => simp [intOf]; omega
        | false =>
          rw [ho] at e4
          have HSTEP : Hid (histN S (k + 1) = (histN S k ++ [spG S k]) ++ [spT S k]) := by unfold Hid; rw [histN, ← HHD.out, ho]; simp
          clear ho
          go_wp2_with fail
          refine (taken_c _ _ _ _ _ _ _ _ _ _ _ _ S.dids (k : Int) hd.cache hd.slab hd.obj wE (HS.out.below HBE.out).ds HFR.out).mono ?_
          rintro e wF ⟨rfl, hb⟩
          have hsF := hb.size
          have hTF := (hb.block w.heap.size (by omega)).trans TE.out
          have TF := Lib.hid hTF
          have HROWF := Lib.hid (owns_below HOWN.out hb)
          have HBF := Lib.hid (below_then HBE.out (below_low hb HBE.out.size))
          clear hb hTF e0 e1 e2 e3 e4 o0 o1 o2 y0 y1 y2 y3 y4 y5 y6 y7 y8 y9 y10 y11
          go_wp2_with (at_builtin; refine wpList_append_lies _ rfl _ _ 30 rfl (w.heap.size + 1) 37 i0 (.agg #[.int .i64 0, .int .i64 0, .int .i64 0, .int .i64 0, .int .i64 0, .int .i64 0]) 6 48 Tryz.underlying30 hi0 z1 z2 z3 rfl (by decide) (.slice (some ⟨g, 0, none⟩) (ln + 1) cap) (ln + 1) (spsC (histN S k) ++ [.int .i64 1, .int .i64 hd.cache, .int .i64 hd.slab, .int .i64 hd.obj, .int .i64 (giveFT S.dids (k : Int)).1, .int .i64 (giveFT S.dids (k : Int)).2]) rfl (HROWF.out.alloc _) ⟨wF.heap.size, 0, none⟩ 1 1 [.int .i64 3, .int .i64 hd.cache, .int .i64 hd.slab, .int .i64 hd.obj, .int .i64 (takeFT S.dids (k : Int)).1, .int .i64 (takeFT S.dids (k : Int)).2] rfl rfl (World.news_of_block (cs := #[.int .i64 3, .int .i64 hd.cache, .int .i64 hd.slab, .int .i64 hd.obj, .int .i64 (takeFT S.dids (k : Int)).1, .int .i64 (takeFT S.dids (k : Int)).2]) (t := 37) (fr := (0, 0)) (heap_alloc_new wF _)) (by simp [Value.oneCell']) (by omega) (by unfold maxLen; omega) (by omega) (by rw [World.size_alloc]; omega) (wF.heap.size + 1) (by simp) ?_)
          intro g2 cap2 wG hown hgrow hat hlt2
          have hG := hgrow.size
          simp only [World.size_alloc] at hG
          have TG : Hid (wG.heap[w.heap.size]? = some (.cells #[.int .i64 S.now, .slice a1 n1 c1, .slice a2 n2 c2, .slice a3 n3 c3, .slice a4 n4 c4, .slice a5 n5 c5, .slice a6 n6 c6, .slice a7 n7 c7, .slice a8 n8 c8, .slice a9 n9 c9, .slice (some ⟨b, off, none⟩) n10 c10, .slice a11 n11 c11] 28 (0, 0))) := (hgrow.block w.heap.size (by simp only [World.size_alloc]; omega) (fun e => by have h1 : w.heap.size = g := Option.some.inj e; have := HEV.out; omega)).trans (heap_alloc_past _ _ TF.out)
          have HBG : Hid (Below w.heap.size w wG) := (HBF.out.alloc HBF.out.size _).grown hgrow (by simp only [World.size_alloc]; have := HBF.out.size; omega) (fun j e => by have h1 : g = j := Option.some.inj e; have := HEV.out; omega)
          have HOWG := Lib.hid hown
          clear hown hgrow hat hlt2 HROWF HBF TF HOWN
          go_wp2
          go_roundw
          case rel => exact ⟨k + 1, _, by omega, by go_num, rfl, by rw [HSTEP.out]; exact owns_sp (l := histN S k ++ [spG S k]) (by rw [List.length_append, ← HLN.out]; rfl) (by rw [spsC_snoc, HGS.out, HTS.out]; have := HOWG.out; simpa [List.append_assoc] using this), by omega, TG.out, HBG.out⟩
          case measure => simp [intOf]; omega
      · obtain rfl : k = n10 := by omega
        go_wp2
        go_ret
        exact ⟨⟨_, _, rfl, fun _ => rfl, fun h => absurd HSJ.out h, by rw [← HLN.out]; exact owns_mono HROW.out (by omega)⟩, HB.out⟩
end Go.Proofs.YtcpafphgkbfahaaGreat
