/- judge.shaped. Conditions: what lies in memory. -/
import Derived.Test.YtcpafphgkbfahaaGreatJuI
namespace Go.Proofs.YtcpafphgkbfahaaGreat
open Go.RowKit Go.Shelf
set_option linter.unusedVariables false
set_option linter.unusedSimpArgs false
theorem cells12 {W : World} {X : Nat} {t : TypeId} {b0 b1 b2 b3 b4 b5 b6 b7 b8 b9 b10 b11 : Value} (h : W.heap[X]? = some (.cells #[b0, b1, b2, b3, b4, b5, b6, b7, b8, b9, b10, b11] t (0, 0))) : (W.cell? ⟨X, 0, none⟩ = some b0 ∧ W.frozen? ⟨X, 0, none⟩ = false) ∧ (W.cell? ⟨X, 1, none⟩ = some b1 ∧ W.frozen? ⟨X, 1, none⟩ = false) ∧ (W.cell? ⟨X, 2, none⟩ = some b2 ∧ W.frozen? ⟨X, 2, none⟩ = false) ∧ (W.cell? ⟨X, 3, none⟩ = some b3 ∧ W.frozen? ⟨X, 3, none⟩ = false) ∧ (W.cell? ⟨X, 4, none⟩ = some b4 ∧ W.frozen? ⟨X, 4, none⟩ = false) ∧ (W.cell? ⟨X, 5, none⟩ = some b5 ∧ W.frozen? ⟨X, 5, none⟩ = false) ∧ (W.cell? ⟨X, 6, none⟩ = some b6 ∧ W.frozen? ⟨X, 6, none⟩ = false) ∧ (W.cell? ⟨X, 7, none⟩ = some b7 ∧ W.frozen? ⟨X, 7, none⟩ = false) ∧ (W.cell? ⟨X, 8, none⟩ = some b8 ∧ W.frozen? ⟨X, 8, none⟩ = false) ∧ (W.cell? ⟨X, 9, none⟩ = some b9 ∧ W.frozen? ⟨X, 9, none⟩ = false) ∧ (W.cell? ⟨X, 10, none⟩ = some b10 ∧ W.frozen? ⟨X, 10, none⟩ = false) ∧ (W.cell? ⟨X, 11, none⟩ = some b11 ∧ W.frozen? ⟨X, 11, none⟩ = false) := by
  refine ⟨⟨by simpa using (cell_of_heap h 0).1, (cell_of_heap h 0).2⟩, ⟨by simpa using (cell_of_heap h 1).1, (cell_of_heap h 1).2⟩, ⟨by simpa using (cell_of_heap h 2).1, (cell_of_heap h 2).2⟩, ⟨by simpa using (cell_of_heap h 3).1, (cell_of_heap h 3).2⟩, ⟨by simpa using (cell_of_heap h 4).1, (cell_of_heap h 4).2⟩, ⟨by simpa using (cell_of_heap h 5).1, (cell_of_heap h 5).2⟩, ⟨by simpa using (cell_of_heap h 6).1, (cell_of_heap h 6).2⟩, ⟨by simpa using (cell_of_heap h 7).1, (cell_of_heap h 7).2⟩, ⟨by simpa using (cell_of_heap h 8).1, (cell_of_heap h 8).2⟩, ⟨by simpa using (cell_of_heap h 9).1, (cell_of_heap h 9).2⟩, ⟨by simpa using (cell_of_heap h 10).1, (cell_of_heap h 10).2⟩, ⟨by simpa using (cell_of_heap h 11).1, (cell_of_heap h 11).2⟩⟩

def lenAt (S : Sn) : Nat → Nat
  | 0 => S.used.length | 1 => S.most.length | 2 => S.owned.length | 3 => S.held.length | _ => S.flies.length
theorem lens_of (S : Sn) : (∀ j, j < 5 → lenAt S j = S.paths.length) ↔ Lens S := by
  constructor
  · intro h; exact ⟨h 0 (by omega), h 1 (by omega), h 2 (by omega), h 3 (by omega), h 4 (by omega)⟩
  · rintro ⟨h0, h1, h2, h3, h4⟩ j hj
    obtain rfl | rfl | rfl | rfl | rfl : j = 0 ∨ j = 1 ∨ j = 2 ∨ j = 3 ∨ j = 4 := by omega
    · exact h0
    · exact h1
    · exact h2
    · exact h3
    · exact h4
def Fits (S : Sn) : Prop := ∀ g, g < S.paths.length → (gp S.paths g).length * 8 ≤ 140737488351232
set_option maxHeartbeats 4000000 in
theorem shaped_c {P : Nat → Prop} (v1 v2 v3 v4 v5 v6 v7 v8 v9 v10 v11 : Value) (S : Sn) (w : World) (hS : SnP P w v1 v2 v3 v4 v5 v6 v7 v8 v9 v10 v11 S) (hF : Fits S) :
    Calls Tryz.prog 16 #[.agg #[.int .i64 S.now, v1, v2, v3, v4, v5, v6, v7, v8, v9, v10, v11]] w fun e w' => RetB (ShapedJ S) e ∧ Below w.heap.size w w' := by
  obtain ⟨a1, c1, e1, l1, k1⟩ := hS.d.form
  obtain ⟨a2, c2, e2, l2, k2⟩ := hS.p.form
  obtain ⟨a3, c3, e3, l3, k3⟩ := hS.u.form
  obtain ⟨a4, c4, e4, l4, k4⟩ := hS.m.form
  obtain ⟨a5, c5, e5, l5, k5⟩ := hS.o.form
  obtain ⟨a6, c6, e6, l6, k6⟩ := hS.h.form
  obtain ⟨a7, c7, e7, l7, k7⟩ := hS.f.form
  obtain ⟨a8, c8, e8, l8, k8⟩ := hS.t.form
  obtain ⟨a9, c9, e9, l9, k9⟩ := hS.c.form
  obtain ⟨a10, c10, e10, l10, k10⟩ := hS.hs.form
  obtain ⟨a11, c11, e11, l11, k11⟩ := hS.ds.form
  subst e1 e2 e3 e4 e5 e6 e7 e8 e9 e10 e11
  unfold maxLen at k1 k2 k3 k4 k5 k6 k7 k8 k9 k10 k11
  obtain ⟨n1, h1⟩ : ∃ n, n = S.depths.length := ⟨_, rfl⟩
  obtain ⟨n2, h2⟩ : ∃ n, n = S.paths.length := ⟨_, rfl⟩
  obtain ⟨n3, h3⟩ : ∃ n, n = S.used.length := ⟨_, rfl⟩
  obtain ⟨n4, h4⟩ : ∃ n, n = S.most.length := ⟨_, rfl⟩
  obtain ⟨n5, h5⟩ : ∃ n, n = S.owned.length := ⟨_, rfl⟩
  obtain ⟨n6, h6⟩ : ∃ n, n = S.held.length := ⟨_, rfl⟩
  obtain ⟨n7, h7⟩ : ∃ n, n = S.flies.length := ⟨_, rfl⟩
  obtain ⟨n8, h8⟩ : ∃ n, n = S.tags.length := ⟨_, rfl⟩
  obtain ⟨n9, h9⟩ : ∃ n, n = S.caches.length := ⟨_, rfl⟩
  obtain ⟨n10, h10⟩ : ∃ n, n = S.handles.length := ⟨_, rfl⟩
  obtain ⟨n11, h11⟩ : ∃ n, n = S.dids.length := ⟨_, rfl⟩
  rw [← h1, ← h2, ← h3, ← h4, ← h5, ← h6, ← h7, ← h8, ← h9, ← h10, ← h11] at hS ⊢
  rw [← h1] at l1
  have H1 := Lib.hid h1
  rw [← h2] at l2
  have H2 := Lib.hid h2
  rw [← h3] at l3
  have H3 := Lib.hid h3
  rw [← h4] at l4
  have H4 := Lib.hid h4
  rw [← h5] at l5
  have H5 := Lib.hid h5
  rw [← h6] at l6
  have H6 := Lib.hid h6
  rw [← h7] at l7
  have H7 := Lib.hid h7
  rw [← h8] at l8
  have H8 := Lib.hid h8
  rw [← h9] at l9
  have H9 := Lib.hid h9
  rw [← h10] at l10
  have H10 := Lib.hid h10
  rw [← h11] at l11
  have H11 := Lib.hid h11
  clear h1 h2 h3 h4 h5 h6 h7 h8 h9 h10 h11
  obtain ⟨w1, hw1⟩ : ∃ w1, w1 = w.alloc (.cells #[.int .i64 S.now, .slice a1 n1 c1, .slice a2 n2 c2, .slice a3 n3 c3, .slice a4 n4 c4, .slice a5 n5 c5, .slice a6 n6 c6, .slice a7 n7 c7, .slice a8 n8 c8, .slice a9 n9 c9, .slice a10 n10 c10, .slice a11 n11 c11] 28) := ⟨_, rfl⟩
  have hb1 : Below w.heap.size w w1 := by rw [hw1]; exact below_alloc _ _
  have hs1 : w1.heap.size = w.heap.size + 1 := by rw [hw1]; simp
  have t0 : w1.heap[w.heap.size]? = some (.cells #[.int .i64 S.now, .slice a1 n1 c1, .slice a2 n2 c2, .slice a3 n3 c3, .slice a4 n4 c4, .slice a5 n5 c5, .slice a6 n6 c6, .slice a7 n7 c7, .slice a8 n8 c8, .slice a9 n9 c9, .slice a10 n10 c10, .slice a11 n11 c11] 28 (0, 0)) := by rw [hw1]; exact World.alloc_heap_new _ _
  obtain ⟨w2, hw2⟩ : ∃ w2, w2 = w1.alloc (.cells #[.slice a3 n3 c3, .slice a4 n4 c4, .slice a5 n5 c5, .slice a6 n6 c6, .slice a7 n7 c7] 22) := ⟨_, rfl⟩
  have hb2 : Below w1.heap.size w1 w2 := by rw [hw2]; exact below_alloc _ _
  have hB2 := below_on hb1 (Nat.le_refl _) hb2
  have u0 : w2.heap[w.heap.size + 1]? = some (.cells #[.slice a3 n3 c3, .slice a4 n4 c4, .slice a5 n5 c5, .slice a6 n6 c6, .slice a7 n7 c7] 22) := by rw [hw2, ← hs1]; exact World.alloc_heap_new _ _
  have t2 := (hb2.block w.heap.size (by omega)).trans t0
  have hfive : ∀ k, k < 5 → ∃ a c, w2.cell? ⟨w.heap.size + 1, k, none⟩ = some (.slice a (lenAt S k) c) ∧ lenAt S k ≤ 9223372036854775807 := by
    intro k hk
    obtain rfl | rfl | rfl | rfl | rfl : k = 0 ∨ k = 1 ∨ k = 2 ∨ k = 3 ∨ k = 4 := by omega
    · exact ⟨a3, c3, by rw [(cell_of_heap u0 0).1, H3.out]; rfl, by have := H3.out; show S.used.length ≤ _; omega⟩
    · exact ⟨a4, c4, by rw [(cell_of_heap u0 1).1, H4.out]; rfl, by have := H4.out; show S.most.length ≤ _; omega⟩
    · exact ⟨a5, c5, by rw [(cell_of_heap u0 2).1, H5.out]; rfl, by have := H5.out; show S.owned.length ≤ _; omega⟩
    · exact ⟨a6, c6, by rw [(cell_of_heap u0 3).1, H6.out]; rfl, by have := H6.out; show S.held.length ≤ _; omega⟩
    · exact ⟨a7, c7, by rw [(cell_of_heap u0 4).1, H7.out]; rfl, by have := H7.out; show S.flies.length ≤ _; omega⟩
  have s1 : w2.cell? ⟨w.heap.size, 1, none⟩ = some (.slice a1 n1 c1) := (cell_of_heap t2 1).1
  have s2 : w2.cell? ⟨w.heap.size, 2, none⟩ = some (.slice a2 n2 c2) := (cell_of_heap t2 2).1
  have s8 : w2.cell? ⟨w.heap.size, 8, none⟩ = some (.slice a8 n8 c8) := (cell_of_heap t2 8).1
  have s9 : w2.cell? ⟨w.heap.size, 9, none⟩ = some (.slice a9 n9 c9) := (cell_of_heap t2 9).1
  have s10 : w2.cell? ⟨w.heap.size, 10, none⟩ = some (.slice a10 n10 c10) := (cell_of_heap t2 10).1
  have T2 := Lib.hid t2
  have HB2 := Lib.hid hB2
  have HF5 := Lib.hid hfive
  have HS2 := Lib.hid (hS.below hB2)
  have HF := Lib.hid hF
  clear t0 u0 hb1 hb2 hB2 hfive t2 hF hS
  go_enter Tryz.func16, Tryz.ntmps16
  go_wp2_with fail
  rw [← hw1]
  rw [← hw2]
  clear hw1 hw2
  go_loop [23] (fun i => ∃ k : Nat, k ≤ 5 ∧ i = .int .i64 k ∧ ∀ j, j < k → lenAt S j = n2) (fun i => 5 - (intOf i).toNat)
  case atStart => exact ⟨0, Nat.zero_le _, rfl, fun j hj => absurd hj (Nat.not_lt_zero _)⟩
  case round =>
    obtain ⟨k, hk, rfl, hne⟩ := hrel
    have HNE := Lib.hid hne
    clear hne
    by_cases hlt : k < 5
    · obtain ⟨fa, fc, f1, f2⟩ := HF5.out k hlt
      have HLT := Lib.hid hlt
      by_cases hx : lenAt S k = n2
      · have HX := Lib.hid hx
        rw [hx] at f1 f2
        clear hx
        go_wp2
        go_round
        case rel => exact ⟨k + 1, HLT.out, by go_num, fun j hj => (Nat.lt_or_ge j k).elim (HNE.out j) (fun h => by obtain rfl : j = k := (by omega); exact HX.out)⟩
        case measure => simp [intOf]; have := HLT.out; omega
      · have HX : Hid (¬ Lens S) := fun h => hx (((lens_of S).2 h k hlt).trans H2.out.symm)
        have hxb : ((lenAt S k : Int) != (n2 : Int)) = true := by simp; omega
        clear hx
        generalize lenAt S k = lk at *
        go_wp2
        go_ret
        exact ⟨⟨_, rfl, by simp only [Bool.false_eq_true, false_iff]; exact fun h => HX.out h.1⟩, HB2.out⟩
    · obtain rfl : k = 5 := by omega
      have HLE : Hid (Lens S) := (lens_of S).1 (fun j hj => (HNE.out j hj).trans H2.out)
      have no : ∀ (q : Prop), (ShapedJ S → q) → ¬ q → (false = true ↔ ShapedJ S) := fun q h1 h2 => by
        simp only [Bool.false_eq_true, false_iff]; exact fun h => h2 (h1 h)
      have NO := Lib.hid no
      clear no
      cases hx1 : inR n1 1 8 with
      | false =>
        have X := Lib.hid (inR_false.1 hx1)
        go_wp2_with (go_at_call 43; refine (within_c _ _ _ _).mono ?_; rintro e w' ⟨rfl, rfl⟩)
        go_ret
        exact ⟨⟨_, rfl, NO.out (1 ≤ n1 ∧ n1 ≤ 8) (fun h => by rw [H1.out]; exact h.2.1.1) (fun h => by have := X.out; omega)⟩, HB2.out⟩
      | true =>
      have X1 := Lib.hid (inR_true.1 hx1)
      cases hx2 : inR n2 1 16 with
      | false =>
        have X := Lib.hid (inR_false.1 hx2)
        go_wp2_with (go_at_call 43; refine (within_c _ _ _ _).mono ?_; rintro e w' ⟨rfl, rfl⟩)
        go_ret
        exact ⟨⟨_, rfl, NO.out (1 ≤ n2 ∧ n2 ≤ 16) (fun h => by rw [H2.out]; exact h.2.1.2.1) (fun h => by have := X.out; omega)⟩, HB2.out⟩
      | true =>
      have X2 := Lib.hid (inR_true.1 hx2)
      cases hx8 : inR n8 1 1024 with
      | false =>
        have X := Lib.hid (inR_false.1 hx8)
        go_wp2_with (go_at_call 43; refine (within_c _ _ _ _).mono ?_; rintro e w' ⟨rfl, rfl⟩)
        go_ret
        exact ⟨⟨_, rfl, NO.out (1 ≤ n8 ∧ n8 ≤ 1024) (fun h => by rw [H8.out]; exact h.2.1.2.2) (fun h => by have := X.out; omega)⟩, HB2.out⟩
      | true =>
      have X8 := Lib.hid (inR_true.1 hx8)
      have HEN : Hid (Ends S) := by
        have x1 := X1.out; have x2 := X2.out; have x8 := X8.out
        rw [H1.out] at x1; rw [H2.out] at x2; rw [H8.out] at x8
        refine ⟨⟨?_, ?_⟩, ⟨?_, ?_⟩, ?_, ?_⟩
        · have := x1.1; show 1 ≤ S.depths.length; omega
        · have := x1.2; show S.depths.length ≤ 8; omega
        · have := x2.1; omega
        · have := x2.2; omega
        · have := x8.1; omega
        · have := x8.2; omega
      have hCT := containsTags_c _ _ w.heap.size _ _ _ w2 HS2.out.t s9 (by omega)
      unfold clo at hCT
      have HCT := Lib.hid hCT
      clear hCT
      go_wp2_with (first | (go_at_call 43; refine (within_c _ _ _ _).mono ?_; rintro e w' ⟨rfl, rfl⟩))
      refine HCT.out.mono ?_
      rintro e w' ⟨⟨b1, rfl, hb1⟩, rfl⟩
      have HT : Hid (b1 = false ↔ TagsOk S) := by unfold Hid; rw [hb1]; simp only [inR_true]; rw [H9.out]; rfl
      have hCH := containsHandles_c _ _ w.heap.size _ _ _ w2 HS2.out.hs s9 (by omega)
      unfold clo at hCH
      have HCH := Lib.hid hCH
      clear hCH HCT hb1 hx1 hx2 hx8
      go_wp2_with fail
      refine HCH.out.mono ?_
      rintro e w3 ⟨⟨b2, rfl, hb2⟩, hb3⟩
      have HH : Hid (b2 = false ↔ HandlesOk S) := by unfold Hid; rw [hb2]; simp only [inR_true]; rw [H9.out]; rfl
      have r2 := (hb3.cell (p := ⟨w.heap.size, 2, none⟩) (World.block_lt_of_cell? w2 _ s2)).trans s2
      have T3 := Lib.hid ((hb3.block w.heap.size (Array.getElem?_eq_some_iff.1 T2.out).1).trans T2.out)
      have HS3 := Lib.hid (HS2.out.below hb3)
      have HB3 := Lib.hid (below_then HB2.out (below_low hb3 HB2.out.size))
      clear hb2 hb3 s1 s2 s8 s9 s10 HCH HF5 T2 HS2 HB2
      cases b1 with
      | true =>
        go_wp2
        go_ret
        exact ⟨⟨_, rfl, NO.out (TagsOk S) (fun h => h.2.2.1) (fun h => by cases HT.out.2 h)⟩, HB3.out⟩
      | false =>
      cases b2 with
      | true =>
        go_wp2
        go_ret
        exact ⟨⟨_, rfl, NO.out (HandlesOk S) (fun h => h.2.2.2.1) (fun h => by cases HH.out.2 h)⟩, HB3.out⟩
      | false =>
      have hPA := paths_c _ _ w3 HS3.out.p HF.out
      have HPA := Lib.hid hPA
      clear hPA
      go_wp2_with fail
      refine HPA.out.mono ?_
      rintro e w4 ⟨⟨b3, rfl, hb3⟩, hb4⟩
      have HP3 := Lib.hid hb3
      have t4 := (hb4.block w.heap.size (Array.getElem?_eq_some_iff.1 T3.out).1).trans T3.out
      have T4 := Lib.hid t4
      have HS4 := Lib.hid (HS3.out.below hb4)
      have HB4 := Lib.hid (below_then HB3.out (below_low hb4 HB3.out.size))
      clear hb3 hb4 r2 HPA T3 HS3 HB3
      cases b3 with
      | false =>
        go_wp2
        go_ret
        exact ⟨⟨_, rfl, NO.out (PathsJ S) (fun h => h.2.2.2.2.1) (fun h => by cases HP3.out.2 h)⟩, HB4.out⟩
      | true =>
      obtain ⟨⟨y0, _⟩, ⟨y1, _⟩, ⟨y2, _⟩, ⟨y3, _⟩, ⟨y4, _⟩, ⟨y5, _⟩, ⟨y6, _⟩, ⟨y7, _⟩, ⟨y8, _⟩, ⟨y9, _⟩, ⟨y10, _⟩, y11, _⟩ := cells12 t4
      clear t4
      have hCA := calls_c S.now (.slice a2 n2 c2) (.slice a3 n3 c3) (.slice a4 n4 c4) (.slice a5 n5 c5) (.slice a6 n6 c6) (.slice a7 n7 c7) (.slice a8 n8 c8) (.slice a9 n9 c9) _ n1 n10 c1 c10 a1 a10 _ w4 HS4.out.ds (by omega) (by omega)
      have HCA := Lib.hid hCA
      clear hCA
      go_wp2_with fail
      refine HCA.out.mono ?_
      rintro e w5 ⟨⟨b4, rfl, hb4⟩, hb5⟩
      have HD : Hid (b4 = true ↔ DidsOk S) := by unfold Hid; rw [hb4, H1.out, H10.out]; rfl
      have HB5 := Lib.hid (below_then HB4.out (below_low hb5 HB4.out.size))
      clear hb4 hb5 y0 y1 y2 y3 y4 y5 y6 y7 y8 y9 y10 y11
      cases b4 with
      | false =>
        go_wp2
        go_ret
        exact ⟨⟨_, rfl, NO.out (DidsOk S) (fun h => h.2.2.2.2.2) (fun h => by cases HD.out.2 h)⟩, HB5.out⟩
      | true =>
        go_wp2
        go_ret
        exact ⟨⟨_, rfl, by simp only [true_iff]; exact ⟨HLE.out, HEN.out, HT.out.1 (by trivial), HH.out.1 (by trivial), HP3.out.1 (by trivial), HD.out.1 (by trivial)⟩⟩, HB5.out⟩
end Go.Proofs.YtcpafphgkbfahaaGreat
