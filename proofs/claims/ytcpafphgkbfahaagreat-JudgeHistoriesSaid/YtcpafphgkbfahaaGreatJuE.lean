/- A handle's taking. Conditions: what lies in memory. -/
import Derived.Test.YtcpafphgkbfahaaGreatJuD
import Derived.Handy
namespace Go.Proofs.YtcpafphgkbfahaaGreat
open Go.RowKit Go.Shelf
set_option linter.unusedVariables false
set_option linter.unusedSimpArgs false
theorem heap_alloc_past (W : World) (o : Obj) {X : Nat} {b : Obj} (h : W.heap[X]? = some b) : (W.alloc o).heap[X]? = some b :=
  ((below_alloc W o).block X (Array.getElem?_eq_some_iff.1 h).1).trans h
theorem cell_alloc_past (W : World) (o : Obj) {p : Addr} {v : Value} (h : W.cell? p = some v) : (W.alloc o).cell? p = some v :=
  ((below_alloc W o).cell (World.block_lt_of_cell? W _ h)).trans h
theorem cells6 {W : World} {X : Nat} {t : TypeId} {b0 b1 b2 b3 b4 b5 : Value} (h : W.heap[X]? = some (.cells #[b0, b1, b2, b3, b4, b5] t (0, 0))) : (W.cell? ⟨X, 0, none⟩ = some b0 ∧ W.frozen? ⟨X, 0, none⟩ = false) ∧ (W.cell? ⟨X, 1, none⟩ = some b1 ∧ W.frozen? ⟨X, 1, none⟩ = false) ∧ (W.cell? ⟨X, 2, none⟩ = some b2 ∧ W.frozen? ⟨X, 2, none⟩ = false) ∧ (W.cell? ⟨X, 3, none⟩ = some b3 ∧ W.frozen? ⟨X, 3, none⟩ = false) ∧ (W.cell? ⟨X, 4, none⟩ = some b4 ∧ W.frozen? ⟨X, 4, none⟩ = false) ∧ (W.cell? ⟨X, 5, none⟩ = some b5 ∧ W.frozen? ⟨X, 5, none⟩ = false) := by
  refine ⟨⟨by simpa using (cell_of_heap h 0).1, (cell_of_heap h 0).2⟩, ⟨by simpa using (cell_of_heap h 1).1, (cell_of_heap h 1).2⟩, ⟨by simpa using (cell_of_heap h 2).1, (cell_of_heap h 2).2⟩, ⟨by simpa using (cell_of_heap h 3).1, (cell_of_heap h 3).2⟩, ⟨by simpa using (cell_of_heap h 4).1, (cell_of_heap h 4).2⟩, ⟨by simpa using (cell_of_heap h 5).1, (cell_of_heap h 5).2⟩⟩
theorem cells6a {W : World} {X : Nat} {t : TypeId} {b0 b1 b2 b3 b4 b5 : Value} (h : W.heap[X]? = some (.cells #[b0, b1, b2, b3, b4, b5] t (0, 0))) : ((∀ o, (W.alloc o).cell? ⟨X, 0, none⟩ = some b0) ∧ ∀ o, (W.alloc o).frozen? ⟨X, 0, none⟩ = false) ∧ ((∀ o, (W.alloc o).cell? ⟨X, 1, none⟩ = some b1) ∧ ∀ o, (W.alloc o).frozen? ⟨X, 1, none⟩ = false) ∧ ((∀ o, (W.alloc o).cell? ⟨X, 2, none⟩ = some b2) ∧ ∀ o, (W.alloc o).frozen? ⟨X, 2, none⟩ = false) ∧ ((∀ o, (W.alloc o).cell? ⟨X, 3, none⟩ = some b3) ∧ ∀ o, (W.alloc o).frozen? ⟨X, 3, none⟩ = false) ∧ ((∀ o, (W.alloc o).cell? ⟨X, 4, none⟩ = some b4) ∧ ∀ o, (W.alloc o).frozen? ⟨X, 4, none⟩ = false) ∧ ((∀ o, (W.alloc o).cell? ⟨X, 5, none⟩ = some b5) ∧ ∀ o, (W.alloc o).frozen? ⟨X, 5, none⟩ = false) := by
  have k : ∀ o, (W.alloc o).heap[X]? = some (.cells #[b0, b1, b2, b3, b4, b5] t (0, 0)) := fun o => heap_alloc_past W o h
  refine ⟨⟨fun o => by simpa using (cell_of_heap (k o) 0).1, fun o => (cell_of_heap (k o) 0).2⟩, ⟨fun o => by simpa using (cell_of_heap (k o) 1).1, fun o => (cell_of_heap (k o) 1).2⟩, ⟨fun o => by simpa using (cell_of_heap (k o) 2).1, fun o => (cell_of_heap (k o) 2).2⟩, ⟨fun o => by simpa using (cell_of_heap (k o) 3).1, fun o => (cell_of_heap (k o) 3).2⟩, ⟨fun o => by simpa using (cell_of_heap (k o) 4).1, fun o => (cell_of_heap (k o) 4).2⟩, ⟨fun o => by simpa using (cell_of_heap (k o) 5).1, fun o => (cell_of_heap (k o) 5).2⟩⟩

set_option maxHeartbeats 2000000 in
theorem taken_c {P : Nat → Prop} (now : Int) (v1 v2 v3 v4 v5 v6 v7 v8 v9 v10 v11 : Value) (ds : List Dd) (h x y z : Int) (w : World) (hI : DdsP P w v11 ds) (hfrm : ∀ j, j < ds.length → 0 ≤ (gd ds j).frm) :
    Calls Tryz.prog 20 #[.agg #[.int .i64 now, v1, v2, v3, v4, v5, v6, v7, v8, v9, v10, v11], .int .i64 h, .agg #[.int .i64 x, .int .i64 y, .int .i64 z]] w fun e w' => e = .returned (.agg #[.int .i64 3, .int .i64 x, .int .i64 y, .int .i64 z, .int .i64 (takeFT ds h).1, .int .i64 (takeFT ds h).2]) ∧ Below w.heap.size w w' := by
  obtain ⟨a, c, rfl, hlc, hcm⟩ := hI.form
  unfold maxLen at hcm
  obtain ⟨len, hlen⟩ : ∃ len, len = ds.length := ⟨_, rfl⟩
  have HL := Lib.hid hlen
  rw [← hlen] at hlc hI ⊢
  have HI := Lib.hid hI
  have HFR := Lib.hid hfrm
  clear hlen hI hfrm
  go_enter Tryz.func20, Tryz.ntmps20
  go_wp2_with fail
  obtain ⟨w3, hw3⟩ : ∃ w3, w3 = ((w.alloc (.cells #[.int .i64 now, v1, v2, v3, v4, v5, v6, v7, v8, v9, v10, .slice a len c] 28)).alloc (.cells #[.int .i64 x, .int .i64 y, .int .i64 z] 33)).alloc (.cells #[.int .i64 0, .int .i64 0, .int .i64 0, .int .i64 0, .int .i64 0, .int .i64 0] 37) := ⟨_, rfl⟩
  have hb3 : Below w.heap.size w w3 := by rw [hw3]; exact ((below_alloc w _).alloc (by simp) _).alloc (by simp; omega) _
  have hs3 : w3.heap.size = w.heap.size + 1 + 1 + 1 := by rw [hw3]; simp
  have s11 : w3.cell? ⟨w.heap.size, 11, none⟩ = some (.slice a len c) := by rw [hw3]; go_simp
  have s6 : w3.heap[w.heap.size + 1 + 1]? = some (.cells #[.int .i64 0, .int .i64 0, .int .i64 0, .int .i64 0, .int .i64 0, .int .i64 0] 37 (0, 0)) := by
    rw [hw3]; have := World.alloc_heap_new ((w.alloc (.cells #[.int .i64 now, v1, v2, v3, v4, v5, v6, v7, v8, v9, v10, .slice a len c] 28)).alloc (.cells #[.int .i64 x, .int .i64 y, .int .i64 z] 33)) (.cells #[.int .i64 0, .int .i64 0, .int .i64 0, .int .i64 0, .int .i64 0, .int .i64 0] 37); simpa using this
  rw [← hw3]
  clear hw3
  obtain ⟨w4, hw4⟩ : ∃ w4, w4 = w3.alloc (.cells #[.int .i64 3, .int .i64 x, .int .i64 y, .int .i64 z, .int .i64 0, .int .i64 (-1)] 37) := ⟨_, rfl⟩
  have hb34 : Below w3.heap.size w3 w4 := by rw [hw4]; exact below_alloc _ _
  have hb4 := below_on hb3 (Nat.le_refl _) hb34
  have hs4 : w4.heap.size = w.heap.size + 1 + 1 + 1 + 1 := by rw [hw4, World.size_alloc, hs3]
  have s7 : w4.heap[w.heap.size + 1 + 1 + 1]? = some (.cells #[.int .i64 3, .int .i64 x, .int .i64 y, .int .i64 z, .int .i64 0, .int .i64 (-1)] 37 (0, 0)) := by rw [hw4, ← hs3]; exact World.alloc_heap_new _ _
  have s11 := (hb34.cell (p := ⟨w.heap.size, 11, none⟩) (by show w.heap.size < _; omega)).trans s11
  have s6 := (hb34.block (w.heap.size + 1 + 1) (by omega)).trans s6
  rw [← hw4]
  clear hw4 hb34 hb3 hs3
  have HI4 := Lib.hid (HI.out.below hb4)
  refine (first_takesF now v1 v2 v3 v4 v5 v6 v7 v8 v9 v10 _ ds h w4 HI4.out).mono ?_
  rintro e w5 ⟨⟨u, rfl, hu⟩, hb⟩
  have t11 := (hb.cell (p := ⟨w.heap.size, 11, none⟩) (by show w.heap.size < _; omega)).trans s11
  have t6 := (hb.block (w.heap.size + 1 + 1) (by omega)).trans s6
  have t7 := (hb.block (w.heap.size + 1 + 1 + 1) (by omega)).trans s7
  have hs5 := hb.size
  have HB5 := Lib.hid (below_on hb4 (Nat.le_refl _) hb)
  have HI5 := Lib.hid (HI4.out.below hb)
  have HU := Lib.hid hu
  clear hb4 s11 s6 s7 hb hu
  have T6 := Lib.hid t6
  have T7 := Lib.hid t7
  obtain ⟨⟨c60, f60⟩, ⟨c61, f61⟩, ⟨c62, f62⟩, ⟨c63, f63⟩, ⟨c64, f64⟩, c65, f65⟩ := cells6a t6
  obtain ⟨⟨c70, f70⟩, ⟨c71, f71⟩, ⟨c72, f72⟩, ⟨c73, f73⟩, ⟨c74, f74⟩, c75, f75⟩ := cells6a t7
  have t11 := fun o => cell_alloc_past w5 o t11
  clear t6 t7
  rcases HU.out with ⟨hf, rfl⟩ | ⟨k, v, hf, rfl, hv'⟩
  · have HF := Lib.hid hf
    clear hf HU
    go_wp2
    have hb6 : Below w.heap.size w (w5.alloc (.cells #[.int .i64 0, .int .i64 0, .int .i64 0, .int .i64 (-1), .int .i64 0, .slice none 0 0] 73)) := HB5.out.alloc HB5.out.size _
    have t6' := heap_alloc_past w5 (.cells #[.int .i64 0, .int .i64 0, .int .i64 0, .int .i64 (-1), .int .i64 0, .slice none 0 0] 73) T6.out
    have t7' := heap_alloc_past w5 (.cells #[.int .i64 0, .int .i64 0, .int .i64 0, .int .i64 (-1), .int .i64 0, .slice none 0 0] 73) T7.out
    have hs6 : w.heap.size + 1 + 1 + 1 + 1 ≤ (w5.alloc (.cells #[.int .i64 0, .int .i64 0, .int .i64 0, .int .i64 (-1), .int .i64 0, .slice none 0 0] 73)).heap.size := by rw [World.size_alloc]; omega
    clear c60 f60 c61 f61 c62 f62 c63 f63 c64 f64 c65 f65 c70 f70 c71 f71 c72 f72 c73 f73 c74 f74 c75 f75 t11 HB5 T6 T7 HI4 HI5 hs4 hs5
    go_loopw [33, 10] (fun i l wr => ∃ k : Nat, k ≤ len ∧ i = .int .i64 k ∧ l = .int .i64 (leastJ ds h k) ∧ Below w.heap.size w wr ∧ w.heap.size + 1 + 1 + 1 + 1 ≤ wr.heap.size ∧
      wr.heap[w.heap.size + 1 + 1]? = some (.cells #[.int .i64 0, .int .i64 0, .int .i64 0, .int .i64 0, .int .i64 0, .int .i64 0] 37 (0, 0)) ∧
      wr.heap[w.heap.size + 1 + 1 + 1]? = some (.cells #[.int .i64 3, .int .i64 x, .int .i64 y, .int .i64 z, .int .i64 0, .int .i64 (-1)] 37 (0, 0))) (fun i _ _ => len - (intOf i).toNat)
    case atStart => exact ⟨0, Nat.zero_le _, rfl, rfl, hb6, hs6, t6', t7'⟩
    case round =>
      clear hb6 hs6 t6' t7'
      obtain ⟨k, hk, rfl, rfl, hB, hsr, t6, t7⟩ := hrel
      have HIr := Lib.hid (HI.out.below hB)
      have HB := Lib.hid hB
      have T6 := Lib.hid t6
      have T7 := Lib.hid t7
      clear hB t6 t7
      by_cases hlt : k < len
      · obtain ⟨b, off, v, rfl, q0, q1, q2, q3, q4, q5, hv⟩ := HIr.out.at (j := k) (by rw [← HL.out]; exact hlt)
        obtain ⟨va, vc, rfl, _, _⟩ := hv.form
        have HV := Lib.hid hv
        have hstep : Hid (leastJ ds h (k + 1) = stepJ (namesL (gd ds k).hs h) (gd ds k).frm (leastJ ds h k)) := rfl
        clear hv
        obtain ⟨o, ho⟩ : ∃ o : Obj, o = .cells #[.int .i64 (gd ds k).cpu, .int .i64 (gd ds k).op, .int .i64 (gd ds k).frm, .int .i64 (gd ds k).to, .int .i64 (gd ds k).e, .slice va (gd ds k).hs.length vc] 73 := ⟨_, rfl⟩
        have HV2 := Lib.hid (HV.out.below (below_alloc wr o))
        have hrel' : Hid (Below w.heap.size w (wr.alloc o) ∧ w.heap.size + 1 + 1 + 1 + 1 ≤ (wr.alloc o).heap.size ∧
          (wr.alloc o).heap[w.heap.size + 1 + 1]? = some (.cells #[.int .i64 0, .int .i64 0, .int .i64 0, .int .i64 0, .int .i64 0, .int .i64 0] 37 (0, 0)) ∧
          (wr.alloc o).heap[w.heap.size + 1 + 1 + 1]? = some (.cells #[.int .i64 3, .int .i64 x, .int .i64 y, .int .i64 z, .int .i64 0, .int .i64 (-1)] 37 (0, 0))) :=
          ⟨HB.out.alloc HB.out.size _, by rw [World.size_alloc]; omega, heap_alloc_past _ _ T6.out, heap_alloc_past _ _ T7.out⟩
        subst ho
        clear HIr HV HB T6 T7 HF HFR
        generalize (gd ds k).frm = fr at *
        generalize leastJ ds h k = l at *
        cases hn : namesL (gd ds k).hs h with
        | false =>
          have HN := Lib.hid hn
          clear hn
          go_wp2_with fail
          refine (contains_c _ _ h _ HV2.out).mono ?_
          rintro e w' ⟨rfl, rfl⟩
          rw [HN.out]
          go_wp2
          go_roundw
          case rel => exact ⟨k + 1, by omega, by go_num, by rw [hstep.out, HN.out]; simp [stepJ], hrel'.out⟩
          case measure => simp [intOf]; omega
        | true =>
          have HN := Lib.hid hn
          clear hn
          by_cases h1 : l < 0
          · go_wp2_with fail
            refine (contains_c _ _ h _ HV2.out).mono ?_
            rintro e w' ⟨rfl, rfl⟩
            rw [HN.out]
            go_wp2
            go_roundw
            case rel => exact ⟨k + 1, by omega, by go_num, by rw [hstep.out, HN.out]; simp [stepJ, h1], hrel'.out⟩
            case measure => simp [intOf]; omega
          · by_cases h2 : fr < l
            · go_wp2_with fail
              refine (contains_c _ _ h _ HV2.out).mono ?_
              rintro e w' ⟨rfl, rfl⟩
              rw [HN.out]
              go_wp2
              go_roundw
              case rel => exact ⟨k + 1, by omega, by go_num, by rw [hstep.out, HN.out]; simp [stepJ, h2], hrel'.out⟩
              case measure => simp [intOf]; omega
            · go_wp2_with fail
              refine (contains_c _ _ h _ HV2.out).mono ?_
              rintro e w' ⟨rfl, rfl⟩
              rw [HN.out]
              go_wp2
              go_roundw
              case rel => exact ⟨k + 1, by omega, by go_num, by rw [hstep.out, HN.out]; exact congrArg _ (by unfold stepJ; rw [if_neg (by simp [h1, h2])]), hrel'.out⟩
              case measure => simp [intOf]; omega
      · obtain rfl : k = len := by omega
        obtain ⟨⟨c60, f60⟩, ⟨c61, f61⟩, ⟨c62, f62⟩, ⟨c63, f63⟩, ⟨c64, f64⟩, c65, f65⟩ := cells6 T6.out
        obtain ⟨⟨c70, f70⟩, ⟨c71, f71⟩, ⟨c72, f72⟩, ⟨c73, f73⟩, ⟨c74, f74⟩, c75, f75⟩ := cells6 T7.out
        have hT6 : ∀ u, (wr.setCell ⟨w.heap.size + 1 + 1 + 1, 4, none⟩ u).heap[w.heap.size + 1 + 1]? = some (.cells #[.int .i64 0, .int .i64 0, .int .i64 0, .int .i64 0, .int .i64 0, .int .i64 0] 37 (0, 0)) := fun u => (heap_setCell_other wr _ _ u (by simp)).trans T6.out
        have hbz : ∀ u, Below w.heap.size w (wr.setCell ⟨w.heap.size + 1 + 1 + 1, 4, none⟩ u) := fun u => HB.out.setCell (by show w.heap.size ≤ w.heap.size + 1 + 1 + 1; omega) _
        have HT6 := Lib.hid hT6
        have HBZ := Lib.hid hbz
        have hls := least_same ds h k (fun j hj => HFR.out j (by rw [← HL.out]; exact hj))
        have htk : takeFT ds h = ((leastR ds h k).1, -1) := by unfold takeFT; rw [HF.out, ← HL.out]
        have HLS := Lib.hid hls
        have HTK := Lib.hid htk
        clear hT6 hbz hls htk
        by_cases hneg : leastJ ds h k < 0
        · have hv : (takeFT ds h).1 = 0 ∧ (takeFT ds h).2 = -1 := by
            obtain ⟨h1, h2, h3⟩ := HLS.out
            rw [HTK.out]
            refine ⟨?_, rfl⟩
            show (leastR ds h k).1 = 0
            cases hb : (leastR ds h k).2 with
            | false => exact h2 hb
            | true => rw [hb] at h3; simp at h3; omega
          have HV := Lib.hid hv
          clear hv
          generalize leastJ ds h k = l at *
          have hm : max l 0 = 0 := by omega
          go_wp2
          refine bodyPost_ret (v := .agg #[.int .i64 3, .int .i64 x, .int .i64 y, .int .i64 z, .int .i64 0, .int .i64 (-1)]) (by simp [results, Tryz.results20, go_sem, six0 (HT6.out _), six1 (HT6.out _), six2 (HT6.out _), six3 (HT6.out _), six4 (HT6.out _), six5 (HT6.out _)]) rfl ⟨by rw [HV.out.1, HV.out.2], six_below (HBZ.out _) (by omega) _ _ _ _ _ _⟩
        · have hv : (takeFT ds h).1 = leastJ ds h k ∧ (takeFT ds h).2 = -1 := by
            obtain ⟨h1, h2, h3⟩ := HLS.out
            rw [HTK.out]
            refine ⟨?_, rfl⟩
            show (leastR ds h k).1 = _
            cases hb : (leastR ds h k).2 with
            | false => rw [hb] at h3; simp at h3; omega
            | true => rw [hb] at h3; simpa using h3.symm
          have HV := Lib.hid hv
          clear hv
          generalize leastJ ds h k = l at *
          have hm : max l 0 = l := by omega
          go_wp2
          refine bodyPost_ret (v := .agg #[.int .i64 3, .int .i64 x, .int .i64 y, .int .i64 z, .int .i64 l, .int .i64 (-1)]) (by simp [results, Tryz.results20, go_sem, six0 (HT6.out _), six1 (HT6.out _), six2 (HT6.out _), six3 (HT6.out _), six4 (HT6.out _), six5 (HT6.out _)]) rfl ⟨by rw [HV.out.1, HV.out.2], six_below (HBZ.out _) (by omega) _ _ _ _ _ _⟩
  · have HF := Lib.hid hf
    clear hf HU
    obtain ⟨va, vn, vc, rfl⟩ := hv'
    have hT6 : ∀ o u u', (((w5.alloc o).setCell ⟨w.heap.size + 1 + 1 + 1, 4, none⟩ u).setCell ⟨w.heap.size + 1 + 1 + 1, 5, none⟩ u').heap[w.heap.size + 1 + 1]? = some (.cells #[.int .i64 0, .int .i64 0, .int .i64 0, .int .i64 0, .int .i64 0, .int .i64 0] 37 (0, 0)) := fun o u u' => (heap_setCell_other _ _ _ u' (by simp)).trans ((heap_setCell_other _ _ _ u (by simp)).trans (heap_alloc_past w5 o T6.out))
    have hbz : ∀ o u u', Below w.heap.size w (((w5.alloc o).setCell ⟨w.heap.size + 1 + 1 + 1, 4, none⟩ u).setCell ⟨w.heap.size + 1 + 1 + 1, 5, none⟩ u') := fun o u u' => ((HB5.out.alloc HB5.out.size _).setCell (by show w.heap.size ≤ w.heap.size + 1 + 1 + 1; omega) _).setCell (by show w.heap.size ≤ w.heap.size + 1 + 1 + 1; omega) _
    have HT6 := Lib.hid hT6
    have HBZ := Lib.hid hbz
    have htk : takeFT ds h = ((gd ds k).frm, (gd ds k).to) := by unfold takeFT; rw [HF.out]
    have HTK := Lib.hid htk
    clear hT6 hbz htk
    go_wp2
    go_region
    go_wp2
    refine bodyPost_ret (v := .agg #[.int .i64 3, .int .i64 x, .int .i64 y, .int .i64 z, .int .i64 (gd ds k).frm, .int .i64 (gd ds k).to]) (by simp [results, Tryz.results20, go_sem, six0 (HT6.out _ _ _), six1 (HT6.out _ _ _), six2 (HT6.out _ _ _), six3 (HT6.out _ _ _), six4 (HT6.out _ _ _), six5 (HT6.out _ _ _)]) rfl ⟨by rw [HTK.out], Below.drew (six_below (HBZ.out _ _ _) (by omega) _ _ _ _ _ _)⟩
end Go.Proofs.YtcpafphgkbfahaaGreat
