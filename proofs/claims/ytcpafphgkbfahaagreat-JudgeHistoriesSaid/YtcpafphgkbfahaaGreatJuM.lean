/- The reference: taking. Conditions: what lies in memory. -/
import Derived.Test.YtcpafphgkbfahaaGreatJuL
namespace Go.Proofs.YtcpafphgkbfahaaGreat
open Go.RowKit Go.Shelf
set_option linter.unusedVariables false
set_option linter.unusedSimpArgs false

theorem takesF_eq (d : Dd) : takesF d = (takesOp d.op && (d.e == 0)) := by unfold takesF; rw [Bool.and_comm]
set_option maxRecDepth 100000 in
set_option maxHeartbeats 8000000 in
theorem taking_c {P : Nat → Prop} (now : Int) (v1 v2 v3 v4 v5 v6 v7 v8 v9 v10 v11 : Value) (ds : List Dd) (h x y z : Int) (w : World) (hI : DdsP P w v11 ds) :
    Calls Tryz.prog 24 #[.agg #[.int .i64 now, v1, v2, v3, v4, v5, v6, v7, v8, v9, v10, v11], .int .i64 h, .agg #[.int .i64 x, .int .i64 y, .int .i64 z]] w fun e w' => e = .returned (.agg #[.int .i64 3, .int .i64 x, .int .i64 y, .int .i64 z, .int .i64 (takeFT ds h).1, .int .i64 (takeFT ds h).2]) ∧ Below w.heap.size w w' := by
  obtain ⟨a, c, rfl, hlc, hcm⟩ := hI.form
  unfold maxLen at hcm
  obtain ⟨len, hlen⟩ : ∃ len, len = ds.length := ⟨_, rfl⟩
  have HL := Lib.hid hlen
  rw [← hlen] at hlc hI ⊢
  have HI := Lib.hid hI
  obtain ⟨w3, hw3⟩ : ∃ w3, w3 = ((w.alloc (.cells #[.int .i64 now, v1, v2, v3, v4, v5, v6, v7, v8, v9, v10, .slice a len c] 28)).alloc (.cells #[.int .i64 x, .int .i64 y, .int .i64 z] 33)).alloc (.cells #[.int .i64 0, .int .i64 0, .int .i64 0, .int .i64 0, .int .i64 0, .int .i64 0] 37) := ⟨_, rfl⟩
  have hb3 : Below w.heap.size w w3 := by rw [hw3]; exact ((below_alloc w _).alloc (by simp) _).alloc (by simp; omega) _
  have hs3 : w3.heap.size = w.heap.size + 1 + 1 + 1 := by rw [hw3]; simp
  have s11 : w3.cell? ⟨w.heap.size, 11, none⟩ = some (.slice a len c) := by rw [hw3]; go_simp
  have s6 : w3.heap[w.heap.size + 1 + 1]? = some (.cells #[.int .i64 0, .int .i64 0, .int .i64 0, .int .i64 0, .int .i64 0, .int .i64 0] 37 (0, 0)) := by
    rw [hw3]; have := World.alloc_heap_new ((w.alloc (.cells #[.int .i64 now, v1, v2, v3, v4, v5, v6, v7, v8, v9, v10, .slice a len c] 28)).alloc (.cells #[.int .i64 x, .int .i64 y, .int .i64 z] 33)) (.cells #[.int .i64 0, .int .i64 0, .int .i64 0, .int .i64 0, .int .i64 0, .int .i64 0] 37); simpa using this
  obtain ⟨w4, hw4⟩ : ∃ w4, w4 = w3.alloc (.cells #[.int .i64 3, .int .i64 x, .int .i64 y, .int .i64 z, .int .i64 0, .int .i64 (-1)] 37) := ⟨_, rfl⟩
  have hb34 : Below w3.heap.size w3 w4 := by rw [hw4]; exact below_alloc _ _
  have hb4 := below_on hb3 (Nat.le_refl _) hb34
  have hs4 : w4.heap.size = w.heap.size + 1 + 1 + 1 + 1 := by rw [hw4, World.size_alloc, hs3]
  have s7 : w4.heap[w.heap.size + 1 + 1 + 1]? = some (.cells #[.int .i64 3, .int .i64 x, .int .i64 y, .int .i64 z, .int .i64 0, .int .i64 (-1)] 37 (0, 0)) := by rw [hw4, ← hs3]; exact World.alloc_heap_new _ _
  have s11 := (hb34.cell (p := ⟨w.heap.size, 11, none⟩) (by show w.heap.size < _; omega)).trans s11
  have s6 := (hb34.block (w.heap.size + 1 + 1) (by omega)).trans s6
  have S6 := Lib.hid s6
  have S7 := Lib.hid s7
  have S11 := Lib.hid s11
  have HB4 := Lib.hid hb4
  clear hlen hI hb34 hb3 hs3 s6 s7 s11 hb4
  go_enter Tryz.func24, Tryz.ntmps24
  go_wp2_with fail
  rw [← hw3]
  rw [← hw4]
  clear hw3 hw4
  go_loopw [9, 8] (fun i nm wr => ∃ k : Nat, k ≤ len ∧ i = .int .i64 k ∧ nm = .bool (leastR ds h k).2 ∧ (∀ j, j < k → (namesF (gd ds j) h && takesF (gd ds j)) = false) ∧ Below w.heap.size w wr ∧ w.heap.size + 1 + 1 + 1 + 1 ≤ wr.heap.size ∧ wr.cell? ⟨w.heap.size, 11, none⟩ = some (.slice a len c) ∧
      wr.heap[w.heap.size + 1 + 1]? = some (.cells #[.int .i64 0, .int .i64 0, .int .i64 0, .int .i64 0, .int .i64 0, .int .i64 0] 37 (0, 0)) ∧
      wr.heap[w.heap.size + 1 + 1 + 1]? = some (.cells #[.int .i64 3, .int .i64 x, .int .i64 y, .int .i64 z, .int .i64 (leastR ds h k).1, .int .i64 (-1)] 37 (0, 0))) (fun i _ _ => len - (intOf i).toNat)
  case atStart => exact ⟨0, Nat.zero_le _, rfl, rfl, fun j hj => absurd hj (Nat.not_lt_zero _), HB4.out, by omega, S11.out, S6.out, S7.out⟩
  case round =>
    clear S6 S7 HB4 S11
    obtain ⟨k, hk, rfl, rfl, hne, hB, hsr, t11, t6, t7⟩ := hrel
    have HNE := Lib.hid hne
    have HIr := Lib.hid (HI.out.below hB)
    have HB := Lib.hid hB
    have T6 := Lib.hid t6
    have T11 := Lib.hid t11
    have hstep : leastR ds h (k + 1) = stepR (namesF (gd ds k) h) (gd ds k).frm ((leastR ds h k).1, (leastR ds h k).2) := rfl
    have hlast : k = len → (leastR ds h k).1 = (leastR ds h ds.length).1 := fun e => by rw [e, HL.out]
    generalize (leastR ds h k).1 = lf at *
    generalize (leastR ds h k).2 = ln at *
    have T7 := Lib.hid t7
    have HSTEP := Lib.hid hstep
    have HLAST := Lib.hid hlast
    clear hB t6 t7 hne hstep hlast
    by_cases hlt : k < len
    · obtain ⟨b, off, v, rfl, q0, q1, q2, q3, q4, q5, hv⟩ := HIr.out.at (j := k) (by rw [← HL.out]; exact hlt)
      obtain ⟨va, vc, rfl, _, _⟩ := hv.form
      have HV := Lib.hid hv
      obtain ⟨d, hd⟩ : ∃ d, d = gd ds k := ⟨_, rfl⟩
      rw [← hd] at q0 q1 q2 q3 q4 q5 HV HSTEP
      have HD := Lib.hid hd
      have HLT := Lib.hid hlt
      clear hv HIr hd HLAST
      obtain ⟨w5, hw5⟩ : ∃ w5, w5 = wr.alloc (.cells #[.int .i64 d.cpu, .int .i64 d.op, .int .i64 d.frm, .int .i64 d.to, .int .i64 d.e, .slice va d.hs.length vc] 73) := ⟨_, rfl⟩
      have hb5 : Below wr.heap.size wr w5 := by rw [hw5]; exact below_alloc _ _
      have hs5 : w5.heap.size = wr.heap.size + 1 := by rw [hw5, World.size_alloc]
      have t9 : w5.heap[wr.heap.size]? = some (.cells #[.int .i64 d.cpu, .int .i64 d.op, .int .i64 d.frm, .int .i64 d.to, .int .i64 d.e, .slice va d.hs.length vc] 73 (0, 0)) := by rw [hw5]; exact World.alloc_heap_new _ _
      have HB5 := Lib.hid (below_then HB.out (below_low hb5 HB.out.size))
      have T65 := Lib.hid ((hb5.block _ (by omega)).trans T6.out)
      have T75 := Lib.hid ((hb5.block _ (by omega)).trans T7.out)
      have T115 := Lib.hid ((hb5.cell (p := ⟨w.heap.size, 11, none⟩) (by show w.heap.size < _; omega)).trans T11.out)
      have HV5 := Lib.hid (HV.out.below hb5)
      have T9 := Lib.hid t9
      clear hb5 T6 T7 T11 HV HB
      go_wp2_with fail
      rw [← hw5]
      clear hw5 q0 q1 q2 q3 q4 q5 t11 t9
      refine (rnames_c d _ h w5 HV5.out).mono ?_
      rintro e w6 ⟨rfl, hb⟩
      have hs6 := hb.size
      have t96 := (hb.block _ (by omega)).trans T9.out
      have t76 := (hb.block _ (by omega)).trans T75.out
      have T66 := Lib.hid ((hb.block _ (by omega)).trans T65.out)
      have T76 := Lib.hid t76
      have T116 := Lib.hid ((hb.cell (p := ⟨w.heap.size, 11, none⟩) (by show w.heap.size < _; omega)).trans T115.out)
      have HB6 := Lib.hid (below_then HB5.out (below_low hb HB5.out.size))
      clear hb
      cases hn : namesF d h with
      | false =>
        have HREL : Hid (∀ j, j < k + 1 → (namesF (gd ds j) h && takesF (gd ds j)) = false) := fun j hj => (Nat.lt_or_ge j k).elim (HNE.out j) (fun h2 => by obtain rfl : j = k := (by omega); rw [← HD.out, hn, Bool.false_and])
        have HST : Hid (leastR ds h (k + 1) = (lf, ln)) := by unfold Hid; rw [HSTEP.out, hn]; rfl
        clear t96 t76 hn
        go_wp2
        go_roundw
        case rel => exact ⟨k + 1, HLT.out, by go_num, by rw [HST.out], HREL.out, HB6.out, by omega, T116.out, T66.out, by rw [HST.out]; exact T76.out⟩
        case measure => simp [intOf]; have := HLT.out; omega
      | true =>
        obtain ⟨⟨e0, _⟩, ⟨e1, _⟩, ⟨e2, _⟩, ⟨e3, _⟩, ⟨e4, _⟩, e5, _⟩ := cells6 t96
        obtain ⟨⟨c70, f70⟩, ⟨c71, f71⟩, ⟨c72, f72⟩, ⟨c73, f73⟩, ⟨c74, f74⟩, c75, f75⟩ := cells6 t76
        obtain ⟨⟨c60, f60⟩, ⟨c61, f61⟩, ⟨c62, f62⟩, ⟨c63, f63⟩, ⟨c64, f64⟩, c65, f65⟩ := cells6 T66.out
        have HN := Lib.hid hn
        clear t96 t76 hn
        cases ht : takesF d with
        | true =>
          have htk : takeFT ds h = (d.frm, d.to) := by
            unfold takeFT; rw [firstAt_some (k := k) (by rw [← HL.out]; exact HLT.out) HNE.out (by rw [← HD.out, HN.out, ht]; rfl)]; rw [HD.out]
          have HTK := Lib.hid htk
          have hop : takesOp d.op = true ∧ (d.e == 0) = true := by rw [takesF_eq] at ht; simpa using ht
          have he0 := hop.2
          have HOP := Lib.hid hop.1
          have hT6 : ∀ u u', ((w6.setCell ⟨w.heap.size + 1 + 1 + 1, 4, none⟩ u).setCell ⟨w.heap.size + 1 + 1 + 1, 5, none⟩ u').heap[w.heap.size + 1 + 1]? = some (.cells #[.int .i64 0, .int .i64 0, .int .i64 0, .int .i64 0, .int .i64 0, .int .i64 0] 37 (0, 0)) := fun u u' => (heap_setCell_other _ _ _ u' (by simp)).trans ((heap_setCell_other _ _ _ u (by simp)).trans T66.out)
          have hbz : ∀ u u', Below w.heap.size w ((w6.setCell ⟨w.heap.size + 1 + 1 + 1, 4, none⟩ u).setCell ⟨w.heap.size + 1 + 1 + 1, 5, none⟩ u') := fun u u' => (HB6.out.setCell (by show w.heap.size ≤ w.heap.size + 1 + 1 + 1; omega) _).setCell (by show w.heap.size ≤ w.heap.size + 1 + 1 + 1; omega) _
          have HT6 := Lib.hid hT6
          have HBZ := Lib.hid hbz
          clear hT6 hbz htk hop ht
          go_wp2_with (go_at_call 59; refine (rtakes_c _ _).mono ?_; rintro e w' ⟨rfl, rfl⟩; rw [HOP.out])
          refine bodyPost_ret (v := .agg #[.int .i64 3, .int .i64 x, .int .i64 y, .int .i64 z, .int .i64 d.frm, .int .i64 d.to]) (by simp [results, Tryz.results24, go_sem, six0 (HT6.out _ _), six1 (HT6.out _ _), six2 (HT6.out _ _), six3 (HT6.out _ _), six4 (HT6.out _ _), six5 (HT6.out _ _)]) rfl ⟨by rw [HTK.out], six_below (HBZ.out _ _) (by omega) _ _ _ _ _ _⟩
        | false =>
          have HREL : Hid (∀ j, j < k + 1 → (namesF (gd ds j) h && takesF (gd ds j)) = false) := fun j hj => (Nat.lt_or_ge j k).elim (HNE.out j) (fun h2 => by obtain rfl : j = k := (by omega); rw [← HD.out, ht, Bool.and_false])
          have HTF := Lib.hid ht
          clear ht
          have T7S : Hid (∀ u, (w6.setCell ⟨w.heap.size + 1 + 1 + 1, 4, none⟩ u).heap[w.heap.size + 1 + 1 + 1]? = some (.cells #[.int .i64 3, .int .i64 x, .int .i64 y, .int .i64 z, u, .int .i64 (-1)] 37 (0, 0))) := fun u => by have := heap_set T76.out 4 u; simpa using this
          have T6S : Hid (∀ u, (w6.setCell ⟨w.heap.size + 1 + 1 + 1, 4, none⟩ u).heap[w.heap.size + 1 + 1]? = some (.cells #[.int .i64 0, .int .i64 0, .int .i64 0, .int .i64 0, .int .i64 0, .int .i64 0] 37 (0, 0))) := fun u => (heap_setCell_other _ _ _ u (by simp)).trans T66.out
          have T11S : Hid (∀ u, (w6.setCell ⟨w.heap.size + 1 + 1 + 1, 4, none⟩ u).cell? ⟨w.heap.size, 11, none⟩ = some (.slice (some ⟨b, off, none⟩) len c)) := fun u => (cell_of_block (heap_setCell_other _ _ _ u (by simp; omega)) 11).trans T116.out
          have HBS : Hid (∀ u, Below w.heap.size w (w6.setCell ⟨w.heap.size + 1 + 1 + 1, 4, none⟩ u)) := fun u => HB6.out.setCell (by show w.heap.size ≤ w.heap.size + 1 + 1 + 1; omega) _
          have HSZ : Hid (∀ u, w.heap.size + 1 + 1 + 1 + 1 ≤ (w6.setCell ⟨w.heap.size + 1 + 1 + 1, 4, none⟩ u).heap.size) := fun u => by rw [World.size_setCell]; omega
          by_cases hst : ln = false ∨ d.frm < lf
          · have HST : Hid (leastR ds h (k + 1) = (d.frm, true)) := by
              unfold Hid; rw [HSTEP.out, HN.out]
              rcases hst with e | e
              · simp [stepR, e]
              · simp [stepR, e]
            cases hto : takesOp d.op with
            | false =>
              have HOP := Lib.hid hto
              clear hto
              rcases hst with e | e
              · subst e
                go_wp2_with (go_at_call 59; refine (rtakes_c _ _).mono ?_; rintro e w' ⟨rfl, rfl⟩; rw [HOP.out])
                go_roundw
                case rel => exact ⟨k + 1, HLT.out, by go_num, by rw [HST.out], HREL.out, HBS.out _, HSZ.out _, T11S.out _, T6S.out _, by rw [HST.out]; exact T7S.out _⟩
                case measure => simp [intOf]; have := HLT.out; omega
              · cases ln
                · go_wp2_with (go_at_call 59; refine (rtakes_c _ _).mono ?_; rintro e w' ⟨rfl, rfl⟩; rw [HOP.out])
                  go_roundw
                  case rel => exact ⟨k + 1, HLT.out, by go_num, by rw [HST.out], HREL.out, HBS.out _, HSZ.out _, T11S.out _, T6S.out _, by rw [HST.out]; exact T7S.out _⟩
                  case measure => simp [intOf]; have := HLT.out; omega
                · go_wp2_with (go_at_call 59; refine (rtakes_c _ _).mono ?_; rintro e w' ⟨rfl, rfl⟩; rw [HOP.out])
                  go_roundw
                  case rel => exact ⟨k + 1, HLT.out, by go_num, by rw [HST.out], HREL.out, HBS.out _, HSZ.out _, T11S.out _, T6S.out _, by rw [HST.out]; exact T7S.out _⟩
                  case measure => simp [intOf]; have := HLT.out; omega
            | true =>
              have HOP := Lib.hid hto
              have he0 : (d.e == 0) = false := by have := HTF.out; rw [takesF_eq, hto] at this; simpa using this
              clear hto
              rcases hst with e | e
              · subst e
                go_wp2_with (go_at_call 59; refine (rtakes_c _ _).mono ?_; rintro e w' ⟨rfl, rfl⟩; rw [HOP.out])
                go_roundw
                case rel => exact ⟨k + 1, HLT.out, by go_num, by rw [HST.out], HREL.out, HBS.out _, HSZ.out _, T11S.out _, T6S.out _, by rw [HST.out]; exact T7S.out _⟩
                case measure => simp [intOf]; have := HLT.out; omega
              · cases ln
                · go_wp2_with (go_at_call 59; refine (rtakes_c _ _).mono ?_; rintro e w' ⟨rfl, rfl⟩; rw [HOP.out])
                  go_roundw
                  case rel => exact ⟨k + 1, HLT.out, by go_num, by rw [HST.out], HREL.out, HBS.out _, HSZ.out _, T11S.out _, T6S.out _, by rw [HST.out]; exact T7S.out _⟩
                  case measure => simp [intOf]; have := HLT.out; omega
                · go_wp2_with (go_at_call 59; refine (rtakes_c _ _).mono ?_; rintro e w' ⟨rfl, rfl⟩; rw [HOP.out])
                  go_roundw
                  case rel => exact ⟨k + 1, HLT.out, by go_num, by rw [HST.out], HREL.out, HBS.out _, HSZ.out _, T11S.out _, T6S.out _, by rw [HST.out]; exact T7S.out _⟩
                  case measure => simp [intOf]; have := HLT.out; omega
          · have hln : ln = true := by cases ln; exact absurd (.inl rfl) hst; rfl
            subst hln
            have hlf : ¬ d.frm < lf := fun e => hst (.inr e)
            have HST : Hid (leastR ds h (k + 1) = (lf, true)) := by
              unfold Hid; rw [HSTEP.out, HN.out]; simp only [stepR, if_true, Bool.not_true, Bool.false_or]; rw [if_neg (by simpa using hlf)]
            clear hst
            cases hto : takesOp d.op with
            | false =>
              have HOP := Lib.hid hto
              clear hto
              go_wp2_with (go_at_call 59; refine (rtakes_c _ _).mono ?_; rintro e w' ⟨rfl, rfl⟩; rw [HOP.out])
              go_roundw
              case rel => exact ⟨k + 1, HLT.out, by go_num, by rw [HST.out], HREL.out, HB6.out, by omega, T116.out, T66.out, by rw [HST.out]; exact T76.out⟩
              case measure => simp [intOf]; have := HLT.out; omega
            | true =>
              have HOP := Lib.hid hto
              have he0 : (d.e == 0) = false := by have := HTF.out; rw [takesF_eq, hto] at this; simpa using this
              clear hto
              go_wp2_with (go_at_call 59; refine (rtakes_c _ _).mono ?_; rintro e w' ⟨rfl, rfl⟩; rw [HOP.out])
              go_roundw
              case rel => exact ⟨k + 1, HLT.out, by go_num, by rw [HST.out], HREL.out, HB6.out, by omega, T116.out, T66.out, by rw [HST.out]; exact T76.out⟩
              case measure => simp [intOf]; have := HLT.out; omega
    · obtain rfl : k = len := by omega
      have htk : takeFT ds h = (lf, -1) := by unfold takeFT; rw [firstAt_none (by rw [← HL.out]; exact HNE.out)]; exact Prod.ext (HLAST.out rfl).symm rfl
      have HTK := Lib.hid htk
      obtain ⟨⟨c60, f60⟩, ⟨c61, f61⟩, ⟨c62, f62⟩, ⟨c63, f63⟩, ⟨c64, f64⟩, c65, f65⟩ := cells6 T6.out
      obtain ⟨⟨c70, f70⟩, ⟨c71, f71⟩, ⟨c72, f72⟩, ⟨c73, f73⟩, ⟨c74, f74⟩, c75, f75⟩ := cells6 T7.out
      clear htk
      go_wp2
      refine bodyPost_ret (v := .agg #[.int .i64 3, .int .i64 x, .int .i64 y, .int .i64 z, .int .i64 lf, .int .i64 (-1)]) (by simp [results, Tryz.results24, go_sem, six0 (T6.out), six1 (T6.out), six2 (T6.out), six3 (T6.out), six4 (T6.out), six5 (T6.out)]) rfl ⟨by rw [HTK.out], six_below HB.out (by omega) _ _ _ _ _ _⟩
end Go.Proofs.YtcpafphgkbfahaaGreat
