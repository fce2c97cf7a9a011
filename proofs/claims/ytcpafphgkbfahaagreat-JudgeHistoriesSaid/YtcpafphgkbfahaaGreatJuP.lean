/- The reference: shaped. Conditions: what lies in memory. -/
import Derived.Test.YtcpafphgkbfahaaGreatJuO
namespace Go.Proofs.YtcpafphgkbfahaaGreat
open Go.RowKit Go.Shelf
set_option linter.unusedVariables false
set_option linter.unusedSimpArgs false

set_option maxRecDepth 100000 in
set_option maxHeartbeats 8000000 in
theorem rshaped_c {P : Nat → Prop} (v1 v2 v3 v4 v5 v6 v7 v8 v9 v10 v11 : Value) (S : Sn) (w : World) (hS : SnP P w v1 v2 v3 v4 v5 v6 v7 v8 v9 v10 v11 S) :
    Calls Tryz.prog 22 #[.agg #[.int .i64 S.now, v1, v2, v3, v4, v5, v6, v7, v8, v9, v10, v11]] w fun e w' => RetB (ShapedR S) e ∧ Below w.heap.size w w' := by
  obtain ⟨a1, c1, e1, l1, k1⟩ := hS.d.form
  obtain ⟨a2, c2, e2, l2, k2⟩ := hS.p.form
  obtain ⟨a3, c3, e3, l3, k3⟩ := hS.u.form
  obtain ⟨a4, c4, e4, l4, k4⟩ := hS.m.form
  obtain ⟨a5, c5, e5, l5, k5⟩ := hS.o.form
  obtain ⟨a6, c6, e6, l6, k6⟩ := hS.h.form
  obtain ⟨a7, c7, e7, l7, k7⟩ := hS.f.form
  obtain ⟨a8, c8, e8, l8, k8⟩ := hS.t.form
  obtain ⟨a9, c9, e9, l9, k9⟩ := hS.c.form
  obtain ⟨a10, c10, e10, l10, k10⟩ := hS.hs.form
  obtain ⟨a11, c11, e11, l11, k11⟩ := hS.ds.form
  subst e1 e2 e3 e4 e5 e6 e7 e8 e9 e10 e11
  unfold maxLen at k1 k2 k3 k4 k5 k6 k7 k8 k9 k10 k11
  obtain ⟨n1, h1⟩ : ∃ n, n = S.depths.length := ⟨_, rfl⟩
  obtain ⟨n2, h2⟩ : ∃ n, n = S.paths.length := ⟨_, rfl⟩
  obtain ⟨n3, h3⟩ : ∃ n, n = S.used.length := ⟨_, rfl⟩
  obtain ⟨n4, h4⟩ : ∃ n, n = S.most.length := ⟨_, rfl⟩
  obtain ⟨n5, h5⟩ : ∃ n, n = S.owned.length := ⟨_, rfl⟩
  obtain ⟨n6, h6⟩ : ∃ n, n = S.held.length := ⟨_, rfl⟩
  obtain ⟨n7, h7⟩ : ∃ n, n = S.flies.length := ⟨_, rfl⟩
  obtain ⟨n8, h8⟩ : ∃ n, n = S.tags.length := ⟨_, rfl⟩
  obtain ⟨n9, h9⟩ : ∃ n, n = S.caches.length := ⟨_, rfl⟩
  obtain ⟨n10, h10⟩ : ∃ n, n = S.handles.length := ⟨_, rfl⟩
  obtain ⟨n11, h11⟩ : ∃ n, n = S.dids.length := ⟨_, rfl⟩
  rw [← h1, ← h2, ← h3, ← h4, ← h5, ← h6, ← h7, ← h8, ← h9, ← h10, ← h11] at hS ⊢
  rw [← h1] at l1
  have H1 := Lib.hid h1
  rw [← h2] at l2
  have H2 := Lib.hid h2
  rw [← h3] at l3
  have H3 := Lib.hid h3
  rw [← h4] at l4
  have H4 := Lib.hid h4
  rw [← h5] at l5
  have H5 := Lib.hid h5
  rw [← h6] at l6
  have H6 := Lib.hid h6
  rw [← h7] at l7
  have H7 := Lib.hid h7
  rw [← h8] at l8
  have H8 := Lib.hid h8
  rw [← h9] at l9
  have H9 := Lib.hid h9
  rw [← h10] at l10
  have H10 := Lib.hid h10
  rw [← h11] at l11
  have H11 := Lib.hid h11
  clear h1 h2 h3 h4 h5 h6 h7 h8 h9 h10 h11
  obtain ⟨w1, hw1⟩ : ∃ w1, w1 = w.alloc (.cells #[.int .i64 S.now, .slice a1 n1 c1, .slice a2 n2 c2, .slice a3 n3 c3, .slice a4 n4 c4, .slice a5 n5 c5, .slice a6 n6 c6, .slice a7 n7 c7, .slice a8 n8 c8, .slice a9 n9 c9, .slice a10 n10 c10, .slice a11 n11 c11] 28) := ⟨_, rfl⟩
  have hb1 : Below w.heap.size w w1 := by rw [hw1]; exact below_alloc _ _
  have hs1 : w1.heap.size = w.heap.size + 1 := by rw [hw1]; simp
  have t1 : w1.heap[w.heap.size]? = some (.cells #[.int .i64 S.now, .slice a1 n1 c1, .slice a2 n2 c2, .slice a3 n3 c3, .slice a4 n4 c4, .slice a5 n5 c5, .slice a6 n6 c6, .slice a7 n7 c7, .slice a8 n8 c8, .slice a9 n9 c9, .slice a10 n10 c10, .slice a11 n11 c11] 28 (0, 0)) := by rw [hw1]; exact World.alloc_heap_new _ _
  have no : ∀ (q : Prop), (ShapedR S → q) → ¬ q → (false = true ↔ ShapedR S) := fun q h1 h2 => by
    simp only [Bool.false_eq_true, false_iff]; exact fun h => h2 (h1 h)
  have NO := Lib.hid no
  have T1 := Lib.hid t1
  have HB1 := Lib.hid hb1
  have HS1 := Lib.hid (hS.below hb1)
  clear hb1 hS no
  obtain ⟨⟨y0, _⟩, ⟨y1, _⟩, ⟨y2, _⟩, ⟨y3, _⟩, ⟨y4, _⟩, ⟨y5, _⟩, ⟨y6, _⟩, ⟨y7, _⟩, ⟨y8, _⟩, ⟨y9, _⟩, ⟨y10, _⟩, y11, _⟩ := cells12 t1
  clear t1
  go_enter Tryz.func22, Tryz.ntmps22
  cases hx1 : inR n1 1 8 with
  | false =>
    have X := Lib.hid (inR_false.1 hx1)
    go_wp2_with (go_at_call 54; refine (withinR_c _ _ _ _).mono ?_; rintro e w' ⟨rfl, rfl⟩; (try rw [← hw1]))
    go_ret
    exact ⟨⟨_, rfl, NO.out (1 ≤ n1 ∧ n1 ≤ 8) (fun h => by rw [H1.out]; exact h.1.1) (fun h => by have := X.out; omega)⟩, by first | exact HB1.out | (rw [← hw1]; exact HB1.out)⟩
  | true =>
  have X1 := Lib.hid (inR_true.1 hx1)
  cases hx2 : inR n2 1 16 with
  | false =>
    have X := Lib.hid (inR_false.1 hx2)
    go_wp2_with (go_at_call 54; refine (withinR_c _ _ _ _).mono ?_; rintro e w' ⟨rfl, rfl⟩; (try rw [← hw1]))
    go_ret
    exact ⟨⟨_, rfl, NO.out (1 ≤ n2 ∧ n2 ≤ 16) (fun h => by rw [H2.out]; exact h.1.2.1) (fun h => by have := X.out; omega)⟩, by first | exact HB1.out | (rw [← hw1]; exact HB1.out)⟩
  | true =>
  have X2 := Lib.hid (inR_true.1 hx2)
  cases hx8 : inR n8 1 1024 with
  | false =>
    have X := Lib.hid (inR_false.1 hx8)
    go_wp2_with (go_at_call 54; refine (withinR_c _ _ _ _).mono ?_; rintro e w' ⟨rfl, rfl⟩; (try rw [← hw1]))
    go_ret
    exact ⟨⟨_, rfl, NO.out (1 ≤ n8 ∧ n8 ≤ 1024) (fun h => by rw [H8.out]; exact h.1.2.2) (fun h => by have := X.out; omega)⟩, by first | exact HB1.out | (rw [← hw1]; exact HB1.out)⟩
  | true =>
  have X8 := Lib.hid (inR_true.1 hx8)
  cases hy3 : ((n3 : Int) != (n2 : Int)) with
  | true =>
    have X : Hid (¬ n3 = n2) := by unfold Hid; simp at hy3; omega
    go_wp2_with (go_at_call 54; refine (withinR_c _ _ _ _).mono ?_; rintro e w' ⟨rfl, rfl⟩; (try rw [← hw1]))
    go_ret
    exact ⟨⟨_, rfl, NO.out (n3 = n2) (fun h => by rw [H3.out, H2.out]; exact h.2.1.1) X.out⟩, by first | exact HB1.out | (rw [← hw1]; exact HB1.out)⟩
  | false =>
  have Y3 : Hid (n3 = n2) := by unfold Hid; simp at hy3; omega
  cases hy4 : ((n4 : Int) != (n2 : Int)) with
  | true =>
    have X : Hid (¬ n4 = n2) := by unfold Hid; simp at hy4; omega
    go_wp2_with (go_at_call 54; refine (withinR_c _ _ _ _).mono ?_; rintro e w' ⟨rfl, rfl⟩; (try rw [← hw1]))
    go_ret
    exact ⟨⟨_, rfl, NO.out (n4 = n2) (fun h => by rw [H4.out, H2.out]; exact h.2.1.2.1) X.out⟩, by first | exact HB1.out | (rw [← hw1]; exact HB1.out)⟩
  | false =>
  have Y4 : Hid (n4 = n2) := by unfold Hid; simp at hy4; omega
  cases hy5 : ((n5 : Int) != (n2 : Int)) with
  | true =>
    have X : Hid (¬ n5 = n2) := by unfold Hid; simp at hy5; omega
    go_wp2_with (go_at_call 54; refine (withinR_c _ _ _ _).mono ?_; rintro e w' ⟨rfl, rfl⟩; (try rw [← hw1]))
    go_ret
    exact ⟨⟨_, rfl, NO.out (n5 = n2) (fun h => by rw [H5.out, H2.out]; exact h.2.1.2.2.1) X.out⟩, by first | exact HB1.out | (rw [← hw1]; exact HB1.out)⟩
  | false =>
  have Y5 : Hid (n5 = n2) := by unfold Hid; simp at hy5; omega
  cases hy6 : ((n6 : Int) != (n2 : Int)) with
  | true =>
    have X : Hid (¬ n6 = n2) := by unfold Hid; simp at hy6; omega
    go_wp2_with (go_at_call 54; refine (withinR_c _ _ _ _).mono ?_; rintro e w' ⟨rfl, rfl⟩; (try rw [← hw1]))
    go_ret
    exact ⟨⟨_, rfl, NO.out (n6 = n2) (fun h => by rw [H6.out, H2.out]; exact h.2.1.2.2.2.1) X.out⟩, by first | exact HB1.out | (rw [← hw1]; exact HB1.out)⟩
  | false =>
  have Y6 : Hid (n6 = n2) := by unfold Hid; simp at hy6; omega
  cases hy7 : ((n7 : Int) != (n2 : Int)) with
  | true =>
    have X : Hid (¬ n7 = n2) := by unfold Hid; simp at hy7; omega
    go_wp2_with (go_at_call 54; refine (withinR_c _ _ _ _).mono ?_; rintro e w' ⟨rfl, rfl⟩; (try rw [← hw1]))
    go_ret
    exact ⟨⟨_, rfl, NO.out (n7 = n2) (fun h => by rw [H7.out, H2.out]; exact h.2.1.2.2.2.2) X.out⟩, by first | exact HB1.out | (rw [← hw1]; exact HB1.out)⟩
  | false =>
  have Y7 : Hid (n7 = n2) := by unfold Hid; simp at hy7; omega
  have HEN : Hid (Ends S) := by
    have x1 := X1.out; have x2 := X2.out; have x8 := X8.out
    rw [H1.out] at x1; rw [H2.out] at x2; rw [H8.out] at x8
    refine ⟨⟨?_, ?_⟩, ⟨?_, ?_⟩, ?_, ?_⟩
    · have := x1.1; show 1 ≤ S.depths.length; omega
    · have := x1.2; show S.depths.length ≤ 8; omega
    · have := x2.1; omega
    · have := x2.2; omega
    · have := x8.1; omega
    · have := x8.2; omega
  have HLE : Hid (Lens S) := by
    have e3 := Y3.out; have e4 := Y4.out; have e5 := Y5.out; have e6 := Y6.out; have e7 := Y7.out
    rw [H3.out, H2.out] at e3; rw [H4.out, H2.out] at e4; rw [H5.out, H2.out] at e5; rw [H6.out, H2.out] at e6; rw [H7.out, H2.out] at e7
    exact ⟨e3, e4, e5, e6, e7⟩
  go_wp2_with (go_at_call 54; refine (withinR_c _ _ _ _).mono ?_; rintro e w' ⟨rfl, rfl⟩; (try rw [← hw1]))
  (try rw [← hw1])
  clear hw1 hx1 hx2 hx8 hy3 hy4 hy5 hy6 hy7 y0 y1 y2 y3 y4 y5 y6 y7 y8 y9 y10 y11

  go_loopw [4] (fun i wr => ∃ k : Nat, k ≤ n2 ∧ i = .int .i64 k ∧ (∀ j, j < k → PathR (gp S.paths j) ((j : Int) + 1) n2) ∧ Below w1.heap.size w1 wr) (fun i _ => n2 - (intOf i).toNat)
  case atStart => exact ⟨0, Nat.zero_le _, rfl, fun j hj => absurd hj (Nat.not_lt_zero _), Below.refl _ _⟩
  case round =>
    obtain ⟨k, hk, rfl, hne, hB⟩ := hrel
    have HNE := Lib.hid hne
    have T1r := Lib.hid ((hB.block _ (Array.getElem?_eq_some_iff.1 T1.out).1).trans T1.out)
    have HSr := Lib.hid (HS1.out.below hB)
    have HBr := Lib.hid hB
    have HBR : Hid (Below w.heap.size w wr) := below_then HB1.out (below_low hB HB1.out.size)
    clear hne hB 
    obtain ⟨⟨y0, _⟩, ⟨y1, _⟩, ⟨y2, _⟩, ⟨y3, _⟩, ⟨y4, _⟩, ⟨y5, _⟩, ⟨y6, _⟩, ⟨y7, _⟩, ⟨y8, _⟩, ⟨y9, _⟩, ⟨y10, _⟩, y11, _⟩ := cells12 T1r.out
    by_cases hlt : k < n2
    · have HLT := Lib.hid hlt
      obtain ⟨b, off, v, rfl, x, hv⟩ := HSr.out.p.at (j := k) (by rw [← H2.out]; exact hlt)
      obtain ⟨pa, pc, rfl, _, _⟩ := hv.form
      have HC := Lib.hid (rpath_c _ _ ((k : Int) + 1) n2 wr hv)
      clear hv
      go_wp2_with fail
      refine HC.out.mono ?_
      rintro e w2 ⟨⟨bo, rfl, hbo⟩, hb⟩
      have HBO := Lib.hid hbo
      have HB2 := Lib.hid (below_then HBr.out (below_low hb HBr.out.size))
      have HBZ := Lib.hid (below_then HBR.out (below_low hb HBR.out.size))
      clear hb hbo HC x y0 y1 y2 y3 y4 y5 y6 y7 y8 y9 y10 y11
      cases bo with
      | false =>
        go_wp2
        go_ret
        exact ⟨⟨_, rfl, NO.out (PathR (gp S.paths k) ((k : Int) + 1) n2) (fun h => by have := h.2.2.1 k (by rw [← H2.out]; exact HLT.out); rwa [← H2.out] at this) (fun h => by cases HBO.out.2 h)⟩, HBZ.out⟩
      | true =>
        go_wp2
        go_roundw
        case rel => exact ⟨k + 1, HLT.out, by go_num, fun j hj => (Nat.lt_or_ge j k).elim (HNE.out j) (fun h => by obtain rfl : j = k := (by omega); exact HBO.out.1 (by trivial)), HB2.out⟩
        case measure => simp [intOf]; have := HLT.out; omega
    · obtain rfl : n2 = k := by omega
      have HPR : Hid (PathsR S) := fun g hg => by rw [← H2.out]; exact HNE.out g (by rw [H2.out]; exact hg)
      go_wp2
      clear y0 y1 y2 y3 y4 y5 y6 y7 y8 y9 y10 y11

      go_loopw [5] (fun i wr => ∃ k : Nat, k ≤ n8 ∧ i = .int .i64 k ∧ (∀ j, j < k → inR (gi S.tags j) 0 n9 = true) ∧ Below w1.heap.size w1 wr) (fun i _ => n8 - (intOf i).toNat)
      case atStart => exact ⟨0, Nat.zero_le _, rfl, fun j hj => absurd hj (Nat.not_lt_zero _), HBr.out⟩
      case round =>
        obtain ⟨k, hk, rfl, hne, hB⟩ := hrel
        have HNE := Lib.hid hne
        have T1r := Lib.hid ((hB.block _ (Array.getElem?_eq_some_iff.1 T1.out).1).trans T1.out)
        have HSr := Lib.hid (HS1.out.below hB)
        have HBr := Lib.hid hB
        have HBR : Hid (Below w.heap.size w wr) := below_then HB1.out (below_low hB HB1.out.size)
        clear hne hB 
        obtain ⟨⟨y0, _⟩, ⟨y1, _⟩, ⟨y2, _⟩, ⟨y3, _⟩, ⟨y4, _⟩, ⟨y5, _⟩, ⟨y6, _⟩, ⟨y7, _⟩, ⟨y8, _⟩, ⟨y9, _⟩, ⟨y10, _⟩, y11, _⟩ := cells12 T1r.out
        by_cases hlt : k < n8
        · have HLT := Lib.hid hlt
          obtain ⟨b, off, rfl, x⟩ := HSr.out.t.at (j := k) (by rw [← H8.out]; exact hlt)
          have hi1 : (k : Int) < (n8 : Int) := by omega
          have hi0 : (0 : Int) ≤ (k : Int) := by omega
          have hwr : IntKind.i64.wrap ((n9 : Int) - 1) = (n9 : Int) - 1 := IntWalk.i64_in _ (by omega)
          cases hx : inR (gi S.tags k) 0 n9 with
          | false =>
            have HX := Lib.hid hx
            clear hx
            go_wp2_with fail
            go_quiet ((go_at_call 54; exact withinR_q _ _ _ _ _ _ HX.out))
            go_wp2
            go_ret
            exact ⟨⟨_, rfl, NO.out (inR (gi S.tags k) 0 n9 = true) (fun h => by have := h.2.2.2.1 k (by rw [← H8.out]; exact HLT.out); rw [H9.out]; exact inR_true.2 this) (by rw [HX.out]; decide)⟩, below_then HBR.out (below_low (below_drewN _ _) HBR.out.size)⟩
          | true =>
            have HX := Lib.hid hx
            clear hx
            go_wp2_with fail
            go_quiet ((go_at_call 54; exact withinR_q _ _ _ _ _ _ HX.out))
            go_wp2
            go_roundw
            case rel => exact ⟨k + 1, HLT.out, by go_num, fun j hj => (Nat.lt_or_ge j k).elim (HNE.out j) (fun h => by obtain rfl : j = k := (by omega); exact HX.out), below_then HBr.out (below_low (below_drewN _ _) HBr.out.size)⟩
            case measure => simp [intOf]; have := HLT.out; omega
        · obtain rfl : n8 = k := by omega
          have HTA : Hid (TagsOk S) := fun g hg => by have := inR_true.1 (HNE.out g (by rw [H8.out]; exact hg)); rw [H9.out] at this; exact this
          go_wp2
          clear y0 y1 y2 y3 y4 y5 y6 y7 y8 y9 y10 y11

          go_loopw [6] (fun i wr => ∃ k : Nat, k ≤ n10 ∧ i = .int .i64 k ∧ (∀ j, j < k → inR (gh S.handles j).cache 0 ((n9 : Int) - 1) = true) ∧ Below w1.heap.size w1 wr) (fun i _ => n10 - (intOf i).toNat)
          case atStart => exact ⟨0, Nat.zero_le _, rfl, fun j hj => absurd hj (Nat.not_lt_zero _), HBr.out⟩
          case round =>
            obtain ⟨k, hk, rfl, hne, hB⟩ := hrel
            have HNE := Lib.hid hne
            have T1r := Lib.hid ((hB.block _ (Array.getElem?_eq_some_iff.1 T1.out).1).trans T1.out)
            have HSr := Lib.hid (HS1.out.below hB)
            have HBr := Lib.hid hB
            have HBR : Hid (Below w.heap.size w wr) := below_then HB1.out (below_low hB HB1.out.size)
            clear hne hB 
            obtain ⟨⟨y0, _⟩, ⟨y1, _⟩, ⟨y2, _⟩, ⟨y3, _⟩, ⟨y4, _⟩, ⟨y5, _⟩, ⟨y6, _⟩, ⟨y7, _⟩, ⟨y8, _⟩, ⟨y9, _⟩, ⟨y10, _⟩, y11, _⟩ := cells12 T1r.out
            by_cases hlt : k < n10
            · have HLT := Lib.hid hlt
              obtain ⟨b, off, rfl, x, x1, x2, x3, x4⟩ := HSr.out.hs.at (j := k) (by rw [← H10.out]; exact hlt)
              have hi1 : (k : Int) < (n10 : Int) := by omega
              have hi0 : (0 : Int) ≤ (k : Int) := by omega
              have hwr : IntKind.i64.wrap ((n9 : Int) - 1) = (n9 : Int) - 1 := IntWalk.i64_in _ (by omega)
              cases hx : inR (gh S.handles k).cache 0 ((n9 : Int) - 1) with
              | false =>
                have HX := Lib.hid hx
                clear hx
                go_wp2_with fail
                go_quiet ((go_at_call 54; exact withinR_q _ _ _ _ _ _ HX.out))
                go_wp2
                go_ret
                exact ⟨⟨_, rfl, NO.out (inR (gh S.handles k).cache 0 ((n9 : Int) - 1) = true) (fun h => by have := h.2.2.2.2.1 k (by rw [← H10.out]; exact HLT.out); rw [H9.out]; exact inR_true.2 this) (by rw [HX.out]; decide)⟩, below_then HBR.out (below_low (below_drewN _ _) HBR.out.size)⟩
              | true =>
                have HX := Lib.hid hx
                clear hx
                go_wp2_with fail
                go_quiet ((go_at_call 54; exact withinR_q _ _ _ _ _ _ HX.out))
                go_wp2
                go_roundw
                case rel => exact ⟨k + 1, HLT.out, by go_num, fun j hj => (Nat.lt_or_ge j k).elim (HNE.out j) (fun h => by obtain rfl : j = k := (by omega); exact HX.out), below_then HBr.out (below_low (below_drewN _ _) HBr.out.size)⟩
                case measure => simp [intOf]; have := HLT.out; omega
            · obtain rfl : n10 = k := by omega
              have HHA : Hid (HandlesOk S) := fun g hg => by have := inR_true.1 (HNE.out g (by rw [H10.out]; exact hg)); rw [H9.out] at this; exact this
              go_wp2
              clear y0 y1 y2 y3 y4 y5 y6 y7 y8 y9 y10 y11

              go_loopw [7] (fun i wr => ∃ k : Nat, k ≤ n11 ∧ i = .int .i64 k ∧ (∀ j, j < k → DidIs S.now n1 n10 (gd S.dids j)) ∧ Below w1.heap.size w1 wr) (fun i _ => n11 - (intOf i).toNat)
              case atStart => exact ⟨0, Nat.zero_le _, rfl, fun j hj => absurd hj (Nat.not_lt_zero _), HBr.out⟩
              case round =>
                obtain ⟨k, hk, rfl, hne, hB⟩ := hrel
                have HNE := Lib.hid hne
                have T1r := Lib.hid ((hB.block _ (Array.getElem?_eq_some_iff.1 T1.out).1).trans T1.out)
                have HSr := Lib.hid (HS1.out.below hB)
                have HBr := Lib.hid hB
                have HBR : Hid (Below w.heap.size w wr) := below_then HB1.out (below_low hB HB1.out.size)
                clear hne hB 
                obtain ⟨⟨y0, _⟩, ⟨y1, _⟩, ⟨y2, _⟩, ⟨y3, _⟩, ⟨y4, _⟩, ⟨y5, _⟩, ⟨y6, _⟩, ⟨y7, _⟩, ⟨y8, _⟩, ⟨y9, _⟩, ⟨y10, _⟩, y11, _⟩ := cells12 T1r.out
                by_cases hlt : k < n11
                · have HLT := Lib.hid hlt
                  obtain ⟨b, off, v, rfl, q0, q1, q2, q3, q4, q5, hv⟩ := HSr.out.ds.at (j := k) (by rw [← H11.out]; exact hlt)
                  obtain ⟨va, vc, rfl, _, _⟩ := hv.form
                  have HC : Hid (∀ m, Calls Tryz.prog 56 #[.agg #[.int .i64 S.now, .slice a1 n1 c1, .slice a2 n2 c2, .slice a3 n3 c3, .slice a4 n4 c4, .slice a5 n5 c5, .slice a6 n6 c6, .slice a7 n7 c7, .slice a8 n8 c8, .slice a9 n9 c9, .slice a10 n10 c10, .slice (some ⟨b, off, none⟩) n11 c11], .agg #[.int .i64 (gd S.dids k).cpu, .int .i64 (gd S.dids k).op, .int .i64 (gd S.dids k).frm, .int .i64 (gd S.dids k).to, .int .i64 (gd S.dids k).e, .slice va (gd S.dids k).hs.length vc]] (wr.drewN m) fun e w' => RetB (DidIs S.now n1 n10 (gd S.dids k)) e ∧ Below (wr.drewN m).heap.size (wr.drewN m) w') :=
                    fun m => rdid_c _ _ _ _ _ _ _ _ _ _ n1 n10 _ _ _ _ (gd S.dids k) _ _ (hv.below (below_drewN wr m)) (by omega) (by omega)
                  have hi1 : (k : Int) < (n11 : Int) := by omega
                  have hi0 : (0 : Int) ≤ (k : Int) := by omega
                  clear hv
                  go_wp2_with fail
                  go_still_tail 6, (by kernel_rfl)
                  change wpList _ _ _ _ _ wr.drew
                  go_wp2_with fail
                  refine (show Calls _ _ _ wr.drew _ from HC.out 1).mono ?_
                  rintro e w2 ⟨⟨bo, rfl, hbo⟩, hb⟩
                  have HBO := Lib.hid hbo
                  have hb : Below wr.heap.size wr w2 := below_then (below_drewN wr 1) (below_low hb (Nat.le_refl _))
                  have HB2 := Lib.hid (below_then HBr.out (below_low hb HBr.out.size))
                  have HBZ := Lib.hid (below_then HBR.out (below_low hb HBR.out.size))
                  clear hb hbo HC q0 q1 q2 q3 q4 q5 y0 y1 y2 y3 y4 y5 y6 y7 y8 y9 y10 y11
                  cases bo with
                  | false =>
                    go_wp2
                    go_ret
                    exact ⟨⟨_, rfl, NO.out (DidIs S.now n1 n10 (gd S.dids k)) (fun h => by have := h.2.2.2.2.2 k (by rw [← H11.out]; exact HLT.out); rw [H1.out, H10.out]; exact this) (fun h => by cases HBO.out.2 h)⟩, HBZ.out⟩
                  | true =>
                    go_wp2
                    go_roundw
                    case rel => exact ⟨k + 1, HLT.out, by go_num, fun j hj => (Nat.lt_or_ge j k).elim (HNE.out j) (fun h => by obtain rfl : j = k := (by omega); exact HBO.out.1 (by trivial)), HB2.out⟩
                    case measure => simp [intOf]; have := HLT.out; omega
                · obtain rfl : n11 = k := by omega
                  have HDI : Hid (DidsOk S) := fun g hg => by have := HNE.out g (by rw [H11.out]; exact hg); rw [H1.out, H10.out] at this; exact this
                  go_wp2
                  go_ret
                  exact ⟨⟨_, rfl, by simp only [true_iff]; exact ⟨HEN.out, HLE.out, HPR.out, HTA.out, HHA.out, HDI.out⟩⟩, HBR.out⟩
end Go.Proofs.YtcpafphgkbfahaaGreat
