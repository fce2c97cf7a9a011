/- The reference: did. Conditions: what lies in memory. -/
import Derived.Test.YtcpafphgkbfahaaGreatJuN
namespace Go.Proofs.YtcpafphgkbfahaaGreat
open Go.RowKit Go.Shelf
set_option linter.unusedVariables false
set_option linter.unusedSimpArgs false

set_option maxHeartbeats 4000000 in
theorem rdid_c {P : Nat → Prop} (now : Int) (v2 v3 v4 v5 v6 v7 v8 v9 v11 : Value) (nd nh c1 c10 : Nat) (a1 a10 : Option Addr) (d : Dd) (v : Value) (w : World) (hI : IntsP P w v d.hs) (hnd : nd ≤ 9223372036854775807) (hnh : nh ≤ 9223372036854775807) :
    Calls Tryz.prog 56 #[.agg #[.int .i64 now, .slice a1 nd c1, v2, v3, v4, v5, v6, v7, v8, v9, .slice a10 nh c10, v11], .agg #[.int .i64 d.cpu, .int .i64 d.op, .int .i64 d.frm, .int .i64 d.to, .int .i64 d.e, v]] w fun e w' => RetB (DidIs now nd nh d) e ∧ Below w.heap.size w w' := by
  obtain ⟨a0, c0, rfl, hlc, hcm⟩ := hI.form
  unfold maxLen at hcm
  obtain ⟨len, hlen⟩ : ∃ len, len = d.hs.length := ⟨_, rfl⟩
  have HL := Lib.hid hlen
  rw [← hlen] at hlc hI ⊢
  obtain ⟨w1, hw1⟩ : ∃ w1, w1 = w.alloc (.cells #[.int .i64 now, .slice a1 nd c1, v2, v3, v4, v5, v6, v7, v8, v9, .slice a10 nh c10, v11] 28) := ⟨_, rfl⟩
  have hb1 : Below w.heap.size w w1 := by rw [hw1]; exact below_alloc _ _
  have hs1 : w1.heap.size = w.heap.size + 1 := by rw [hw1, World.size_alloc]
  have t1 : w1.heap[w.heap.size]? = some (.cells #[.int .i64 now, .slice a1 nd c1, v2, v3, v4, v5, v6, v7, v8, v9, .slice a10 nh c10, v11] 28 (0, 0)) := by rw [hw1]; exact World.alloc_heap_new _ _
  obtain ⟨w2, hw2⟩ : ∃ w2, w2 = w1.alloc (.cells #[.int .i64 d.cpu, .int .i64 d.op, .int .i64 d.frm, .int .i64 d.to, .int .i64 d.e, .slice a0 len c0] 73) := ⟨_, rfl⟩
  have hb12 : Below w1.heap.size w1 w2 := by rw [hw2]; exact below_alloc _ _
  have hb2 := below_on hb1 (Nat.le_refl _) hb12
  have t2 : w2.heap[w.heap.size + 1]? = some (.cells #[.int .i64 d.cpu, .int .i64 d.op, .int .i64 d.frm, .int .i64 d.to, .int .i64 d.e, .slice a0 len c0] 73 (0, 0)) := by rw [hw2, ← hs1]; exact World.alloc_heap_new _ _
  have T1 := Lib.hid ((hb12.block w.heap.size (by omega)).trans t1)
  have T2 := Lib.hid t2
  have HI := Lib.hid (hI.below hb2)
  have HB2 := Lib.hid hb2
  have hno : ∀ (q : Prop), (DidIs now nd nh d → q) → ¬ q → (false = true ↔ DidIs now nd nh d) := fun q h1 h2 => by
    simp only [Bool.false_eq_true, false_iff]; exact fun h => h2 (h1 h)
  have NO := Lib.hid hno
  clear hlen hI hno hb1 hb12 hb2 t1 t2
  obtain ⟨⟨x0, _⟩, ⟨x1, _⟩, ⟨x2, _⟩, ⟨x3, _⟩, ⟨x4, _⟩, x5, _⟩ := cells6 T2.out
  go_enter Tryz.func56, Tryz.ntmps56
  go_wp2_with fail
  rw [← hw1]
  rw [← hw2]
  clear hw1 hw2 x0 x1 x2 x3 x4 x5
  go_loopw [5] (fun i wr => ∃ k : Nat, k ≤ len ∧ i = .int .i64 k ∧ (∀ i, i < k → 0 ≤ gi d.hs i ∧ gi d.hs i ≤ (nh : Int) - 1) ∧ Below w2.heap.size w2 wr) (fun i _ => len - (intOf i).toNat)
  case atStart => exact ⟨0, Nat.zero_le _, rfl, fun j hj => absurd hj (Nat.not_lt_zero _), Below.refl _ _⟩
  case round =>
    obtain ⟨k, hk, rfl, hne, hB⟩ := hrel
    have HNE := Lib.hid hne
    have T1r := Lib.hid ((hB.block _ (Array.getElem?_eq_some_iff.1 T1.out).1).trans T1.out)
    have T2r := Lib.hid ((hB.block _ (Array.getElem?_eq_some_iff.1 T2.out).1).trans T2.out)
    have HIr := Lib.hid (HI.out.below hB)
    have HBr := Lib.hid hB
    have HBR : Hid (Below w.heap.size w wr) := below_then HB2.out (below_low hB HB2.out.size)
    clear hne hB
    obtain ⟨⟨x0, _⟩, ⟨x1, _⟩, ⟨x2, _⟩, ⟨x3, _⟩, ⟨x4, _⟩, x5, _⟩ := cells6 T2r.out
    obtain ⟨⟨y0, _⟩, ⟨y1, _⟩, _, _, _, _, _, _, _, _, ⟨y10, _⟩, _⟩ := cells12 T1r.out
    by_cases hlt : k < len
    · have HLT := Lib.hid hlt
      obtain ⟨b, off, rfl, xk⟩ := HIr.out.at (j := k) (by rw [← HL.out]; exact hlt)
      have hi1 : (k : Int) < (len : Int) := by omega
      have hi0 : (0 : Int) ≤ (k : Int) := by omega
      have hwr : IntKind.i64.wrap ((nh : Int) - 1) = (nh : Int) - 1 := IntWalk.i64_in _ (by omega)
      clear hk
      cases hx : inR (gi d.hs k) 0 ((nh : Int) - 1) with
      | false =>
        have HX := Lib.hid hx
        clear hx
        go_wp2_with fail
        go_quiet ((go_at_call 54; exact withinR_q _ _ _ _ _ _ HX.out))
        go_wp2
        go_ret
        exact ⟨⟨_, rfl, NO.out (inR (gi d.hs k) 0 ((nh : Int) - 1) = true) (fun h => inR_true.2 (h.1 k (by rw [← HL.out]; exact HLT.out))) (by rw [HX.out]; decide)⟩, below_then HBR.out (below_low (below_drewN _ _) HBR.out.size)⟩
      | true =>
        have HX := Lib.hid hx
        clear hx
        go_wp2_with fail
        go_quiet ((go_at_call 54; exact withinR_q _ _ _ _ _ _ HX.out))
        go_wp2
        go_roundw
        case rel => exact ⟨k + 1, HLT.out, by go_num, fun j hj => (Nat.lt_or_ge j k).elim (HNE.out j) (fun h => by obtain rfl : j = k := (by omega); exact inR_true.1 HX.out), below_then HBr.out (below_low (below_drewN _ _) HBr.out.size)⟩
        case measure => simp [intOf]; have := HLT.out; omega
    · obtain rfl : k = len := by omega
      have HHS : Hid (∀ i, i < d.hs.length → 0 ≤ gi d.hs i ∧ gi d.hs i ≤ (nh : Int) - 1) := fun i hi => HNE.out i (by rw [HL.out]; exact hi)
      have HBZ : Hid (Below w.heap.size w wr) := HBR.out
      cases hx : inR d.cpu 0 ((nd : Int) - 1) with
      | false =>
        have HX := Lib.hid hx
        go_wp2_with (go_at_call 54; refine (withinR_c _ _ _ _).mono ?_; rintro e w' ⟨rfl, rfl⟩)
        go_ret
        exact ⟨⟨_, rfl, NO.out (inR d.cpu 0 ((nd : Int) - 1) = true) (fun h => inR_true.2 h.2.1) (by rw [HX.out]; decide)⟩, HBZ.out⟩
      | true =>
      have HX := Lib.hid (inR_true.1 hx)
      by_cases h1 : 0 ≤ d.frm
      · have H1 := Lib.hid h1
        by_cases h2 : d.frm ≤ d.to
        · have H2 := Lib.hid h2
          by_cases h3 : d.to ≤ now
          · have H3 := Lib.hid h3
            go_wp2_with (go_at_call 54; refine (withinR_c _ _ _ _).mono ?_; rintro e w' ⟨rfl, rfl⟩)
            go_ret
            exact ⟨⟨_, rfl, by simp [DidIs]; exact ⟨HHS.out, HX.out, ⟨H1.out, H2.out⟩, H3.out⟩⟩, HBZ.out⟩
          · have H3 := Lib.hid h3
            go_wp2_with (go_at_call 54; refine (withinR_c _ _ _ _).mono ?_; rintro e w' ⟨rfl, rfl⟩)
            go_ret
            have e3 : decide (d.to ≤ now) = false := decide_eq_false (by have := H3.out; omega)
            exact ⟨⟨_, rfl, by first | exact NO.out (d.to ≤ now) (fun h => h.2.2.2) (by have := H3.out; omega) | (rw [e3]; exact NO.out (d.to ≤ now) (fun h => h.2.2.2) (by have := H3.out; omega))⟩, HBZ.out⟩
        · have H2 := Lib.hid h2
          go_wp2_with (go_at_call 54; refine (withinR_c _ _ _ _).mono ?_; rintro e w' ⟨rfl, rfl⟩)
          go_ret
          exact ⟨⟨_, rfl, NO.out (d.frm ≤ d.to) (fun h => h.2.2.1.2) (by have := H2.out; omega)⟩, HBZ.out⟩
      · have H1 := Lib.hid h1
        go_wp2_with (go_at_call 54; refine (withinR_c _ _ _ _).mono ?_; rintro e w' ⟨rfl, rfl⟩)
        go_ret
        exact ⟨⟨_, rfl, NO.out (0 ≤ d.frm) (fun h => h.2.2.1.1) (by have := H1.out; omega)⟩, HBZ.out⟩
end Go.Proofs.YtcpafphgkbfahaaGreat
