/- judge.paths. Conditions: what lies in memory. -/
import Derived.Test.YtcpafphgkbfahaaGreatJuG
namespace Go.Proofs.YtcpafphgkbfahaaGreat
open Go.RowKit Go.Shelf
set_option linter.unusedVariables false
set_option linter.unusedSimpArgs false

set_option maxHeartbeats 2000000 in
theorem paths_c {P : Nat → Prop} (sv : Value) (l : List (List Int)) (w : World) (hI : PathsP P w sv l) (hr : ∀ g, g < l.length → (gp l g).length * 8 ≤ 140737488351232) :
    Calls Tryz.prog 48 #[sv] w fun e w' => RetB (∀ g, g < l.length → PathJ (gp l g) ((g : Int) + 1)) e ∧ Below w.heap.size w w' := by
  obtain ⟨a0, c0, rfl, hlc, hcm⟩ := hI.form
  unfold maxLen at hcm
  obtain ⟨len, hlen⟩ : ∃ len, len = l.length := ⟨_, rfl⟩
  have HL := Lib.hid hlen
  rw [← hlen] at hlc ⊢
  have HI := Lib.hid hI
  have HRE := Lib.hid hr
  clear hlen hI hr
  go_enter Tryz.func48, Tryz.ntmps48
  go_wp2
  go_loopw [7] (fun i wr => ∃ k : Nat, k ≤ len ∧ i = .int .i64 k ∧ (∀ g, g < k → PathJ (gp l g) ((g : Int) + 1)) ∧ Below w.heap.size w wr) (fun i _ => len - (intOf i).toNat)
  case atStart => exact ⟨0, Nat.zero_le _, rfl, fun j hj => absurd hj (Nat.not_lt_zero _), Below.refl _ _⟩
  case round =>
    obtain ⟨k, hk, rfl, hne, hB⟩ := hrel
    have HNE := Lib.hid hne
    have HIr := Lib.hid (HI.out.below hB)
    have HB := Lib.hid hB
    clear hne hB
    by_cases hlt : k < len
    · obtain ⟨b, off, v, rfl, x, hv⟩ := HIr.out.at (j := k) (by rw [← HL.out]; exact hlt)
      obtain ⟨pa, pc, rfl, hpc, hpm⟩ := hv.form
      unfold maxLen at hpm
      have hrk := HRE.out k (by rw [← HL.out]; exact hlt)
      have hno : ∀ e : ¬ PathJ (gp l k) ((k : Int) + 1), (false = true ↔ ∀ g, g < len → PathJ (gp l g) ((g : Int) + 1)) := fun e => by
        simp only [Bool.false_eq_true, false_iff]; intro h; exact e (h k hlt)
      have HNO := Lib.hid hno
      clear hno
      obtain ⟨n, hn⟩ : ∃ n, n = (gp l k).length := ⟨_, rfl⟩
      rw [← hn] at hpc hrk x hv
      have HN := Lib.hid hn
      have HV := Lib.hid hv
      clear hn hv
      by_cases h0 : n = 0
      · subst h0
        go_wp2
        go_ret
        exact ⟨⟨_, rfl, HNO.out (fun h => by have h1 := h.1; have h2 := HN.out; omega)⟩, HB.out⟩
      · obtain ⟨m, rfl⟩ : ∃ m, n = m + 1 := ⟨n - 1, by omega⟩
        obtain ⟨b2, off2, rfl, y0⟩ := HV.out.at (j := 0) (by rw [← HN.out]; omega)
        rw [Nat.add_zero] at y0
        obtain ⟨b3, off3, e, ym⟩ := HV.out.at (j := m) (by rw [← HN.out]; omega)
        simp only [Option.some.injEq, Addr.mk.injEq, and_true] at e
        obtain ⟨rfl, rfl⟩ := e
        clear h0
        by_cases h1 : gi (gp l k) 0 < 1
        · have H1 := Lib.hid h1
          go_wp2
          go_ret
          exact ⟨⟨_, rfl, HNO.out (fun h => by have := h.2.1; have := H1.out; omega)⟩, HB.out⟩
        · have H1 := Lib.hid h1
          by_cases h2 : gi (gp l k) m = (k : Int) + 1
          · have H2 := Lib.hid h2
            have h2b : (gi (gp l k) m == (k : Int) + 1) = true := by simpa using h2
            clear h2
            have hSO := sorted_c _ _ wr HV.out
            rw [← HN.out] at hSO
            have HSO := Lib.hid hSO
            clear hSO
            go_wp2_with fail
            refine HSO.out.mono ?_
            rintro e w1 ⟨⟨bo, rfl, hbo⟩, hb⟩
            have HBO := Lib.hid hbo
            have HB1 := Lib.hid (below_then HB.out (below_low hb HB.out.size))
            have HV1 := Lib.hid (HV.out.below hb)
            clear hb hbo HIr HSO y0 ym x
            cases bo with
            | false =>
              go_wp2
              go_ret
              refine ⟨⟨_, rfl, HNO.out (fun h => ?_)⟩, HB1.out⟩
              have := HBO.out.2 (fun i hi => h.2.2.2.1 i (by rw [← HN.out]; exact hi))
              cases this
            | true =>
              have hCL := clone_c _ _ w1 HV1.out (by rw [← HN.out]; omega) (by rw [← HN.out]; omega)
              rw [← HN.out] at hCL
              have HCL := Lib.hid hCL
              clear hCL
              go_wp2_with fail
              refine HCL.out.mono ?_
              rintro e w2 ⟨g, cap, rfl, hown, hb⟩
              have hf := hown.form (by omega)
              obtain ⟨g', cap', e', hg1, hg2⟩ := hf
              have hcc : m + 1 ≤ cap ∧ cap ≤ maxLen := by
                rcases hown.2 with ⟨h', _⟩ | ⟨g1, cap1, cur, h', _, _, q1, q2, _⟩
                · cases h'
                · simp only [Value.slice.injEq, true_and] at h'; rw [h'.2]; exact ⟨q1, q2⟩
              unfold maxLen at hcc
              have hCO := compact_c w1.heap.size g cap (gp l k) w2 (by rw [← HN.out]; exact hown) (by rw [← HN.out]; exact hcc.1) (by omega)
              rw [← HN.out] at hCO
              have HCO := Lib.hid hCO
              have HB2 := Lib.hid (below_then HB1.out (below_low hb HB1.out.size))
              have hs2 := hb.size
              clear hCO hown hb e' hg1 hg2 HCL
              go_wp2_with fail
              refine HCO.out.mono ?_
              rintro e w3 ⟨⟨m', c', rfl, hm1, hm2⟩, hb⟩
              have HM := Lib.hid hm2
              have HB3 := Lib.hid (below_then HB2.out (below_low hb (Nat.le_trans HB1.out.size (Nat.le_refl _))))
              clear hb HCO hm2
              by_cases hmm : m' = m + 1
              · have HMM := Lib.hid hmm
                subst hmm
                go_wp2
                go_roundw
                case rel =>
                  refine ⟨k + 1, by omega, by go_num, fun g hg => ?_, HB3.out⟩
                  rcases Nat.lt_or_ge g k with hgk | hgk
                  · exact HNE.out g hgk
                  · obtain rfl : g = k := by omega
                    refine ⟨by rw [← HN.out]; omega, by have := H1.out; omega, by rw [← HN.out]; exact H2.out, fun i hi => HBO.out.1 (by trivial) i (by rw [HN.out]; exact hi), fun i hi => HM.out.1 (by trivial) i hi⟩
                case measure => simp [intOf]; omega
              · have HMM := Lib.hid hmm
                have hmb : ((m' : Int) != (m : Int) + 1) = true := by simp; omega
                clear hmm
                go_wp2
                go_ret
                refine ⟨⟨_, rfl, HNO.out (fun h => ?_)⟩, HB3.out⟩
                exact HMM.out (HM.out.2 h.2.2.2.2)
          · have H2 := Lib.hid h2
            have h2b : (gi (gp l k) m == (k : Int) + 1) = false := by simpa using h2
            clear h2
            go_wp2
            go_ret
            exact ⟨⟨_, rfl, HNO.out (fun h => H2.out (by have := h.2.2.1; rwa [← HN.out] at this))⟩, HB.out⟩
    · obtain rfl : k = len := by omega
      go_wp2
      go_ret
      exact ⟨⟨_, rfl, by simp only [true_iff]; exact HNE.out⟩, HB.out⟩
end Go.Proofs.YtcpafphgkbfahaaGreat
