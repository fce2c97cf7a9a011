/- judge.calls. Conditions: what lies in memory. -/
import Derived.Test.YtcpafphgkbfahaaGreatJuH
namespace Go.Proofs.YtcpafphgkbfahaaGreat
open Go.RowKit Go.Shelf
set_option linter.unusedVariables false
set_option linter.unusedSimpArgs false

/-- a bool is told that says whether p is NOT -/
def RetF (p : Prop) (e : Ending) : Prop := ∃ b : Bool, e = .returned (.bool b) ∧ (b = false ↔ p)
set_option maxHeartbeats 2000000 in
theorem calls1_c {P : Nat → Prop} (d : Dd) (v : Value) (B : Nat) (now : Int) (nd nh c1 c10 : Nat) (a1 a10 : Option Addr) (w : World) (hI : IntsP P w v d.hs)
    (h0 : w.cell? ⟨B, 0, none⟩ = some (.int .i64 now)) (h1 : w.cell? ⟨B, 1, none⟩ = some (.slice a1 nd c1)) (h10 : w.cell? ⟨B, 10, none⟩ = some (.slice a10 nh c10)) (hnd : nd ≤ 9223372036854775807) (hnh : nh ≤ 9223372036854775807) :
    Calls Tryz.prog 95 #[.agg #[.int .i64 d.cpu, .int .i64 d.op, .int .i64 d.frm, .int .i64 d.to, .int .i64 d.e, v], .pointer (some ⟨B, 0, none⟩)] w fun e w' => RetF (DidIs now nd nh d) e ∧ Below w.heap.size w w' := by
  have hb := below_alloc w (.cells #[.int .i64 d.cpu, .int .i64 d.op, .int .i64 d.frm, .int .i64 d.to, .int .i64 d.e, v] 73)
  have g0 := (hb.cell (p := ⟨B, 0, none⟩) (World.block_lt_of_cell? w _ h0)).trans h0
  have g1 := (hb.cell (p := ⟨B, 1, none⟩) (World.block_lt_of_cell? w _ h1)).trans h1
  have g10 := (hb.cell (p := ⟨B, 10, none⟩) (World.block_lt_of_cell? w _ h10)).trans h10
  have hC := containsDid_c _ _ B _ _ _ _ (hI.below hb) g10 hnh
  have HC := Lib.hid hC
  have HB := Lib.hid hb
  clear hb hC hI h0 h1 h10
  unfold clo at HC
  go_enter Tryz.func95, Tryz.ntmps95
  go_wp2_with fail
  refine HC.out.mono ?_
  rintro e w' ⟨⟨bo, rfl, hbo⟩, rfl⟩
  have hbo' : bo = false ↔ ∀ i, i < d.hs.length → 0 ≤ gi d.hs i ∧ gi d.hs i ≤ (nh : Int) - 1 := by
    rw [hbo]; simp only [inR_true]
  have HBO := Lib.hid hbo'
  clear hbo hbo' HC
  cases bo with
  | true =>
    go_wp2
    go_ret
    exact ⟨⟨_, rfl, ⟨fun h => (by cases h), fun h => HBO.out.2 h.1⟩⟩, HB.out⟩
  | false =>
    by_cases hx : inR d.cpu 0 ((nd : Int) - 1) = true
    · have HX := Lib.hid (inR_true.1 hx)
      by_cases hy : inR d.frm 0 d.to = true
      · have HY := Lib.hid (inR_true.1 hy)
        by_cases hz : d.to ≤ now
        · have HZ := Lib.hid hz
          have hz' : decide (now < d.to) = false := decide_eq_false (by omega)
          go_wp2_with (go_at_call 43; refine (within_c _ _ _ _).mono ?_; rintro e w' ⟨rfl, rfl⟩)
          go_ret
          refine ⟨⟨_, rfl, ⟨fun _ => ⟨HBO.out.1 (by trivial), HX.out, HY.out, HZ.out⟩, fun _ => ?_⟩⟩, HB.out⟩
          first | rfl | exact decide_eq_false (by have := HZ.out; omega)
        · have HZ := Lib.hid hz
          have hz' : decide (now < d.to) = true := decide_eq_true (by omega)
          go_wp2_with (go_at_call 43; refine (within_c _ _ _ _).mono ?_; rintro e w' ⟨rfl, rfl⟩)
          go_ret
          refine ⟨⟨_, rfl, ⟨fun h => ?_, fun h => absurd h.2.2.2 (by have := HZ.out; omega)⟩⟩, HB.out⟩
          first | cases h | (exfalso; have := of_decide_eq_false h; have := HZ.out; omega)
      · have hy2 : inR d.frm 0 d.to = false := by simpa using hy
        have HY := Lib.hid hy
        clear hy
        go_wp2_with (go_at_call 43; refine (within_c _ _ _ _).mono ?_; rintro e w' ⟨rfl, rfl⟩)
        go_ret
        exact ⟨⟨_, rfl, ⟨fun h => (by cases h), fun h => absurd (inR_true.2 h.2.2.1) HY.out⟩⟩, HB.out⟩
    · have hx2 : inR d.cpu 0 ((nd : Int) - 1) = false := by simpa using hx
      have HX := Lib.hid hx
      clear hx
      go_wp2_with (go_at_call 43; refine (within_c _ _ _ _).mono ?_; rintro e w' ⟨rfl, rfl⟩)
      go_ret
      exact ⟨⟨_, rfl, ⟨fun h => (by cases h), fun h => absurd (inR_true.2 h.2.1) HX.out⟩⟩, HB.out⟩
set_option maxHeartbeats 1000000 in
theorem indexDidsOk_c {P : Nat → Prop} (sv : Value) (xs : List Dd) (B : Nat) (now : Int) (nd nh c1 c10 : Nat) (a1 a10 : Option Addr) (w : World) (hI : DdsP P w sv xs)
    (h0 : w.cell? ⟨B, 0, none⟩ = some (.int .i64 now)) (h1 : w.cell? ⟨B, 1, none⟩ = some (.slice a1 nd c1)) (h10 : w.cell? ⟨B, 10, none⟩ = some (.slice a10 nh c10)) (hnd : nd ≤ 9223372036854775807) (hnh : nh ≤ 9223372036854775807) :
    Calls Tryz.prog 50 #[sv, clo 95 B] w fun e w' => (∃ r : Int, e = .returned (.int .i64 r) ∧ ((r = -1 ∧ ∀ j, j < xs.length → DidIs now nd nh (gd xs j)) ∨ ∃ k : Nat, k < xs.length ∧ r = k ∧ ¬ DidIs now nd nh (gd xs k))) ∧ Below w.heap.size w w' := by
  obtain ⟨a0, c0, rfl, hlc, hcm⟩ := hI.form
  unfold maxLen at hcm
  obtain ⟨len, hlen⟩ : ∃ len, len = xs.length := ⟨_, rfl⟩
  have HL := Lib.hid hlen
  rw [← hlen] at hlc ⊢
  have HI := Lib.hid hI
  have H0 := Lib.hid h0
  have H1 := Lib.hid h1
  have H10 := Lib.hid h10
  clear hlen hI h0 h1 h10
  unfold clo
  go_enter Tryz.func50, Tryz.ntmps50
  go_wp2
  go_loopw [8] (fun i wr => ∃ k : Nat, k ≤ len ∧ i = .int .i64 k ∧ (∀ j, j < k → DidIs now nd nh (gd xs j)) ∧ Below w.heap.size w wr) (fun i _ => len - (intOf i).toNat)
  case atStart => exact ⟨0, Nat.zero_le _, rfl, fun j hj => absurd hj (Nat.not_lt_zero _), Below.refl _ _⟩
  case round =>
    obtain ⟨k, hk, rfl, hne, hB⟩ := hrel
    have HNE := Lib.hid hne
    have h0 := (hB.cell (p := ⟨B, 0, none⟩) (World.block_lt_of_cell? w _ H0.out)).trans H0.out
    have h1 := (hB.cell (p := ⟨B, 1, none⟩) (World.block_lt_of_cell? w _ H1.out)).trans H1.out
    have h10 := (hB.cell (p := ⟨B, 10, none⟩) (World.block_lt_of_cell? w _ H10.out)).trans H10.out
    have HIr := Lib.hid (HI.out.below hB)
    have HB := Lib.hid hB
    clear hne hB
    by_cases hlt : k < len
    · obtain ⟨b, off, v, rfl, q0, q1, q2, q3, q4, q5, hv⟩ := HIr.out.at (j := k) (by rw [← HL.out]; exact hlt)
      have HC := Lib.hid (calls1_c (gd xs k) v B now nd nh c1 c10 a1 a10 wr hv h0 h1 h10 hnd hnh)
      clear hv h0 h1 h10
      go_wp2_with fail
      refine HC.out.mono ?_
      rintro e w' ⟨⟨bo, rfl, hbo⟩, hb⟩
      have HBO := Lib.hid hbo
      have HB2 := Lib.hid (below_then HB.out (below_low hb HB.out.size))
      clear hb hbo q0 q1 q2 q3 q4 q5 HC
      cases bo with
      | true =>
        go_wp2
        go_ret
        exact ⟨⟨_, rfl, .inr ⟨k, hlt, rfl, fun h => by cases HBO.out.2 h⟩⟩, HB2.out⟩
      | false =>
        go_wp2
        go_roundw
        case rel => exact ⟨k + 1, by omega, by go_num, fun j hj => (Nat.lt_or_ge j k).elim (HNE.out j) (fun h => by obtain rfl : j = k := (by omega); exact HBO.out.1 (by trivial)), HB2.out⟩
        case measure => simp [intOf]; omega
    · obtain rfl : k = len := by omega
      go_wp2
      go_ret
      exact ⟨⟨_, rfl, .inl ⟨rfl, HNE.out⟩⟩, HB.out⟩
set_option maxHeartbeats 400000 in
theorem containsDidsOk_c {P : Nat → Prop} (sv : Value) (xs : List Dd) (B : Nat) (now : Int) (nd nh c1 c10 : Nat) (a1 a10 : Option Addr) (w : World) (hI : DdsP P w sv xs)
    (h0 : w.cell? ⟨B, 0, none⟩ = some (.int .i64 now)) (h1 : w.cell? ⟨B, 1, none⟩ = some (.slice a1 nd c1)) (h10 : w.cell? ⟨B, 10, none⟩ = some (.slice a10 nh c10)) (hnd : nd ≤ 9223372036854775807) (hnh : nh ≤ 9223372036854775807) :
    Calls Tryz.prog 94 #[sv, clo 95 B] w fun e w' => RetF (∀ j, j < xs.length → DidIs now nd nh (gd xs j)) e ∧ Below w.heap.size w w' := by
  have hX := indexDidsOk_c sv xs B now nd nh c1 c10 a1 a10 w hI h0 h1 h10 hnd hnh
  have HX := Lib.hid hX
  clear hX hI h0 h1 h10
  unfold clo at HX ⊢
  go_enter Tryz.func94, Tryz.ntmps94
  go_wp2_with fail
  refine HX.out.mono ?_
  rintro e w' ⟨⟨r, rfl, hr⟩, hb⟩
  have HR := Lib.hid hr
  have HB := Lib.hid hb
  clear hr hb
  go_wp2
  go_ret
  refine ⟨⟨_, rfl, ?_⟩, HB.out⟩
  rcases HR.out with ⟨rfl, h⟩ | ⟨k, hk, rfl, h⟩
  · simpa using h
  · simp only [decide_eq_false_iff_not]
    constructor
    · intro h0; omega
    · intro h0; exact absurd (h0 k hk) h
set_option maxHeartbeats 400000 in
theorem calls_c {P : Nat → Prop} (now : Int) (v2 v3 v4 v5 v6 v7 v8 v9 v11 : Value) (nd nh c1 c10 : Nat) (a1 a10 : Option Addr) (xs : List Dd) (w : World) (hI : DdsP P w v11 xs) (hnd : nd ≤ 9223372036854775807) (hnh : nh ≤ 9223372036854775807) :
    Calls Tryz.prog 49 #[.agg #[.int .i64 now, .slice a1 nd c1, v2, v3, v4, v5, v6, v7, v8, v9, .slice a10 nh c10, v11]] w fun e w' => RetB (∀ j, j < xs.length → DidIs now nd nh (gd xs j)) e ∧ Below w.heap.size w w' := by
  have hb := below_alloc w (.cells #[.int .i64 now, .slice a1 nd c1, v2, v3, v4, v5, v6, v7, v8, v9, .slice a10 nh c10, v11] 28)
  have hX := containsDidsOk_c v11 xs w.heap.size now nd nh c1 c10 a1 a10 _ (hI.below hb) (by rw [cell_lit]; rfl) (by rw [cell_lit]; rfl) (by rw [cell_lit]; rfl) hnd hnh
  have HX := Lib.hid hX
  have HB := Lib.hid hb
  clear hX hb
  obtain ⟨a, c, rfl, _, _⟩ := hI.form
  clear hI
  unfold clo at HX
  go_enter Tryz.func49, Tryz.ntmps49
  go_wp2_with fail
  refine HX.out.mono ?_
  rintro e w' ⟨⟨bo, rfl, hbo⟩, hb⟩
  have HBO := Lib.hid hbo
  have HB2 := Lib.hid (below_on HB.out (Nat.le_refl _) hb)
  clear hbo hb HX
  go_wp2
  go_ret
  refine ⟨⟨_, rfl, ?_⟩, HB2.out⟩
  rw [← HBO.out]
  cases bo <;> simp
end Go.Proofs.YtcpafphgkbfahaaGreat
