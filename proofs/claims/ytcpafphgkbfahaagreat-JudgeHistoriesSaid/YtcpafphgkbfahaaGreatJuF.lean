/- IsSorted; Clone; Compact. Conditions: what lies in memory. -/
import Derived.Test.YtcpafphgkbfahaaGreatJuE
import Derived.WalkSpells
namespace Go.Proofs.YtcpafphgkbfahaaGreat
open Go.RowKit Go.Shelf
set_option linter.unusedVariables false
set_option linter.unusedSimpArgs false

theorem info3 : (Tryz.prog.info? 3).map (fun i => (i.zero, i.size, i.bytes)) = some (some (.int .i64 0), 1, 8) := by kernel_rfl
/-- a bool is told that says whether p -/
def RetB (p : Prop) (e : Ending) : Prop := ∃ b : Bool, e = .returned (.bool b) ∧ (b = true ↔ p)
set_option maxHeartbeats 400000 in
theorem less_c (x y : Int) (w : World) : Calls Tryz.prog 131 #[.int .i64 x, .int .i64 y] w fun e w' => e = .returned (.bool (decide (x < y))) ∧ w = w' := by
  go_enter Tryz.func131, Tryz.ntmps131
  go_wp2
  go_ret
  exact ⟨rfl, rfl⟩
theorem less_q (x y : Int) (w : World) (n : Nat) (b : Bool) (hb : decide (x < y) = b) : Calls Tryz.prog 131 #[.int .i64 x, .int .i64 y] (w.drewN n) fun e w' => e = .returned (.bool b) ∧ ∃ m, w' = w.drewN m :=
  hb ▸ Calls.quiet_of_same ((less_c x y _).mono fun _ _ ⟨h1, h2⟩ => ⟨h1, h2.symm⟩)
set_option maxHeartbeats 800000 in
theorem sorted_c {P : Nat → Prop} (sv : Value) (xs : List Int) (w : World) (hI : IntsP P w sv xs) :
    Calls Tryz.prog 92 #[sv] w fun e w' => RetB (∀ i, i + 1 < xs.length → gi xs i ≤ gi xs (i + 1)) e ∧ Below w.heap.size w w' := by
  obtain ⟨a0, c0, rfl, hlc, hcm⟩ := hI.form
  unfold maxLen at hcm
  obtain ⟨len, hlen⟩ : ∃ len, len = xs.length := ⟨_, rfl⟩
  have HL := Lib.hid hlen
  rw [← hlen] at hlc ⊢
  have HI := Lib.hid hI
  clear hlen hI
  go_enter Tryz.func92, Tryz.ntmps92
  go_wp2
  go_loopw [3] (fun i wr => ∃ q : Int, -1 ≤ q ∧ q ≤ (len : Int) - 1 ∧ i = .int .i64 q ∧ (∀ j : Nat, q ≤ j → j + 1 < len → gi xs j ≤ gi xs (j + 1)) ∧ Below w.heap.size w wr) (fun i _ => (intOf i).toNat)
  case atStart => exact ⟨(len : Int) - 1, by omega, by omega, rfl, fun j h1 h2 => by omega, Below.refl _ _⟩
  case round =>
    obtain ⟨q, hq1, hq2, rfl, hs, hB⟩ := hrel
    have HS := Lib.hid hs
    have HIr := Lib.hid (HI.out.below hB)
    have HB := Lib.hid hB
    clear hs hB
    by_cases hlt : 0 < q
    · obtain ⟨k, rfl⟩ : ∃ k : Nat, q = (k : Int) + 1 := ⟨(q - 1).toNat, by omega⟩
      obtain ⟨b, off, rfl, x1⟩ := HIr.out.at (j := k) (by rw [← HL.out]; omega)
      obtain ⟨b', off', e, x2⟩ := HIr.out.at (j := k + 1) (by rw [← HL.out]; omega)
      simp only [Option.some.injEq, Addr.mk.injEq, and_true] at e
      obtain ⟨rfl, rfl⟩ := e
      have hk1 : (k : Int) + 1 < len := by omega
      by_cases hx : gi xs (k + 1) < gi xs k
      · have HX := Lib.hid hx
        have HD : Hid (decide (gi xs (k + 1) < gi xs k) = true) := by unfold Hid; simpa using hx
        clear hx
        go_wp2_with fail
        go_quiet ((go_at_call 131; exact less_q _ _ _ _ _ HD.out))
        go_wp2
        go_ret
        exact ⟨⟨_, rfl, by simp only [Bool.false_eq_true, false_iff]; intro h0; have := h0 k (by omega); have := HX.out; omega⟩, below_then HB.out (below_low (below_drewN _ _) HB.out.size)⟩
      · have HX := Lib.hid hx
        have HD : Hid (decide (gi xs (k + 1) < gi xs k) = false) := by unfold Hid; simpa using hx
        clear hx
        go_wp2_with fail
        go_quiet ((go_at_call 131; exact less_q _ _ _ _ _ HD.out))
        go_wp2
        go_roundw
        case rel => exact ⟨(k : Int), by omega, by omega, by go_num, fun j h1 h2 => by rcases Nat.eq_or_lt_of_le (show k ≤ j by omega) with e | e; exact (e ▸ HX.out); exact HS.out j (by omega) h2, below_then HB.out (below_low (below_drewN _ _) HB.out.size)⟩
        case measure => simp [intOf]
    · go_wp2
      go_ret
      exact ⟨⟨_, rfl, by simp only [true_iff]; exact fun i hi => HS.out i (by omega) hi⟩, HB.out⟩
theorem ints_of_row {P : Nat → Prop} {w : World} {base n : Nat} {v : Value} {xs : List Int} (h : w.ownsRow base 3 1 v n (xs.map (Value.int .i64))) (hP : ∀ g, v.ownBlock = some g → P g) : n = xs.length ∧ IntsP P w v xs := by
  have hn : n = xs.length := by have := h.1; simp at this; omega
  refine ⟨hn, ?_⟩
  subst hn
  rcases h.2 with ⟨rfl, h0⟩ | ⟨g, cap, cur, rfl, hb, hg, hc, hm, hz, ht⟩
  · exact ⟨none, 0, by rw [h0], by omega, Nat.zero_le _, fun j hj => by omega⟩
  · refine ⟨_, cap, rfl, hc, hm, fun j hj => ⟨g, 0, rfl, hP g rfl, fun i hi => ?_⟩⟩
    obtain rfl : i = 0 := by omega
    have := h.cellAt j (by omega)
    rw [show 0 + j * 1 + 0 = j by omega, this, List.getElem?_map, List.getElem?_eq_getElem hj]
    simp [gi, List.getElem?_eq_getElem hj]
theorem IntsP.src {P : Nat → Prop} {w : World} {b off n c : Nat} {xs : List Int} (h : IntsP P w (.slice (some ⟨b, off, none⟩) n c) xs) : ∀ j u, (xs.map (Value.int .i64))[j]? = some u → w.cell? ((⟨b, off, none⟩ : Addr).add j) = some u := by
  intro j u hu
  have hj : j < xs.length := by have := (List.getElem?_eq_some_iff.1 hu).1; simpa using this
  obtain ⟨b', off', e, hc⟩ := h.at hj
  simp only [Option.some.injEq, Addr.mk.injEq, and_true] at e
  obtain ⟨rfl, rfl⟩ := e
  rw [add_plain, hc, ← hu, List.getElem?_map, List.getElem?_eq_getElem hj]
  unfold gi; rw [List.getElem?_eq_getElem hj]; rfl
theorem ints_one (xs : List Int) : ∀ u ∈ xs.map (Value.int .i64), u.oneCell' = true := by intro u hu; obtain ⟨x, _, rfl⟩ := List.mem_map.1 hu; rfl
set_option maxRecDepth 100000 in
set_option maxHeartbeats 800000 in
theorem clone_c {P : Nat → Prop} (sv : Value) (xs : List Int) (w : World) (hI : IntsP P w sv xs) (h0 : 0 < xs.length) (hr : xs.length * 8 ≤ 140737488351232) :
    Calls Tryz.prog 76 #[sv] w fun e w' => ∃ g cap, e = .returned (.slice (some ⟨g, 0, none⟩) xs.length cap) ∧ w'.ownsRow w.heap.size 3 1 (.slice (some ⟨g, 0, none⟩) xs.length cap) xs.length (xs.map (Value.int .i64)) ∧ Below w.heap.size w w' := by
  obtain ⟨i0, hi0, z1, z2, z3⟩ := info_parts info3
  obtain ⟨a0, c0, rfl, hlc, hcm⟩ := hI.form
  unfold maxLen at hcm
  obtain ⟨b, off, rfl, _⟩ := hI.at h0
  have he := fun w => Lib.run_eql_slice_nil (P := Tryz.prog) w 22 3 (some ⟨b, off, none⟩) xs.length c0 0 0 Tryz.underlying22
  obtain ⟨len, hlen⟩ : ∃ len, len = xs.length := ⟨_, rfl⟩
  have HL := Lib.hid hlen
  rw [← hlen] at hlc hr h0 he ⊢
  have hlit := World.ownsRow_lit (base := w.heap.size) (e := 3) (size := 1) w #[] 0 (Nat.le_refl _) (by unfold maxLen; omega) rfl
  have hb := below_alloc w (.cells #[] 3)
  have HSRC := Lib.hid (hI.below hb).src
  have HB := Lib.hid hb
  have HLI := Lib.hid hlit
  clear hlen hI hlit hb
  go_enter Tryz.func76, Tryz.ntmps76
  go_wp2_with (at_builtin; refine wpList_append_lies _ rfl _ _ 22 rfl w.heap.size 3 i0 (.int .i64 0) 1 8 Tryz.underlying22 hi0 z1 z2 z3 rfl (by decide) (.slice (some ⟨w.heap.size, 0, none⟩) 0 0) 0 [] rfl HLI.out ⟨b, off, none⟩ len c0 (xs.map (Value.int .i64)) rfl (by simp [HL.out]) HSRC.out (ints_one xs) h0 (by unfold maxLen; omega) (by omega) (by rw [World.size_alloc]; omega) (w.heap.size + 1) (by simp) ?_)
  intro g cap w1 hown hgrow hat hlt
  have hown' : w1.ownsRow w.heap.size 3 1 (.slice (some ⟨g, 0, none⟩) len cap) len (xs.map (Value.int .i64)) := by simpa using hown
  have HO := Lib.hid hown'
  have HB2 : Hid (Below w.heap.size w w1) := HB.out.grown hgrow (by rw [World.size_alloc]; omega) (fun j e => by have h2 : w.heap.size = j := Option.some.inj e; omega)
  clear hown hown' hgrow hat
  go_wp2
  go_ret
  exact ⟨g, cap, rfl, HO.out, HB2.out⟩
set_option maxRecDepth 100000 in
set_option maxHeartbeats 800000 in
theorem copy_c {P : Nat → Prop} (sv : Value) (xs : List Int) (w : World) (hI : IntsP P w sv xs) (hr : xs.length * 8 ≤ 140737488351232) :
    Calls Tryz.prog 21 #[sv] w fun e w' => ∃ v, e = .returned v ∧ w'.ownsRow w.heap.size 3 1 v xs.length (xs.map (Value.int .i64)) ∧ Below w.heap.size w w' := by
  obtain ⟨i0, hi0, z1, z2, z3⟩ := info_parts info3
  obtain ⟨a0, c0, rfl, hlc, hcm⟩ := hI.form
  unfold maxLen at hcm
  by_cases h0 : 0 < xs.length
  · obtain ⟨b, off, rfl, _⟩ := hI.at h0
    obtain ⟨len, hlen⟩ : ∃ len, len = xs.length := ⟨_, rfl⟩
    have HL := Lib.hid hlen
    rw [← hlen] at hlc hr h0 ⊢
    have HSRC := Lib.hid hI.src
    clear hlen hI
    go_enter Tryz.func21, Tryz.ntmps21
    go_wp2_with (at_builtin; refine wpList_append_lies _ rfl _ _ 22 rfl w.heap.size 3 i0 (.int .i64 0) 1 8 Tryz.underlying22 hi0 z1 z2 z3 rfl (by decide) (.slice none 0 0) 0 [] rfl (World.ownsRow_nil _ _ _ _) ⟨b, off, none⟩ len c0 (xs.map (Value.int .i64)) rfl (by simp [HL.out]) HSRC.out (ints_one xs) h0 (by unfold maxLen; omega) (by omega) (Nat.le_refl _) w.heap.size rfl ?_)
    intro g cap w1 hown hgrow hat hlt
    have hown' : w1.ownsRow w.heap.size 3 1 (.slice (some ⟨g, 0, none⟩) len cap) len (xs.map (Value.int .i64)) := by simpa using hown
    have HO := Lib.hid hown'
    have HB2 : Hid (Below w.heap.size w w1) := (Below.refl w.heap.size w).grown hgrow (Nat.le_refl _) (fun j e => by cases e)
    clear hown hown' hgrow hat
    go_wp2
    go_ret
    exact ⟨_, rfl, HO.out, HB2.out⟩
  · obtain rfl : xs = [] := List.eq_nil_of_length_eq_zero (by omega)
    have HO : Hid (w.ownsRow w.heap.size 3 1 (.slice none 0 0) 0 []) := World.ownsRow_nil _ _ _ _
    clear hI
    cases a0 with
    | none =>
      go_enter Tryz.func21, Tryz.ntmps21
      go_wp2
      go_ret
      exact ⟨_, rfl, HO.out, Below.refl _ _⟩
    | some ad =>
      go_enter Tryz.func21, Tryz.ntmps21
      go_wp2
      go_ret
      exact ⟨_, rfl, HO.out, Below.refl _ _⟩
theorem zero_one (n : Nat) : ∀ u ∈ (Builtin.zeroCells #[.int .i64 0] n).toList, u.oneCell' = true := by
  intro u hu
  simp [Builtin.zeroCells] at hu
  obtain ⟨i, _, rfl⟩ := hu
  simp [Nat.mod_one]; rfl
end Go.Proofs.YtcpafphgkbfahaaGreat
