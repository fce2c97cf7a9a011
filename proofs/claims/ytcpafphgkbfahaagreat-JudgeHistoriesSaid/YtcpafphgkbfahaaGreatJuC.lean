/- Contains; the first call of some operations: its closures and the search. Conditions: what lies in memory. -/
import Derived.Test.YtcpafphgkbfahaaGreatJuB
namespace Go.Proofs.YtcpafphgkbfahaaGreat
open Go.RowKit Go.Shelf
set_option linter.unusedVariables false
set_option linter.unusedSimpArgs false

def namesL (xs : List Int) (v : Int) : Bool := xs.any (· == v)
theorem namesL_at {xs : List Int} {v : Int} {k : Nat} (hk : k < xs.length) (h : gi xs k = v) : namesL xs v = true := by
  unfold namesL; rw [List.any_eq_true]
  refine ⟨xs[k], List.getElem_mem hk, ?_⟩
  unfold gi at h; rw [List.getElem?_eq_getElem hk] at h; simpa using h
theorem namesL_none {xs : List Int} {v : Int} (h : ∀ j, j < xs.length → gi xs j ≠ v) : namesL xs v = false := by
  unfold namesL; rw [List.any_eq_false]
  intro x hx
  obtain ⟨j, hj, rfl⟩ := List.mem_iff_getElem.1 hx
  have := h j hj
  unfold gi at this; rw [List.getElem?_eq_getElem hj] at this; simpa using this
set_option maxHeartbeats 400000 in
theorem index_c {P : Nat → Prop} (sv : Value) (xs : List Int) (v : Int) (w : World) (hI : IntsP P w sv xs) :
    Calls Tryz.prog 97 #[sv, .int .i64 v] w fun e w' => (∃ r : Int, e = .returned (.int .i64 r) ∧ ((r = -1 ∧ ∀ j, j < xs.length → gi xs j ≠ v) ∨ ∃ k : Nat, k < xs.length ∧ r = k ∧ gi xs k = v)) ∧ w = w' := by
  obtain ⟨a0, c0, rfl, hlc, hcm⟩ := hI.form
  unfold maxLen at hcm
  obtain ⟨len, hlen⟩ : ∃ len, len = xs.length := ⟨_, rfl⟩
  have HL := Lib.hid hlen
  rw [← hlen] at hlc ⊢
  have HI := Lib.hid hI
  clear hlen hI
  go_enter Tryz.func97, Tryz.ntmps97
  go_wp2
  go_loop [8] (fun i => ∃ k : Nat, k ≤ len ∧ i = .int .i64 k ∧ ∀ j, j < k → gi xs j ≠ v) (fun i => len - (intOf i).toNat)
  case atStart => exact ⟨0, Nat.zero_le _, rfl, fun j hj => absurd hj (Nat.not_lt_zero _)⟩
  case round =>
    obtain ⟨k, hk, rfl, hne⟩ := hrel
    have HNE := Lib.hid hne
    clear hne
    by_cases hlt : k < len
    · obtain ⟨b, off, rfl, hcell⟩ := HI.out.at (j := k) (by rw [← HL.out]; exact hlt)
      by_cases hx : gi xs k = v
      · have HX := Lib.hid hx
        have hx' : (v == gi xs k) = true := by simpa using hx.symm
        clear hx
        go_wp2
        go_ret
        exact ⟨⟨_, rfl, .inr ⟨k, hlt, rfl, HX.out⟩⟩, rfl⟩
      · have HX := Lib.hid hx
        have hx' : (v == gi xs k) = false := by simpa using fun h : v = gi xs k => hx h.symm
        clear hx
        go_wp2
        go_round
        case rel => exact ⟨k + 1, by omega, by go_num, fun j hj => (Nat.lt_or_ge j k).elim (HNE.out j) (fun h => by obtain rfl : j = k := (by omega); exact HX.out)⟩
        case measure => simp [intOf]; omega
    · obtain rfl : k = len := by omega
      go_wp2
      go_ret
      exact ⟨⟨_, rfl, .inl ⟨rfl, HNE.out⟩⟩, rfl⟩
set_option maxHeartbeats 400000 in
theorem contains_c {P : Nat → Prop} (sv : Value) (xs : List Int) (v : Int) (w : World) (hI : IntsP P w sv xs) :
    Calls Tryz.prog 52 #[sv, .int .i64 v] w fun e w' => e = .returned (.bool (namesL xs v)) ∧ w = w' := by
  have hX := index_c sv xs v w hI
  have HX := Lib.hid hX
  clear hX hI
  go_enter Tryz.func52, Tryz.ntmps52
  go_wp2_with fail
  refine HX.out.mono ?_
  rintro e w' ⟨⟨r, rfl, hr⟩, rfl⟩
  have HR := Lib.hid hr
  clear hr
  go_wp2
  go_ret
  refine ⟨ret_bool ?_, rfl⟩
  rcases HR.out with ⟨rfl, h⟩ | ⟨k, hk, rfl, h⟩
  · rw [namesL_none h]; rfl
  · rw [namesL_at hk h]; simp
set_option maxHeartbeats 800000 in
theorem gives_c (d : Dd) (v : Value) (w : World) : Calls Tryz.prog 19 #[.agg #[.int .i64 d.cpu, .int .i64 d.op, .int .i64 d.frm, .int .i64 d.to, .int .i64 d.e, v]] w fun e w' => e = .returned (.bool (givesF d)) ∧ Below w.heap.size w w' := by
  have hb := below_alloc w (.cells #[.int .i64 d.cpu, .int .i64 d.op, .int .i64 d.frm, .int .i64 d.to, .int .i64 d.e, v] 73)
  have HB := Lib.hid hb
  clear hb
  obtain ⟨cpu, op, frm, to, ee, hs⟩ := d
  go_enter Tryz.func19, Tryz.ntmps19
  by_cases h1 : op = 1
  · subst h1
    go_wp2
    go_ret
    exact ⟨ret_bool (by simp [givesF]), HB.out⟩
  · have h1' : (op == 1) = false := by simpa using h1
    by_cases h3 : op = 3
    · subst h3
      go_wp2
      go_ret
      exact ⟨ret_bool (by simp [givesF]), HB.out⟩
    · have h3' : (op == 3) = false := by simpa using h3
      have H1 := Lib.hid h1
      have H3 := Lib.hid h3
      clear h1 h3
      go_wp2
      go_ret
      exact ⟨ret_bool (by simp [givesF, H1.out, H3.out]), HB.out⟩
set_option maxHeartbeats 800000 in
theorem takes_c (d : Dd) (v : Value) (w : World) : Calls Tryz.prog 53 #[.agg #[.int .i64 d.cpu, .int .i64 d.op, .int .i64 d.frm, .int .i64 d.to, .int .i64 d.e, v]] w fun e w' => e = .returned (.bool (takesF d)) ∧ Below w.heap.size w w' := by
  have hb := below_alloc w (.cells #[.int .i64 d.cpu, .int .i64 d.op, .int .i64 d.frm, .int .i64 d.to, .int .i64 d.e, v] 73)
  have HB := Lib.hid hb
  clear hb
  obtain ⟨cpu, op, frm, to, ee, hs⟩ := d
  go_enter Tryz.func53, Tryz.ntmps53
  by_cases h0 : ee = 0
  · subst h0
    by_cases h1 : op = 2
    · subst h1
      go_wp2
      go_ret
      exact ⟨ret_bool (by simp [takesF, takesOp]), HB.out⟩
    · have h1' : (op == 2) = false := by simpa using h1
      by_cases h3 : op = 4
      · subst h3
        go_wp2
        go_ret
        exact ⟨ret_bool (by simp [takesF, takesOp]), HB.out⟩
      · have h3' : (op == 4) = false := by simpa using h3
        have H1 := Lib.hid h1
        have H3 := Lib.hid h3
        clear h1 h3
        go_wp2
        go_ret
        exact ⟨ret_bool (by simp [takesF, takesOp, H1.out, H3.out]), HB.out⟩
  · have h0' : (ee == 0) = false := by simpa using h0
    have H0 := Lib.hid h0
    clear h0
    go_wp2
    go_ret
    exact ⟨ret_bool (by simp [takesF, H0.out]), HB.out⟩

set_option maxHeartbeats 800000 in
theorem first1_givesF {P : Nat → Prop} (d : Dd) (v : Value) (h : Int) (H F : Nat) (w : World) (hI : IntsP P w v d.hs) (hH : w.cell? ⟨H, 0, none⟩ = some (.int .i64 h)) (hF : w.cell? ⟨F, 0, none⟩ = some (.func (.func 19) #[] #[])) :
    Calls Tryz.prog 51 #[.agg #[.int .i64 d.cpu, .int .i64 d.op, .int .i64 d.frm, .int .i64 d.to, .int .i64 d.e, v], .pointer (some ⟨H, 0, none⟩), .pointer (some ⟨F, 0, none⟩)] w fun e w' => e = .returned (.bool (namesF d h && givesF d)) ∧ Below w.heap.size w w' := by
  have hb := below_alloc w (.cells #[.int .i64 d.cpu, .int .i64 d.op, .int .i64 d.frm, .int .i64 d.to, .int .i64 d.e, v] 73)
  have hH2 := (hb.cell (p := ⟨H, 0, none⟩) (World.block_lt_of_cell? w _ hH)).trans hH
  have hF2 := (hb.cell (p := ⟨F, 0, none⟩) (World.block_lt_of_cell? w _ hF)).trans hF
  have HI := Lib.hid (hI.below hb)
  have HB := Lib.hid hb
  clear hb hI
  go_enter Tryz.func51, Tryz.ntmps51
  have HN : Hid (namesL d.hs h = namesF d h) := rfl
  by_cases hn : namesL d.hs h = true
  · have hnf : Hid (namesF d h = true) := hn
    go_wp2_with (go_at_call 52; refine (contains_c _ _ _ _ HI.out).mono ?_; rintro e w' ⟨rfl, rfl⟩)
    refine (gives_c d v _).mono ?_
    rintro e w' ⟨rfl, hb⟩
    have HB2 := Lib.hid (below_on HB.out (Nat.le_refl _) hb)
    clear hb
    go_wp2
    go_ret
    exact ⟨ret_bool (by rw [hnf.out]; rfl), HB2.out⟩
  · have hnf : namesL d.hs h = false := by simpa using hn
    have HNF : Hid (namesF d h = false) := hnf
    clear hn
    go_wp2_with (go_at_call 52; refine (contains_c _ _ _ _ HI.out).mono ?_; rintro e w' ⟨rfl, rfl⟩)
    go_ret
    exact ⟨ret_bool (by rw [HNF.out]; rfl), HB.out⟩
def clo2 (f A B : Nat) : Value := .func (.func f) #[] #[.pointer (some ⟨A, 0, none⟩), .pointer (some ⟨B, 0, none⟩)]
set_option maxHeartbeats 800000 in
theorem indexDids_givesF {P : Nat → Prop} (sv : Value) (xs : List Dd) (h : Int) (H F : Nat) (w : World) (hI : DdsP P w sv xs) (hH : w.cell? ⟨H, 0, none⟩ = some (.int .i64 h)) (hF : w.cell? ⟨F, 0, none⟩ = some (.func (.func 19) #[] #[])) :
    Calls Tryz.prog 50 #[sv, clo2 51 H F] w fun e w' => (∃ r : Int, e = .returned (.int .i64 r) ∧ ((r = -1 ∧ firstAt (fun d => namesF d h && givesF d) xs = none) ∨ ∃ k : Nat, k < xs.length ∧ r = k ∧ firstAt (fun d => namesF d h && givesF d) xs = some k)) ∧ Below w.heap.size w w' := by
  obtain ⟨a0, c0, rfl, hlc, hcm⟩ := hI.form
  unfold maxLen at hcm
  obtain ⟨len, hlen⟩ : ∃ len, len = xs.length := ⟨_, rfl⟩
  have HL := Lib.hid hlen
  rw [← hlen] at hlc ⊢
  have HI := Lib.hid hI
  have HH := Lib.hid hH
  have HF := Lib.hid hF
  clear hlen hI hH hF
  unfold clo2
  go_enter Tryz.func50, Tryz.ntmps50
  go_wp2
  go_loopw [8] (fun i wr => ∃ k : Nat, k ≤ len ∧ i = .int .i64 k ∧ (∀ j, j < k → (namesF (gd xs j) h && givesF (gd xs j)) = false) ∧ Below w.heap.size w wr) (fun i _ => len - (intOf i).toNat)
  case atStart => exact ⟨0, Nat.zero_le _, rfl, fun j hj => absurd hj (Nat.not_lt_zero _), Below.refl _ _⟩
  case round =>
    obtain ⟨k, hk, rfl, hne, hB⟩ := hrel
    have HNE := Lib.hid hne
    have hH := (hB.cell (p := ⟨H, 0, none⟩) (World.block_lt_of_cell? w _ HH.out)).trans HH.out
    have hF := (hB.cell (p := ⟨F, 0, none⟩) (World.block_lt_of_cell? w _ HF.out)).trans HF.out
    have HIr := Lib.hid (HI.out.below hB)
    have HB := Lib.hid hB
    clear hne hB
    by_cases hlt : k < len
    · obtain ⟨b, off, v, rfl, q0, q1, q2, q3, q4, q5, hv⟩ := HIr.out.at (j := k) (by rw [← HL.out]; exact hlt)
      have HC := Lib.hid (first1_givesF (gd xs k) v h H F wr hv hH hF)
      clear hv hH hF
      by_cases hx : (namesF (gd xs k) h && givesF (gd xs k)) = true
      · have HX := Lib.hid hx
        go_wp2_with fail
        refine HC.out.mono ?_
        rintro e w' ⟨rfl, hb⟩
        have HB2 := Lib.hid (below_then HB.out (below_low hb HB.out.size))
        clear hb q0 q1 q2 q3 q4 q5
        go_wp2
        go_ret
        exact ⟨⟨_, rfl, .inr ⟨k, hlt, rfl, firstAt_some (by rw [← HL.out]; exact hlt) HNE.out HX.out⟩⟩, HB2.out⟩
      · have hx2 : (namesF (gd xs k) h && givesF (gd xs k)) = false := by simpa using hx
        have HX := Lib.hid hx2
        clear hx
        go_wp2_with fail
        refine HC.out.mono ?_
        rintro e w' ⟨rfl, hb⟩
        have HB2 := Lib.hid (below_then HB.out (below_low hb HB.out.size))
        clear hb q0 q1 q2 q3 q4 q5
        go_wp2
        go_roundw
        case rel => exact ⟨k + 1, by omega, by go_num, fun j hj => (Nat.lt_or_ge j k).elim (HNE.out j) (fun h => by obtain rfl : j = k := (by omega); exact HX.out), HB2.out⟩
        case measure => simp [intOf]; omega
    · obtain rfl : k = len := by omega
      go_wp2
      go_ret
      exact ⟨⟨_, rfl, .inl ⟨rfl, firstAt_none (by rw [← HL.out]; exact HNE.out)⟩⟩, HB.out⟩

set_option maxHeartbeats 800000 in
theorem first1_takesF {P : Nat → Prop} (d : Dd) (v : Value) (h : Int) (H F : Nat) (w : World) (hI : IntsP P w v d.hs) (hH : w.cell? ⟨H, 0, none⟩ = some (.int .i64 h)) (hF : w.cell? ⟨F, 0, none⟩ = some (.func (.func 53) #[] #[])) :
    Calls Tryz.prog 51 #[.agg #[.int .i64 d.cpu, .int .i64 d.op, .int .i64 d.frm, .int .i64 d.to, .int .i64 d.e, v], .pointer (some ⟨H, 0, none⟩), .pointer (some ⟨F, 0, none⟩)] w fun e w' => e = .returned (.bool (namesF d h && takesF d)) ∧ Below w.heap.size w w' := by
  have hb := below_alloc w (.cells #[.int .i64 d.cpu, .int .i64 d.op, .int .i64 d.frm, .int .i64 d.to, .int .i64 d.e, v] 73)
  have hH2 := (hb.cell (p := ⟨H, 0, none⟩) (World.block_lt_of_cell? w _ hH)).trans hH
  have hF2 := (hb.cell (p := ⟨F, 0, none⟩) (World.block_lt_of_cell? w _ hF)).trans hF
  have HI := Lib.hid (hI.below hb)
  have HB := Lib.hid hb
  clear hb hI
  go_enter Tryz.func51, Tryz.ntmps51
  have HN : Hid (namesL d.hs h = namesF d h) := rfl
  by_cases hn : namesL d.hs h = true
  · have hnf : Hid (namesF d h = true) := hn
    go_wp2_with (go_at_call 52; refine (contains_c _ _ _ _ HI.out).mono ?_; rintro e w' ⟨rfl, rfl⟩)
    refine (takes_c d v _).mono ?_
    rintro e w' ⟨rfl, hb⟩
    have HB2 := Lib.hid (below_on HB.out (Nat.le_refl _) hb)
    clear hb
    go_wp2
    go_ret
    exact ⟨ret_bool (by rw [hnf.out]; rfl), HB2.out⟩
  · have hnf : namesL d.hs h = false := by simpa using hn
    have HNF : Hid (namesF d h = false) := hnf
    clear hn
    go_wp2_with (go_at_call 52; refine (contains_c _ _ _ _ HI.out).mono ?_; rintro e w' ⟨rfl, rfl⟩)
    go_ret
    exact ⟨ret_bool (by rw [HNF.out]; rfl), HB.out⟩
set_option maxHeartbeats 800000 in
theorem indexDids_takesF {P : Nat → Prop} (sv : Value) (xs : List Dd) (h : Int) (H F : Nat) (w : World) (hI : DdsP P w sv xs) (hH : w.cell? ⟨H, 0, none⟩ = some (.int .i64 h)) (hF : w.cell? ⟨F, 0, none⟩ = some (.func (.func 53) #[] #[])) :
    Calls Tryz.prog 50 #[sv, clo2 51 H F] w fun e w' => (∃ r : Int, e = .returned (.int .i64 r) ∧ ((r = -1 ∧ firstAt (fun d => namesF d h && takesF d) xs = none) ∨ ∃ k : Nat, k < xs.length ∧ r = k ∧ firstAt (fun d => namesF d h && takesF d) xs = some k)) ∧ Below w.heap.size w w' := by
  obtain ⟨a0, c0, rfl, hlc, hcm⟩ := hI.form
  unfold maxLen at hcm
  obtain ⟨len, hlen⟩ : ∃ len, len = xs.length := ⟨_, rfl⟩
  have HL := Lib.hid hlen
  rw [← hlen] at hlc ⊢
  have HI := Lib.hid hI
  have HH := Lib.hid hH
  have HF := Lib.hid hF
  clear hlen hI hH hF
  unfold clo2
  go_enter Tryz.func50, Tryz.ntmps50
  go_wp2
  go_loopw [8] (fun i wr => ∃ k : Nat, k ≤ len ∧ i = .int .i64 k ∧ (∀ j, j < k → (namesF (gd xs j) h && takesF (gd xs j)) = false) ∧ Below w.heap.size w wr) (fun i _ => len - (intOf i).toNat)
  case atStart => exact ⟨0, Nat.zero_le _, rfl, fun j hj => absurd hj (Nat.not_lt_zero _), Below.refl _ _⟩
  case round =>
    obtain ⟨k, hk, rfl, hne, hB⟩ := hrel
    have HNE := Lib.hid hne
    have hH := (hB.cell (p := ⟨H, 0, none⟩) (World.block_lt_of_cell? w _ HH.out)).trans HH.out
    have hF := (hB.cell (p := ⟨F, 0, none⟩) (World.block_lt_of_cell? w _ HF.out)).trans HF.out
    have HIr := Lib.hid (HI.out.below hB)
    have HB := Lib.hid hB
    clear hne hB
    by_cases hlt : k < len
    · obtain ⟨b, off, v, rfl, q0, q1, q2, q3, q4, q5, hv⟩ := HIr.out.at (j := k) (by rw [← HL.out]; exact hlt)
      have HC := Lib.hid (first1_takesF (gd xs k) v h H F wr hv hH hF)
      clear hv hH hF
      by_cases hx : (namesF (gd xs k) h && takesF (gd xs k)) = true
      · have HX := Lib.hid hx
        go_wp2_with fail
        refine HC.out.mono ?_
        rintro e w' ⟨rfl, hb⟩
        have HB2 := Lib.hid (below_then HB.out (below_low hb HB.out.size))
        clear hb q0 q1 q2 q3 q4 q5
        go_wp2
        go_ret
        exact ⟨⟨_, rfl, .inr ⟨k, hlt, rfl, firstAt_some (by rw [← HL.out]; exact hlt) HNE.out HX.out⟩⟩, HB2.out⟩
      · have hx2 : (namesF (gd xs k) h && takesF (gd xs k)) = false := by simpa using hx
        have HX := Lib.hid hx2
        clear hx
        go_wp2_with fail
        refine HC.out.mono ?_
        rintro e w' ⟨rfl, hb⟩
        have HB2 := Lib.hid (below_then HB.out (below_low hb HB.out.size))
        clear hb q0 q1 q2 q3 q4 q5
        go_wp2
        go_roundw
        case rel => exact ⟨k + 1, by omega, by go_num, fun j hj => (Nat.lt_or_ge j k).elim (HNE.out j) (fun h => by obtain rfl : j = k := (by omega); exact HX.out), HB2.out⟩
        case measure => simp [intOf]; omega
    · obtain rfl : k = len := by omega
      go_wp2
      go_ret
      exact ⟨⟨_, rfl, .inl ⟨rfl, firstAt_none (by rw [← HL.out]; exact HNE.out)⟩⟩, HB.out⟩
end Go.Proofs.YtcpafphgkbfahaaGreat
