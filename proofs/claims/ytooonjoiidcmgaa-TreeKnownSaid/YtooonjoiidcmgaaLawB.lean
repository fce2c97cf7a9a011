/- The walk of the statement PickAll: true, and nothing that lay has turned. -/
import Derived.Test.YtooonjoiidcmgaaPlainA
import Derived.Deep.OwnRows
namespace Go.Proofs.Ytooonjoiidcmgaa
open Go.RowKit Go.Shelf

theorem Bools.take {n₀ : Nat} {W : World} {a : Option Addr} {len cap : Nat} {bs : List Bool} (h : Bools n₀ W (.slice a len cap) bs) (k : Nat) (hk : k ≤ len) : Bools n₀ W (.slice a k cap) (bs.take k) := by
  obtain ⟨a', cap', e, hc⟩ := h
  simp only [Value.slice.injEq] at e
  obtain ⟨rfl, rfl, rfl⟩ := e
  refine ⟨a, cap, by rw [List.length_take, Nat.min_eq_left hk], fun j hj => ?_⟩
  rw [List.length_take] at hj
  obtain ⟨b, off, e1, h1, h2⟩ := hc j (by omega)
  exact ⟨b, off, e1, h1, by rw [h2, List.getElem?_take, if_pos (by omega)]⟩
theorem Bools.len {n₀ : Nat} {W : World} {a : Option Addr} {len cap : Nat} {bs : List Bool} (h : Bools n₀ W (.slice a len cap) bs) : len = bs.length := h.get.1

theorem rowIs_count {w : World} {b : Nat} {t : TypeId} {n m : Nat} {f : Nat → Value} (h : w.rowIs b t n f) (e : n = m) : w.rowIs b t m f := e ▸ h

set_option maxRecDepth 100000 in
set_option maxHeartbeats 4000000 in
theorem all_walk (a : Option Addr) (len cap : Nat) (bs : List Bool) (F0 : Int) (w : World) (hI : Bools w.heap.size w (.slice a len cap) bs) (hc : len ≤ cap) (hm : cap ≤ maxLen) :
    Calls Try.prog 5 #[.slice a len cap, .int .i64 F0] w fun e w' => e = .returned (.bool true) ∧ Below w.heap.size w w' := by
  unfold maxLen at hm
  obtain ⟨F, hF, hF1, hF2⟩ : ∃ F, F = F0.tmod 1000000 ∧ -1000000 < F ∧ F < 1000000 := by
    refine ⟨_, rfl, ?_⟩
    rcases tmod_cases F0 1000000 (by omega) with ⟨h1, h2, h3⟩ | ⟨h1, h2, h3⟩ <;> omega
  have HF := Lib.hid hF
  clear hF
  have hlm : len ≤ 40 ∨ 40 < len := by omega
  have hmk : ∀ n : Nat, n ≤ 40 → ∀ w, (Instr.makeSlice 27 (.int .i64 (n : Int)) (.int .i64 (n : Int))).run Try.prog w = .ok (.slice (some ⟨w.heap.size, 0, none⟩) n n) (w.alloc (.cells (madeCells #[.int .i64 0] n) 3)) :=
    fun n hn w => run_make_row' (P := Try.prog) 27 3 (.int .i64 0) 8 Try.underlying27 info3 rfl .i64 .i64 n (by omega) (by omega) w
  rcases hlm with h40 | h40
  case' inl =>
    obtain ⟨cs, hI1⟩ : ∃ cs, Bools w.heap.size w (.slice a len cap) cs := ⟨_, hI⟩
    have hk1 : len ≤ cs.length := by have := hI1.len; omega
    have hk2 : cs.length ≤ len := by have := hI1.len; omega
    have hk3 : cs.length ≤ 40 := by omega
    have hM := hmk len h40
    have hrow := Lib.hid (rowIs_count (World.rowIs_made w (.int .i64 0) len 3) hI1.len)
    have hB1 := Lib.hid ((Below.refl w.heap.size w).alloc (Nat.le_refl _) (.cells (madeCells #[.int .i64 0] len) 3))
  case' inr =>
    obtain ⟨cs, hI1⟩ : ∃ cs, Bools w.heap.size w (.slice a 40 cap) cs := ⟨_, hI.take 40 (by omega)⟩
    have hk1 : 40 ≤ cs.length := by have := hI1.len; omega
    have hk2 : cs.length ≤ 40 := by have := hI1.len; omega
    have hk3 : cs.length ≤ 40 := by omega
    have hM : ∀ w, (Instr.makeSlice 27 (.int .i64 40) (.int .i64 40)).run Try.prog w = .ok (.slice (some ⟨w.heap.size, 0, none⟩) 40 40) (w.alloc (.cells (madeCells #[.int .i64 0] 40) 3)) := hmk 40 (by omega)
    have hrow := Lib.hid (rowIs_count (World.rowIs_made w (.int .i64 0) 40 3) hI1.len)
    have hB1 := Lib.hid ((Below.refl w.heap.size w).alloc (Nat.le_refl _) (.cells (madeCells #[.int .i64 0] 40) 3))
  all_goals
    clear hmk hI
    go_enter Try.func5, Try.ntmps5
    by_cases hs : 0 ≤ F0
    case' pos =>
      have HY := Lib.hid (HF.out.trans (Int.tmod_eq_emod_of_nonneg hs))
      go_wp2
      rw [← HY.out]
    case' neg =>
      go_wp2
      rw [← HF.out]
  rotate_left
  rotate_left
  rotate_left
  all_goals
    go_loop [5, 6] (fun n i => ∃ k : Nat, k ≤ cs.length ∧ i = .int .i64 k ∧ n = .int .i64 ((runsTo cs k).length : Nat)) (fun _ i => cs.length - (intOf i).toNat)
    case atStart => exact ⟨0, Nat.zero_le _, rfl, rfl⟩
    case round =>
      obtain ⟨k, hk, rfl, rfl⟩ := hrel
      by_cases hlt : k < cs.length
      · obtain ⟨b, off, rfl, hb, hcell⟩ := hI1.get.2 k hlt
        have hrl := runsTo_length cs k
        cases hbk : cs[k]?.getD false with
        | true =>
          have HN := Lib.hid (runsTo_yes hbk)
          rw [hbk] at hcell
          clear hbk
          go_wp2
          go_round
          case rel => exact ⟨k + 1, by omega, by go_num, by rw [HN.out]; simp⟩
          case measure => simp [intOf]; omega
        | false =>
          have HN := Lib.hid (runsTo_no hbk)
          rw [hbk] at hcell
          clear hbk
          go_wp2
          go_round
          case rel => exact ⟨k + 1, by omega, by go_num, by rw [HN.out]⟩
          case measure => simp [intOf]; omega
      · obtain rfl : k = cs.length := by omega
        obtain ⟨n, hn⟩ : ∃ n, n = (runsTo cs cs.length).length := ⟨_, rfl⟩
        rw [← hn]
        have HN : Hid (n = (runs cs).length) := hn
        have hnl : n ≤ cs.length := by rw [hn]; exact runsTo_length _ _
        clear hn hlt hk
        go_wp2
        generalize w.alloc _ = W1 at hrow hB1 ⊢
        clear hM
        go_loopw [8] (fun i wr => ∃ k : Nat, k ≤ n ∧ i = .int .i64 k ∧ wr.rowIs w.heap.size 3 cs.length (fun j => .int .i64 (if hit cs F k j then 1 else 0)) ∧ Below w.heap.size w wr) (fun i _ => n - (intOf i).toNat)
        case atStart => exact ⟨0, Nat.zero_le _, rfl, hrow.out.congr (fun i _ => rfl), hB1.out⟩
        case round =>
          clear hrow hB1
          obtain ⟨k, hk, rfl, hrow, hB⟩ := hrel
          by_cases hlt : k < n
          · have hc1 : pk cs F k < cs.length := (mem_runs.1 (pk_mem cs F k (by have := HN.out; omega))).1
            have hc2 : cs[pk cs F k]?.getD false = true := (mem_runs.1 (pk_mem cs F k (by have := HN.out; omega))).2
            have hnew := hit_new cs F k (by have := HN.out; omega)
            have HS := Lib.hid (hit_succ cs F k)
            have HP := Lib.hid (pickF_pk cs F k (by have := HN.out; omega))
            have HI := Lib.hid ((hI1.below hB).mono hB.size)
            generalize pk cs F k = c at *
            obtain ⟨b, off, rfl, hb, hcell⟩ := hI1.get.2 c hc1
            rw [hc2] at hcell
            clear hc2
            go_wp2_with fail
            refine (pick_at cs (c : Int) true HI.out (by omega) (by omega) (by omega) HP.out).mono ?_
            rintro e w2 ⟨rfl, hb2⟩
            have hrow2 := hrow.of_block (hb2.block _ hrow.lt)
            have hB2 := Below.on hB (Nat.le_refl _) hb2
            have hx1 := (hB2.cell (p := ⟨b, off + c, none⟩) hb).trans hcell
            have hx2 := hrow2.cell hc1
            have hf2 := hrow2.frozen c
            rw [hnew] at hx2
            have HNW := Lib.hid hnew
            have HROW := Lib.hid hrow2
            clear hnew hrow hrow2 hcell hb2 hB
            simp only [Bool.false_eq_true, if_false] at hx2
            go_wp2
            go_roundw
            case rel => exact ⟨k + 1, by omega, by go_num, ((HROW.out).set c _).congr (fun j hj => by rw [HS.out]; by_cases hj : j = c; (subst hj; simp); (rw [if_neg hj]; simp [show c ≠ j from fun h => hj h.symm])), hB2.setCell (Nat.le_refl _) _⟩
            case measure => simp [intOf]; omega
          · obtain rfl : k = n := by omega
            have HT : Hid (∀ j, j < cs.length → hit cs F k j = cs[j]?.getD false) := fun j hj => by have := hit_all cs F j hj; rw [← HN.out] at this; exact this
            go_wp2
            go_loopw [11] (fun i wr => ∃ m : Nat, m ≤ cs.length ∧ i = .int .i64 m ∧ wr.rowIs w.heap.size 3 cs.length (fun j => .int .i64 (if hit cs F k j then 1 else 0)) ∧ Below w.heap.size w wr) (fun i _ => cs.length - (intOf i).toNat)
            case atStart => exact ⟨0, Nat.zero_le _, rfl, hrow, hB⟩
            case round =>
              clear hrow hB
              obtain ⟨m, hm', rfl, hrow, hB⟩ := hrel
              by_cases hlt : m < cs.length
              · obtain ⟨b, off, rfl, hb, hcell⟩ := hI1.get.2 m hlt
                have hx1 := (hB.cell (p := ⟨b, off + m, none⟩) hb).trans hcell
                have hx2 := hrow.cell hlt
                have HROW := Lib.hid hrow
                rw [HT.out m hlt] at hx2
                clear hcell hrow
                cases hbk : cs[m]?.getD false with
                | true =>
                  rw [hbk] at hx1 hx2
                  simp only [if_true] at hx2
                  clear hbk
                  go_wp2
                  go_quiet (fail)
                  go_wp2
                  go_roundw
                  case rel => exact ⟨m + 1, by omega, by go_num, HROW.out, ⟨hB.os, hB.tape, hB.output, hB.size, hB.block⟩⟩
                  case measure => simp [intOf]; omega
                | false =>
                  rw [hbk] at hx1 hx2
                  simp only [Bool.false_eq_true, if_false] at hx2
                  clear hbk
                  go_wp2
                  go_quiet (fail)
                  go_wp2
                  go_roundw
                  case rel => exact ⟨m + 1, by omega, by go_num, HROW.out, ⟨hB.os, hB.tape, hB.output, hB.size, hB.block⟩⟩
                  case measure => simp [intOf]; omega
              · clear hrow
                have HI := Lib.hid ((hI1.below hB).mono hB.size)
                obtain ⟨x, hx⟩ : ∃ x, pickF cs F = (x, decide (0 < k)) := ⟨(pickF cs F).1, by rw [HN.out, ← pick_is cs F]⟩
                obtain ⟨y, hy⟩ : ∃ y, nextF cs F = (y, decide (0 < k)) := ⟨(nextF cs F).1, by rw [HN.out, ← next_is cs F]⟩
                by_cases hk0 : 0 < k
                case' pos =>
                  rw [decide_eq_true hk0] at hx hy
                case' neg =>
                  rw [decide_eq_false hk0] at hx hy
                all_goals
                  have HX := Lib.hid hx
                  have HY := Lib.hid hy
                  clear hx hy
                  go_wp2_with fail
                  refine (pick_at cs x _ HI.out (by omega) (by omega) (by omega) HX.out).mono ?_
                  rintro e w2 ⟨rfl, hb2⟩
                  have HI2 := Lib.hid ((HI.out.below hb2).mono hb2.size)
                  have hB2 := Below.on hB (Nat.le_refl _) hb2
                  clear hb2 hB HI
                  go_wp2_with fail
                  refine (next_at cs y _ HI2.out (by omega) HY.out).mono ?_
                  rintro e w3 ⟨rfl, hb3⟩
                  have hB3 := Below.on hB2 (Nat.le_refl _) hb3
                  clear hb3 hB2 HI2
                  go_wp2_with (go_at_call 18; refine (works_c _).mono ?_; rintro e w5 ⟨rfl, h5⟩)
                  go_ret
                  exact ⟨rfl, Below.on hB3 (Nat.le_refl _) h5⟩
end Go.Proofs.Ytooonjoiidcmgaa
