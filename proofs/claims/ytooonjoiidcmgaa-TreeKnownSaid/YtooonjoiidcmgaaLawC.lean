/- The walk of the statement PickRound: true, and nothing that lay has turned. -/
import Derived.Test.YtooonjoiidcmgaaPlainB
import Derived.Test.YtooonjoiidcmgaaLawB
namespace Go.Proofs.Ytooonjoiidcmgaa
open Go.RowKit Go.Shelf

theorem owns_below {w w' : World} {base : Nat} {e : TypeId} {size : Nat} {v : Value} {n : Nat} {xs : List Value} (h : w.ownsRow base e size v n xs) (hb : Below w.heap.size w w') : w'.ownsRow base e size v n xs :=
  h.kept (row := none) ⟨hb.os, hb.tape, hb.output, hb.size, fun k hk _ => hb.block k hk⟩ (by
    rcases h.2 with ⟨rfl, _⟩ | ⟨g, cap, cur, rfl, _⟩
    · exact .inl rfl
    · exact .inr (by simp [Value.ownBlock]))
theorem owns_ints {w : World} {base : Nat} {v : Value} {xs : List Int} (h : w.ownsRow base 3 1 v xs.length (xs.map (Value.int .i64))) : Ints w.heap.size w v xs := by
  by_cases h0 : xs.length = 0
  · rcases h.2 with ⟨rfl, _⟩ | ⟨g, cap, cur, rfl, _⟩
    · exact ⟨none, 0, by rw [h0], fun j hj => by omega⟩
    · exact ⟨_, cap, rfl, fun j hj => by omega⟩
  · obtain ⟨g, cap, rfl, _, hg⟩ := h.form (by omega)
    refine ⟨_, cap, rfl, fun j hj => ⟨g, 0, rfl, hg, ?_⟩⟩
    rw [Nat.zero_add, h.cellAt j (by omega), List.getElem?_map, List.getElem?_eq_getElem hj]; rfl
theorem rowIs_bools {w : World} {b n cap : Nat} {bs : List Bool} (h : w.rowIs b 4 n (fun j => .bool (bs[j]?.getD false))) (e : n = bs.length) : Bools w.heap.size w (.slice (some ⟨b, 0, none⟩) n cap) bs := by
  subst e
  exact ⟨_, cap, rfl, fun j hj => ⟨b, 0, rfl, h.lt, by rw [Nat.zero_add]; exact h.cell hj⟩⟩

theorem info4 : (Try.prog.info? 4).map (fun i => (i.zero, i.size, i.bytes)) = some (some (.bool false), 1, 1) := by kernel_rfl

set_option maxRecDepth 100000 in
set_option maxHeartbeats 2000000 in
theorem round_walk (c0 f0 m0 : Int) (w : World) :
    Calls Try.prog 6 #[.int .i64 c0, .int .i64 f0, .int .i64 m0] w fun e w' => e = .returned (.bool true) ∧ Below w.heap.size w w' := by
  obtain ⟨i0, hi, hz0, hz1, hz2⟩ := info_parts info3
  go_enter Try.func6, Try.ntmps6
  go_wp2_with fail
  refine (works_c _).mono ?_
  rintro e w1 ⟨rfl, hw1⟩
  -- the processors
  obtain ⟨C, hC, hC1, hC2⟩ : ∃ C : Nat, (C : Int) = 1 + c0 % 8 ∧ 1 ≤ C ∧ C ≤ 8 := ⟨(1 + c0 % 8).toNat, by omega, by omega, by omega⟩
  have HC := Lib.hid hC
  clear hC
  have hM : ∀ w, (Instr.makeSlice 22 (.int .i64 (1 + c0 % 8)) (.int .i64 (1 + c0 % 8))).run Try.prog w = .ok (.slice (some ⟨w.heap.size, 0, none⟩) C C) (w.alloc (.cells (madeCells #[.bool false] C) 4)) :=
    fun w => by rw [← HC.out]; exact run_make_row' (P := Try.prog) 22 4 (.bool false) 1 Try.underlying22 info4 rfl .i64 .i64 C (by omega) (by omega) w
  have h80 := Int.emod_nonneg c0 (by omega : (8 : Int) ≠ 0)
  have h81 := Int.emod_lt_of_pos c0 (by omega : (0 : Int) < 8)
  go_wp2_with fail
  refine (bring_c c0 8 _ (by omega) (by omega)).mono ?_
  rintro e w' ⟨rfl, rfl⟩
  go_wp2_with fail
  rw [← HC.out]
  clear hM h80 h81
  have hrow := World.rowIs_made w1 (.bool false) C 4
  have hB1 := Below.on hw1 (Nat.le_refl _) ((Below.refl w1.heap.size w1).alloc (Nat.le_refl _) (.cells (madeCells #[.bool false] C) 4))
  have hH : w.heap.size ≤ w1.heap.size := hw1.size
  have hs1 : w1.heap.size + 1 ≤ (w1.alloc (.cells (madeCells #[.bool false] C) 4)).heap.size := by simp
  generalize w1.alloc _ = W1 at hrow hB1 hs1 ⊢
  generalize w1.heap.size = H at *
  go_loopw [8] (fun i wr => ∃ k : Nat, k ≤ C ∧ i = .int .i64 k ∧ wr.rowIs H 4 C (fun j => .bool (decide (j < k))) ∧ Below w.heap.size w wr ∧ H + 1 ≤ wr.heap.size) (fun i _ => C - (intOf i).toNat)
  case atStart => exact ⟨0, Nat.zero_le _, rfl, hrow.congr (fun i _ => by simp), hB1, hs1⟩
  case round =>
    clear hrow hB1 hs1
    obtain ⟨k, hk, rfl, hrow, hB, hs⟩ := hrel
    by_cases hlt : k < C
    · have hf := hrow.frozen k
      have hx := hrow.cell hlt
      have HR := Lib.hid hrow
      clear hrow
      go_wp2
      go_roundw
      case rel => exact ⟨k + 1, by omega, by go_num, (HR.out.set k _).congr (fun j hj => by by_cases e : j = k; (subst e; simp); (rw [if_neg e]; congr 1; simp; omega)), hB.setCell hH _, by simpa using hs⟩
      case measure => simp [intOf]; omega
    · obtain rfl : C = k := by omega
      have hI0 := Lib.hid ((rowIs_bools (cap := C) (bs := allRun C) (hrow.congr (fun j hj => by rw [allRun_get C hj, decide_eq_true hj])) (by simp [allRun])))
      have hI00 : Hid (Bools (H + 1) wr (.slice (some ⟨H, 0, none⟩) C C) (allRun C)) := by
        obtain ⟨a', cap', e, hc⟩ := hI0.out
        simp only [Value.slice.injEq] at e
        obtain ⟨rfl, e2, rfl⟩ := e
        refine ⟨_, C, by rw [← e2], fun j hj => ?_⟩
        obtain ⟨b, off, e3, _, h4⟩ := hc j hj
        simp only [Option.some.injEq, Addr.mk.injEq] at e3
        exact ⟨b, off, by rw [e3.1, e3.2.1], by omega, h4⟩
      clear hrow hlt hk hI0
      obtain ⟨p, hp, hpn⟩ := next_allRun C hC1 f0
      obtain ⟨M, hMM, hM0, hM1⟩ : ∃ M : Nat, (M : Int) = m0 % 60 ∧ 0 ≤ M ∧ M < 60 := ⟨(m0 % 60).toNat, by omega, by omega, by omega⟩
      have HM := Lib.hid hMM
      have HP := Lib.hid (next_last_of C p f0 hC1 hp hpn)
      have HA : Hid (∀ j, ((p + j) % C : Nat) < C) := fun j => Nat.mod_lt _ hC1
      clear hMM hpn
      go_wp2_with fail
      go_loopw [9, 10, 11] (fun v l i wr => ∃ (j : Nat) (sv : Value), sv = v ∧ j ≤ M ∧ i = .int .i64 j ∧ l = .int .i64 (lastOf C p f0 j) ∧ wr.ownsRow (H + 1) 3 1 v (turns C p j).length ((turns C p j).map (Value.int .i64)) ∧ Bools (H + 1) wr (.slice (some ⟨H, 0, none⟩) C C) (allRun C) ∧ Below w.heap.size w wr ∧ H + 1 ≤ wr.heap.size) (fun _ _ i _ => M - (intOf i).toNat)
      case atStart => exact ⟨0, _, rfl, Nat.zero_le _, rfl, rfl, World.ownsRow_nil _ _ _ _, hI00.out, hB, hs⟩
      case round =>
        clear hI00 hB hs
        obtain ⟨j, v, rfl, hj, rfl, rfl, hrow, hI, hB, hs⟩ := hrel
        have hm0 := Int.emod_nonneg m0 (by omega : (60 : Int) ≠ 0)
        have hm1 := Int.emod_lt_of_pos m0 (by omega : (0 : Int) < 60)
        have hql := turns_length C p j
        by_cases hlt : j < M
        · have hlt' : (j : Int) < m0 % 60 := by rw [← HM.out]; omega
          have hq := HA.out j
          have HX := Lib.hid (HP.out j)
          have HS := Lib.hid (turns_succ C p j)
          have HL := Lib.hid (lastOf_succ C p f0 j)
          generalize (p + j) % C = q at *
          generalize lastOf C p f0 j = l at *
          have HQ : Hid ((turns C p j).length = j) := hql
          clear hql
          go_wp2_with fail
          refine (bring_c m0 60 _ (by omega) (by omega)).mono ?_
          rintro e w' ⟨rfl, rfl⟩
          go_wp2_with fail
          refine (next_at (allRun C) (q : Int) true (hI.mono hs) (by simp [allRun]; omega) HX.out).mono ?_
          rintro e w2 ⟨rfl, hb2⟩
          have hrow2 := owns_below hrow hb2
          have hI2 := Lib.hid (hI.below (hb2.mono hs))
          have hB2 := Lib.hid (Below.on hB (Nat.le_refl _) hb2)
          have hs2 : H + 1 ≤ w2.heap.size := Nat.le_trans hs hb2.size
          clear hrow hI hB hs hb2
          go_wp2_with (at_builtin; refine wpList_append_own _ rfl _ _ 27 rfl (H + 1) 3 i0 (.int .i64 0) 1 8 Try.underlying27 hi hz0 hz1 hz2 rfl (by decide) _ _ _ rfl (hrow2.alloc _) ⟨w2.heap.size, 0, none⟩ 1 1 [.int .i64 (q : Int)] rfl rfl ?c1 ?c2 ?c3 ?c4 ?c5 ?_)
          case c1 => exact cell_one_new _ _ _
          case c2 => simp [Value.oneCell']
          case c3 => rw [HQ.out]; unfold maxLen; omega
          case c4 => rw [HQ.out]; omega
          case c5 => simp; omega
          intro v' w3 hown' hgrow _
          have hB3 : Below (H + 1) w2 w3 := ((Below.refl _ _).alloc hs2 _).grown hgrow (by simp; omega) (fun k e => (hrow2.lt k e).1)
          have HR : Hid (w3.ownsRow (H + 1) 3 1 v' (turns C p (j + 1)).length ((turns C p (j + 1)).map (Value.int .i64))) := by
            unfold Hid; rw [HS.out]; simpa using hown'
          have hex : ∃ g cap, v' = .slice (some ⟨g, 0, none⟩) (j + 1) cap := by
            have := hown'
            rw [HQ.out] at this
            exact ownsRow_succ this
          obtain ⟨g, cap, hv⟩ := hex
          clear hown' hgrow hrow2
          subst hv
          go_wp2
          go_roundw
          case rel => exact ⟨j + 1, _, rfl, by omega, by go_num, by rw [HL.out], HR.out, hI2.out.below hB3, hB2.out.trans (hB3.mono (by omega)), Nat.le_trans hs2 hB3.size⟩
          case measure => simp [intOf]; omega
        · obtain rfl : M = j := by omega
          have hge : ¬ (M : Int) < m0 % 60 := by rw [← HM.out]; omega
          have HI := Lib.hid (owns_ints hrow)
          have HF := Lib.hid (turns_fair C p M hC1 hC2)
          have HU : Hid (2 ≤ C → C ≤ M → fairF (turns C p M) (C : Int) ((C - 1 : Nat) : Int) = false) := fun h1 h2 => turns_unfair C p M h1 hC2 h2 hp
          have hex : ∃ a cap, v = .slice a M cap := by
            obtain ⟨a', cap', e, _⟩ := HI.out
            rw [turns_length] at e
            exact ⟨a', cap', e⟩
          have HQ : Hid ((turns C p M).length = M) := hql
          have hB' := Lib.hid hB
          clear hrow hql hI hB hs
          obtain ⟨a, cap, hv⟩ := hex
          subst hv
          generalize turns C p M = xs at *
          generalize lastOf C p f0 M = l at *
          go_wp2_with fail
          refine (bring_c m0 60 _ (by omega) (by omega)).mono ?_
          rintro e w' ⟨rfl, rfl⟩
          go_wp2_with fail
          refine (fair_c _ _ xs _ _ _ HI.out (by rw [HQ.out]; omega)).mono ?_
          rintro e w' ⟨rfl, rfl⟩
          rw [HF.out]
          by_cases hMC : M < C
          · go_wp2
            go_ret
            exact ⟨rfl, hB'.out⟩
          · by_cases hC2' : C < 2
            · go_wp2
              go_ret
              exact ⟨rfl, hB'.out⟩
            · have HF2 := Lib.hid (HU.out (by omega) (by omega))
              go_wp2_with fail
              refine (fair_c _ _ xs _ _ _ HI.out (by rw [HQ.out]; omega)).mono ?_
              rintro e w' ⟨rfl, rfl⟩
              rw [show (C : Int) - 1 = ((C - 1 : Nat) : Int) by omega, HF2.out]
              go_wp2
              go_ret
              exact ⟨rfl, hB'.out⟩
end Go.Proofs.Ytooonjoiidcmgaa
