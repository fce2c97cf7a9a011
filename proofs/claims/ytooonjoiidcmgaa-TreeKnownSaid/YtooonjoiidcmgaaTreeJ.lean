/- 'grown': a tree of one's own, made out of a list of Dos. -/
import Derived.Test.YtooonjoiidcmgaaTreeI
namespace Go.Proofs.Ytooonjoiidcmgaa
open Go.RowKit Go.Shelf

set_option maxRecDepth 100000 in
set_option maxHeartbeats 4000000 in
theorem grown_c (a : Option Addr) (len cap : Nat) (D : Nat → Int × Int) (w : World) (_hl : len ≤ maxLen) (hD : DoAt w.heap.size w a len D) :
    Calls Try.prog 32 #[.slice a len cap] w fun e w' => ∃ B st, e = .returned (.pointer (some ⟨B, 0, none⟩)) ∧ TO w.heap.size w' B st ∧ (nd st 1).off = false ∧ Below w.heap.size w w' := by
  have HD := Lib.hid hD
  clear hD
  unfold maxLen at _hl
  go_enter Try.func32, Try.ntmps32
  go_wp2_with fail
  refine (new_o w.heap.size w (Nat.le_refl _)).mono ?_
  rintro e w1 ⟨rfl, hT, hB⟩
  generalize w.heap.size + 1 = B at *
  go_wp2_with fail
  go_loopw [4] (fun i wr => ∃ k : Nat, k ≤ 60 ∧ i = .int .i64 k ∧ (∃ st, TO w.heap.size wr B st ∧ (nd st 1).off = false) ∧ Below w.heap.size w wr) (fun i _ => 60 - (intOf i).toNat)
  case atStart => exact ⟨0, Nat.zero_le _, rfl, ⟨_, hT, rfl⟩, hB⟩
  case round =>
    clear hT hB
    obtain ⟨k, hk, rfl, ⟨st, hT, hon⟩, hB⟩ := hrel
    have HT := Lib.hid hT
    have HB := Lib.hid hB
    have HL := hT.lt
    have HON := Lib.hid hon
    clear hon
    by_cases hgo : k < len ∧ k < 60
    · obtain ⟨hlt, hlt6⟩ := hgo
      obtain ⟨b, off, rfl, hbl, c1, c2⟩ := HD.out.below hB k hlt
      generalize (D k).1 = kd at *
      generalize (D k).2 = ad at *
      clear hT hB
      by_cases hkd : kd % 4 < 3
      · obtain ⟨st', x, c, hadd⟩ : ∃ st' x c, addF st (ad % 18).toNat = (st', x, c) := ⟨_, _, _, rfl⟩
        have HA := Lib.hid hadd
        have hon' : Hid ((nd st' 1).off = false) := by
          have h1 := HT.out.1.some
          have : st' = (addF st (ad % 18).toNat).1 := by rw [hadd]
          rw [this]; unfold Hid addF
          split
          · exact HON.out
          · split
            · exact HON.out
            · show (nd (st ++ _) 1).off = false
              rw [nd_append_old _ _ (by omega)]; exact HON.out
        clear hadd
        go_wp2_with (go_at_call 23; refine (bring_c _ _ _ (by omega) (by omega)).mono ?_; rintro e w' ⟨rfl, rfl⟩)
        refine (add_o st' x c HT.out HA.out).mono ?_
        rintro e w3 ⟨rfl, hT, ht⟩
        have HB3 := Lib.hid (below_then HB.out (ht.own HL))
        have HT3 := Lib.hid hT
        clear hT ht HT HB c1 c2
        go_wp2
        go_roundw
        case rel => exact ⟨k + 1, by omega, by go_num, ⟨st', HT3.out, hon'.out⟩, HB3.out⟩
        case measure => simp [intOf]; omega
      · obtain ⟨st', c, hoff⟩ : ∃ st' c, offF st (ad % 18).toNat = (st', c) := ⟨_, _, rfl⟩
        have HA := Lib.hid hoff
        have hon' : Hid ((nd st' 1).off = false) := by
          have : st' = (offF st (ad % 18).toNat).1 := by rw [hoff]
          rw [this]; unfold Hid offF
          split
          · exact HON.out
          · split
            · exact HON.out
            · show (nd (st.set _ _) 1).off = false
              rw [nd_set (by omega) (by omega), if_neg (by omega)]; exact HON.out
        clear hoff
        go_wp2_with (go_at_call 23; refine (bring_c _ _ _ (by omega) (by omega)).mono ?_; rintro e w' ⟨rfl, rfl⟩)
        refine (off_o st' c HT.out HA.out).mono ?_
        rintro e w3 ⟨rfl, hT, ht⟩
        have HB3 := Lib.hid (below_then HB.out (ht.own HL))
        have HT3 := Lib.hid hT
        clear hT ht HT HB c1 c2
        go_wp2
        go_roundw
        case rel => exact ⟨k + 1, by omega, by go_num, ⟨st', HT3.out, hon'.out⟩, HB3.out⟩
        case measure => simp [intOf]; omega
    · by_cases hlt : k < len
      case' pos =>
        have hlt6 : ¬ k < 60 := by omega
      all_goals
        clear hgo hT hB
        go_wp2_with fail
        go_ret
        exact ⟨B, st, rfl, HT.out, HON.out, HB.out⟩
end Go.Proofs.Ytooonjoiidcmgaa
