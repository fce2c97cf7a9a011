/- The walk of TreePlays: true. -/
import Derived.Test.YtooonjoiidcmgaaTreeH
import Derived.Deep.RegionHeld3
namespace Go.Proofs.Ytooonjoiidcmgaa
open Go.RowKit Go.Shelf

/-- a list of pairs of numbers that lies below base -/
def DoAt (base : Nat) (w : World) (a : Option Addr) (n : Nat) (D : Nat → Int × Int) : Prop :=
  ∀ j, j < n → ∃ b off, a = some ⟨b, off, none⟩ ∧ b < base ∧ w.cell? ⟨b, off + j * 2, none⟩ = some (.int .i64 (D j).1) ∧ w.cell? ⟨b, off + j * 2 + 1, none⟩ = some (.int .i64 (D j).2)
theorem DoAt.below {base : Nat} {w w' : World} {a : Option Addr} {n : Nat} {D : Nat → Int × Int} (h : DoAt base w a n D) (hb : Below base w w') : DoAt base w' a n D := by
  intro j hj
  obtain ⟨b, off, e, hl, h1, h2⟩ := h j hj
  exact ⟨b, off, e, hl, (hb.cell (p := ⟨b, off + j * 2, none⟩) hl).trans h1, (hb.cell (p := ⟨b, off + j * 2 + 1, none⟩) hl).trans h2⟩

set_option maxRecDepth 100000 in
set_option maxHeartbeats 4000000 in
theorem plays_walk (a : Option Addr) (len cap : Nat) (D : Nat → Int × Int) (w : World) (_hl : len ≤ maxLen) (hD : DoAt w.heap.size w a len D) :
    Calls Try.prog 9 #[.slice a len cap] w fun e w' => e = .returned (.bool true) ∧ Below w.heap.size w w' := by
  have HD := Lib.hid hD
  clear hD
  unfold maxLen at _hl
  go_enter Try.func9, Try.ntmps9
  go_wp2_with fail
  refine (new_o w.heap.size w (Nat.le_refl _)).mono ?_
  rintro e w1 ⟨rfl, hT, hb⟩
  have HT := Lib.hid hT
  have HB := Lib.hid hb
  clear hT hb
  generalize w.heap.size + 1 = B at *
  go_wp2_with fail
  refine (rnew_o w.heap.size w1 HB.out.size).mono ?_
  rintro e w2 ⟨rfl, hM, hb⟩
  have hT2 := HT.out.below hb
  have hB2 := below_then HB.out (below_low hb HB.out.size)
  clear HT HB hb
  generalize w1.heap.size + 2 = M at *
  go_wp2_with fail
  go_loopw [5] (fun i wr => ∃ k : Nat, k ≤ 60 ∧ i = .int .i64 k ∧ (∃ st, TO w.heap.size wr B st ∧ MO w.heap.size wr M st) ∧ Below w.heap.size w wr) (fun i _ => 60 - (intOf i).toNat)
  case atStart => exact ⟨0, Nat.zero_le _, rfl, ⟨_, hT2, hM⟩, hB2⟩
  case round =>
    clear hT2 hM hB2
    obtain ⟨k, hk, rfl, ⟨st, hT, hM⟩, hB⟩ := hrel
    have HT := Lib.hid hT
    have HM := Lib.hid hM
    have HB := Lib.hid hB
    have HL := hT.lt
    by_cases hgo : k < len ∧ k < 60
    · obtain ⟨hlt, hlt6⟩ := hgo
      obtain ⟨b, off, rfl, hbl, c1, c2⟩ := HD.out.below hB k hlt
      generalize (D k).1 = kd at *
      generalize (D k).2 = ad at *
      clear hT hM hB
      by_cases hkd : kd % 2 = 0
      · have hkb : (kd % 2 == 0) = true := by simpa using hkd
        clear hkd
        obtain ⟨st', x, c, hadd⟩ : ∃ st' x c, addF st ad.toNat = (st', x, c) := ⟨_, _, _, rfl⟩
        have HA := Lib.hid hadd
        clear hadd
        go_wp2_with (go_at_call 23; refine (bring_c _ _ _ (by omega) (by omega)).mono ?_; rintro e w' ⟨rfl, rfl⟩)
        refine (add_o st' x c HT.out HA.out).mono ?_
        rintro e w3 ⟨rfl, hT, ht⟩
        have hb3 := ht.own HL
        have c23 := (hb3.cell (p := ⟨b, off + k * 2 + 1, none⟩) hbl).trans c2
        have HM3 := Lib.hid (HM.out.turned ht (by decide) (by decide) (by decide))
        have HT3 := Lib.hid hT
        have HB3 := Lib.hid hb3
        clear hT ht hb3 HT HM c1 c2
        go_wp2_with fail
        refine (radd_o st' x c HM3.out HA.out).mono ?_
        rintro e w4 ⟨rfl, hM, ht⟩
        have HT4 := Lib.hid (HT3.out.turned ht (by decide) (by decide))
        have HM4 := Lib.hid hM
        have HB4 := Lib.hid (below_then HB.out (below_then HB3.out (ht.own HM3.out.lt)))
        clear hM ht HT3 HM3 HB3 HB
        go_wp2
        go_roundw
        case rel => exact ⟨k + 1, by omega, by go_num, ⟨st', HT4.out, HM4.out⟩, HB4.out⟩
        case measure => simp [intOf]; omega
      · have hkb : (kd % 2 == 0) = false := by simpa using hkd
        clear hkd
        obtain ⟨st', c, hoff⟩ : ∃ st' c, offF st ad.toNat = (st', c) := ⟨_, _, rfl⟩
        have HA := Lib.hid hoff
        clear hoff
        go_wp2_with (go_at_call 23; refine (bring_c _ _ _ (by omega) (by omega)).mono ?_; rintro e w' ⟨rfl, rfl⟩)
        have HTd := Lib.hid (HT.out.below (Below.refl _ _).drew)
        have HMd := Lib.hid (HM.out.below (Below.refl _ _).drew)
        go_region_held3 (fun w' => w'.cell? ⟨b, off + k * 2 + 1, none⟩ = some (.int .i64 ad))
          (first | go_keep | exact (hb4.cell (p := ⟨b, off + k * 2 + 1, none⟩) hbl).trans c2 | exact (hb3.cell (p := ⟨b, off + k * 2 + 1, none⟩) hbl).trans c2)
          (first
            | (go_at_call 28; refine (off_o st' c HTd.out HA.out).mono ?_; rintro e w3 ⟨rfl, hT3, ht3⟩; have hb3 : Below w.heap.size wr w3 := below_then (Below.refl _ _).drew (ht3.own HL); have HM3 := Lib.hid (HMd.out.turned ht3 (by decide) (by decide) (by decide)))
            | (go_at_call 29; refine (roff_o st' c HM3.out HA.out).mono ?_; rintro e w4 ⟨rfl, hM4, ht4⟩; have HT4 := hT3.turned ht4 (by decide) (by decide); have hb4 : Below w.heap.size wr w4 := below_then hb3 (ht4.own HM3.out.lt)))
        go_wp2
        go_roundw
        case rel => exact ⟨k + 1, by omega, by go_num, ⟨st', HT4, hM4⟩, below_then HB.out hb4⟩
        case measure => simp [intOf]; omega
    · by_cases hlt : k < len
      case' pos =>
        have hlt6 : ¬ k < 60 := by omega
      all_goals
        clear hgo
        clear hT hM hB
        go_wp2_with fail
        refine (same_c B M st wr HT.out HM.out).mono ?_
        rintro e w3 ⟨rfl, hb⟩
        have HB3 := Lib.hid (below_then HB.out (below_low hb HL))
        clear hb
        go_wp2_with fail
        refine (tworks_c _).mono ?_
        rintro e w4 ⟨rfl, hb⟩
        have HB4 := Lib.hid (below_then HB3.out (below_low hb HB3.out.size))
        clear hb
        go_wp2
        go_ret
        exact ⟨rfl, HB4.out⟩
end Go.Proofs.Ytooonjoiidcmgaa
