/- 'same': the two trees of one state answer alike. -/
import Derived.Test.YtooonjoiidcmgaaTreeG
namespace Go.Proofs.Ytooonjoiidcmgaa
open Go.RowKit Go.Shelf

set_option maxRecDepth 100000 in
set_option maxHeartbeats 4000000 in
theorem same_c {n₀ : Nat} (B M : Nat) (st : List Nd) (w : World) (hT : TO n₀ w B st) (hM : MO n₀ w M st) :
    Calls Try.prog 30 #[.pointer (some ⟨B, 0, none⟩), .pointer (some ⟨M, 0, none⟩)] w fun e w' => e = .returned (.bool true) ∧ Below w.heap.size w w' := by
  have HI : Hid (Inv st) := hT.1
  have HT := Lib.hid hT
  have HM := Lib.hid hM
  clear hT hM
  go_enter Try.func30, Try.ntmps30
  go_wp2
  go_loopw [5] (fun i wr => ∃ g : Int, -1 ≤ g ∧ g ≤ 19 ∧ i = .int .i64 g ∧ Below w.heap.size w wr) (fun i _ => (19 - intOf i).toNat)
  case atStart => exact ⟨-1, by omega, by omega, rfl, Below.refl _ _⟩
  case round =>
    obtain ⟨g, hg1, hg2, rfl, hB⟩ := hrel
    by_cases hlt : g < 19
    · obtain ⟨n, hn⟩ : ∃ n, (path st g.toNat).length = n := ⟨_, rfl⟩
      have hn8 : n ≤ 8 := by have h1 := path_length HI.out g.toNat; have h2 := HI.out.depth_le g.toNat; omega
      obtain ⟨xp, hxp⟩ : ∃ x, (nd st g.toNat).parent = x := ⟨_, rfl⟩
      obtain ⟨xd, hxd⟩ : ∃ x, (nd st g.toNat).depth = x := ⟨_, rfl⟩
      obtain ⟨xo, hxo⟩ : ∃ x, (!(nd st g.toNat).off) = x := ⟨_, rfl⟩
      obtain ⟨xh, hxh⟩ : ∃ x, heirF st g.toNat = x := ⟨_, rfl⟩
      have HN := Lib.hid hn
      have HXP := Lib.hid hxp
      have HXD := Lib.hid hxd
      have HXO := Lib.hid hxo
      have HXH := Lib.hid hxh
      clear hn hxp hxd hxo hxh
      go_wp2_with fail
      refine (path_o _ n (HT.out.below hB) rfl HN.out).mono ?_
      rintro e w1 ⟨a, cap, rfl, hN1, hrow, hb⟩
      have hB1 := below_then hB (below_low hb hB.size)
      have hs1 := hB1.size
      have HR := Lib.hid (hrow.mono hB.size)
      have HN1 := Lib.hid hN1
      clear hrow hb hN1 hB
      go_wp2_with fail
      refine (parent_o xp (HT.out.below hB1) HXP.out).mono ?_
      rintro e w' ⟨rfl, rfl⟩
      go_wp2_with fail
      refine (rparent_o xp (HM.out.below hB1) HXP.out).mono ?_
      rintro e w' ⟨rfl, rfl⟩
      go_wp2_with fail
      refine (depth_o xd (HT.out.below hB1) HXD.out).mono ?_
      rintro e w' ⟨rfl, rfl⟩
      go_wp2_with fail
      refine (rdepth_o xd (HM.out.below hB1) HXD.out).mono ?_
      rintro e w2 ⟨rfl, hb⟩
      have hB2 := below_then hB1 (below_low hb hs1)
      have HB2 := Lib.hid hb
      clear hb
      go_wp2_with fail
      refine (online_o xo (HT.out.below hB2) HXO.out).mono ?_
      rintro e w' ⟨rfl, rfl⟩
      go_wp2_with fail
      refine (ronline_o xo (HM.out.below hB2) HXO.out).mono ?_
      rintro e w' ⟨rfl, rfl⟩
      go_wp2_with fail
      refine (heir_o xh (HT.out.below hB2) HXH.out).mono ?_
      rintro e w3 ⟨rfl, hb⟩
      have hB3 := below_then hB2 (below_low hb hB2.size)
      have HB3 := Lib.hid (below_then HB2.out (below_low hb HB2.out.size))
      clear hb
      go_wp2_with fail
      refine (rheir_o xh (HM.out.below hB3) HXH.out).mono ?_
      rintro e w' ⟨rfl, rfl⟩
      go_wp2_with fail
      refine (rpath_o _ n (HM.out.below hB3) rfl HN.out).mono ?_
      rintro e w4 ⟨a2, cap2, rfl, hN4, hb⟩
      have hB4 := below_then hB3 (below_low hb hB3.size)
      have HB4 := Lib.hid (below_then HB3.out (below_low hb HB3.out.size))
      have HN4 := Lib.hid hN4
      clear hb hN4
      go_wp2_with fail
      refine (eqInts_c _ n cap cap2 a a2 _ hn8 (HN1.out.below HB4.out) HN4.out).mono ?_
      rintro e w5 ⟨rfl, hb⟩
      have hB5 := below_then hB4 (below_low hb hB4.size)
      have HB5 := Lib.hid (below_then HB4.out (below_low hb HB4.out.size))
      clear hb hB2 hB3 hB4 HB2 HB3 HB4 HN1 HN4
      go_wp2
      go_loopw [7] (fun i wr => ∃ t : Int, -1 ≤ t ∧ t ≤ 19 ∧ i = .int .i64 t ∧ Below w1.heap.size w1 wr) (fun i _ => (19 - intOf i).toNat)
      case atStart => exact ⟨-1, by omega, by omega, rfl, HB5.out⟩
      case round =>
        clear hB5 HB5
        obtain ⟨t, ht1, ht2, rfl, hC⟩ := hrel
        have hB2 := below_then hB1 (below_low hC hs1)
        by_cases hlt2 : t < 19
        · obtain ⟨xb, hxb⟩ : ∃ x, belowF st g.toNat t = x := ⟨_, rfl⟩
          have HXB := Lib.hid hxb
          clear hxb
          go_wp2_with fail
          refine (below_o xb (HT.out.below hB2) HXB.out).mono ?_
          rintro e w2 ⟨rfl, hb⟩
          have hB3 := below_then hB2 (below_low hb hB2.size)
          have hC3 := below_then hC (below_low hb hC.size)
          clear hb hC hB2
          go_wp2_with fail
          refine (rbelow_o xb (HM.out.below hB3) HXB.out).mono ?_
          rintro e w3 ⟨rfl, hb⟩
          have hC4 := below_then hC3 (below_low hb hC3.size)
          clear hb hC3 hB3
          go_wp2
          go_roundw
          case rel => exact ⟨t + 1, by omega, by omega, by go_num, hC4⟩
          case measure => simp [intOf]; omega
        · have HR2 := Lib.hid (owns_below HR.out hC)
          go_wp2
          go_loopw [8] (fun i wr => ∃ k : Nat, k ≤ n ∧ i = .int .i64 k ∧ (∃ ys : List Value, wr.ownsRow w.heap.size 3 1 (.slice a n cap) n ys) ∧ Below w.heap.size w wr) (fun i _ => 8 - (intOf i).toNat)
          case atStart => exact ⟨0, Nat.zero_le _, rfl, ⟨_, HR2.out⟩, hB2⟩
          case round =>
            clear hC hB2 HR2 ht1 ht2
            obtain ⟨k, hk, rfl, ⟨ys, hrow⟩, hD⟩ := hrel
            by_cases hlt3 : k < n
            · obtain ⟨b, cap', he, hbl, _⟩ := hrow.form (by omega)
              obtain ⟨rfl, rfl⟩ : a = some ⟨b, 0, none⟩ ∧ cap = cap' := by
                simp only [Value.slice.injEq] at he; exact ⟨he.1, he.2.2⟩
              obtain ⟨u, hu⟩ : ∃ u, ys[k]? = some u := ⟨ys[k]'(by have := hrow.1; omega), List.getElem?_eq_getElem _⟩
              have hc := (hrow.cellAt k (by omega)).trans hu
              have hf := hrow.frozenAt k
              have hle := (hrow.lt b rfl).1
              have HS := Lib.hid (hrow.stored k (.int .i64 (-1)))
              have HD : Hid (Below w.heap.size w (wr.setCell ⟨b, k, none⟩ (.int .i64 (-1)))) := hD.setCell hle _
              clear hrow hD hu
              go_wp2
              go_roundw
              case rel => exact ⟨k + 1, by omega, by go_num, ⟨_, HS.out.1⟩, HD.out⟩
              case measure => simp [intOf]; omega
            · go_wp2
              go_roundw
              case rel => exact ⟨g + 1, by omega, by omega, by go_num, hD⟩
              case measure => simp [intOf]; omega
    · obtain ⟨x, hx⟩ : ∃ x, st.length = x := ⟨_, rfl⟩
      have HX := Lib.hid hx
      clear hx
      go_wp2_with fail
      refine (many_o x (HT.out.below hB) HX.out).mono ?_
      rintro e w' ⟨rfl, rfl⟩
      go_wp2_with fail
      refine (rmany_o x (HM.out.below hB) HX.out).mono ?_
      rintro e w' ⟨rfl, rfl⟩
      go_wp2
      go_ret
      exact ⟨by simp, hB⟩
end Go.Proofs.Ytooonjoiidcmgaa
