/- The walk of TreePaths: true. -/
import Derived.Test.YtooonjoiidcmgaaTreeK
namespace Go.Proofs.Ytooonjoiidcmgaa
open Go.RowKit Go.Shelf

theorem path_chain {st : List Nd} (hi : Inv st) : ∀ m g, g ≤ m → ∀ i, i + 1 < (path st g).length → (nd st ((path st g)[i]?.getD 0)).parent = (path st g)[i + 1]?.getD 0 ∧ (path st g)[i + 1]?.getD 0 < (path st g)[i]?.getD 0 := by
  intro m
  induction m with
  | zero => intro g hg i hl; rw [path_out (by omega)] at hl; simp at hl
  | succ m ih =>
    intro g hg i hl
    by_cases h : 1 ≤ g ∧ g ≤ st.length
    · rw [path_in hi h.1 h.2] at hl ⊢
      have hlt := hi.parent_lt h.1
      cases i with
      | zero =>
        have : 0 < (path st (nd st g).parent).length := by simp at hl; exact hl
        have hin : 1 ≤ (nd st g).parent ∧ (nd st g).parent ≤ st.length := Classical.byContradiction fun hn => by rw [path_out (by omega)] at this; simp at this
        rw [path_in hi hin.1 hin.2]
        simp
        exact hlt
      | succ i =>
        have := ih (nd st g).parent (by omega) i (by simpa using hl)
        simpa using this
    · rw [path_out (by omega)] at hl; simp at hl
theorem path_last {st : List Nd} (hi : Inv st) : ∀ m g, g ≤ m → 1 ≤ g → g ≤ st.length → (path st g)[(path st g).length - 1]?.getD 0 = 1 := by
  intro m
  induction m with
  | zero => intro g h0 h1; omega
  | succ m ih =>
    intro g h0 h1 h2
    by_cases e : g = 1
    · subst e
      rw [path_in hi (by omega) h2, hi.root, path_out (.inl rfl)]; rfl
    · obtain ⟨u1, u2, _⟩ := hi.up g (by omega) h2
      have := ih _ (show (nd st g).parent ≤ m by omega) u1 (by omega)
      rw [path_in hi h1 h2]
      have hl : 0 < (path st (nd st g).parent).length := by rw [path_in hi u1 (by omega)]; simp
      rw [List.length_cons, Nat.add_sub_cancel]
      obtain ⟨k, hk⟩ : ∃ k, (path st (nd st g).parent).length = k + 1 := ⟨_, (Nat.sub_add_cancel hl).symm⟩
      rw [hk] at this ⊢
      simpa using this

theorem below_drewN (w : World) (n : Nat) : Below w.heap.size w (w.drewN n) := ⟨rfl, rfl, rfl, Nat.le_refl _, fun _ _ => rfl⟩
theorem parent_q {n₀ n : Nat} {w : World} {B : Nat} {st : List Nd} {g : Int} (x : Nat) (h : TO n₀ w B st) (e : (nd st g.toNat).parent = x) :
    Calls Try.prog 36 #[.pointer (some ⟨B, 0, none⟩), .int .i64 g] (w.drewN n) fun e w' => e = .returned (.int .i64 (x : Int)) ∧ ∃ m, w' = w.drewN m :=
  Calls.quiet_of_same ((parent_o x (h.below (below_drewN w n)) e).mono fun _ _ ⟨h1, h2⟩ => ⟨h1, h2.symm⟩)
theorem belowF_mem (st : List Nd) (g t : Nat) : belowF st g (t : Int) = decide (t ∈ path st g) := by
  unfold belowF
  rw [Bool.eq_iff_iff, List.any_eq_true, decide_eq_true_eq]
  constructor
  · rintro ⟨x, hx, e⟩; have e' : (x : Int) = (t : Int) := by simpa using e
    have : x = t := by omega
    subst this; exact hx
  · intro h; exact ⟨t, h, by simp⟩
theorem arr_false (w : World) : (w.alloc (.cells (Array.replicate 17 (.bool false)) 53)).rowIs w.heap.size 53 17 (fun _ => .bool false) :=
  World.rowIs_alloc w (Array.replicate 17 (.bool false)) 53 _ (fun i hi => by simp at hi; simp [hi])

set_option maxRecDepth 100000 in
set_option maxHeartbeats 4000000 in
theorem paths_walk (a : Option Addr) (len cap : Nat) (D : Nat → Int × Int) (w : World) (hl : len ≤ maxLen) (hD : DoAt w.heap.size w a len D) :
    Calls Try.prog 10 #[.slice a len cap] w fun e w' => e = .returned (.bool true) ∧ Below w.heap.size w w' := by
  have HG := Lib.hid (grown_c a len cap D · hl)
  have HD := Lib.hid hD
  clear hD hl
  go_enter Try.func10, Try.ntmps10
  go_wp2_with fail
  refine (tworks_c _).mono ?_
  rintro e w0 ⟨rfl, hB0⟩
  have HB0 := Lib.hid hB0
  have HDD := Lib.hid ((HD.out.below hB0))
  clear hB0
  go_wp2_with fail
  refine (HG.out w0 (fun j hj => by obtain ⟨b, off, e, hb, h⟩ := HDD.out j hj; exact ⟨b, off, e, Nat.lt_of_lt_of_le hb HB0.out.size, h⟩)).mono ?_
  rintro e w1 ⟨B, st, rfl, hT, hon, hB⟩
  have HI : Hid (Inv st) := hT.1
  obtain ⟨m, hm⟩ : ∃ m, st.length = m := ⟨_, rfl⟩
  have hm16 : m ≤ 16 := by rw [← hm]; exact HI.out.few
  have hm1 : 1 ≤ m := by rw [← hm]; exact HI.out.some
  have HM := Lib.hid hm
  have HT := Lib.hid hT
  have HB := Lib.hid (below_then HB0.out (below_low hB HB0.out.size))
  clear HG HD HDD hT hon hm hB
  have HL := HT.out.lt
  have HL0 := HB0.out.size
  clear HB0
  go_wp2_with (go_at_call 33; refine (many_o m HT.out HM.out).mono ?_; rintro e w' ⟨rfl, rfl⟩)
  go_loopw [4] (fun i wr => ∃ g : Nat, 1 ≤ g ∧ g ≤ m + 1 ∧ i = .int .i64 g ∧ Below w1.heap.size w1 wr) (fun i _ => 17 - (intOf i).toNat)
  case atStart => exact ⟨1, by omega, by omega, rfl, Below.refl _ _⟩
  case round =>
    obtain ⟨g, hg1, hg2, rfl, hC⟩ := hrel
    go_wp2_with fail
    refine (many_o m (HT.out.below hC) HM.out).mono ?_
    rintro e w' ⟨rfl, rfl⟩
    by_cases hlt : g ≤ m
    · obtain ⟨xs, hxs⟩ : ∃ xs, path st g = xs := ⟨_, rfl⟩
      obtain ⟨n, hn⟩ : ∃ n, xs.length = n := ⟨_, rfl⟩
      have hdn : (nd st g).depth = n := by rw [← path_length HI.out, hxs, hn]
      have hn8 : n ≤ 8 := by rw [← hdn]; exact HI.out.depth_le g
      have hn1 : 1 ≤ n := by rw [← hn, ← hxs, path_in HI.out hg1 (by rw [HM.out]; exact hlt)]; simp
      have hfirst : xs[0]?.getD 0 = g := by rw [← hxs, path_in HI.out hg1 (by rw [HM.out]; exact hlt)]; rfl
      have hlast : xs[n - 1]?.getD 0 = 1 := by have := path_last HI.out g g (Nat.le_refl _) hg1 (by rw [HM.out]; exact hlt); rwa [hxs, hn] at this
      have hchain := path_chain HI.out g g (Nat.le_refl _)
      rw [hxs, hn] at hchain
      have hmem : ∀ j, j < n → 1 ≤ xs[j]?.getD 0 ∧ xs[j]?.getD 0 ≤ 16 := fun j hj => by
        have := path_mem HI.out g (xs[j]'(by omega)) (by rw [hxs]; exact List.getElem_mem _)
        have h3 := HM.out
        rw [List.getElem?_eq_getElem (by omega)]
        show 1 ≤ xs[j] ∧ xs[j] ≤ 16
        omega
      have HP : Hid (path st ((g : Int)).toNat = xs) := by unfold Hid; rw [Int.toNat_natCast, hxs]
      have HDN : Hid ((nd st ((g : Int)).toNat).depth = n) := by unfold Hid; rw [Int.toNat_natCast, hdn]
      have HN := Lib.hid hn
      have HF := Lib.hid hfirst
      have HLA := Lib.hid hlast
      have HCH := Lib.hid hchain
      have HME := Lib.hid hmem
      have HXS := Lib.hid hxs
      clear hxs hn hdn hfirst hlast hchain hmem
      go_wp2_with fail
      refine (path_o xs n (HT.out.below hC) HP.out HN.out).mono ?_
      rintro e w2 ⟨ap, cp, rfl, hN2, _, hb⟩
      have hC2 := below_then hC (below_low hb hC.size)
      clear hb hC
      obtain ⟨b, rfl, hbl, hc0⟩ := hN2 0 hn1
      obtain ⟨b', e', _, hc1⟩ := hN2 (n - 1) (by omega)
      obtain rfl : b = b' := by simpa using e'
      rw [HF.out] at hc0
      rw [HLA.out] at hc1
      have hi1 : (n : Int) - 1 = ((n - 1 : Nat) : Int) := by omega
      have HN2 := Lib.hid hN2
      clear hN2 e'
      go_wp2_with (go_at_call 35; refine (depth_o n (HT.out.below hC2) HDN.out).mono ?_; rintro e w' ⟨rfl, rfl⟩)
      have hrow : Hid ((w2.alloc (.cells #[.bool false, .bool false, .bool false, .bool false, .bool false, .bool false, .bool false, .bool false, .bool false, .bool false, .bool false, .bool false, .bool false, .bool false, .bool false, .bool false, .bool false] 53)).rowIs w2.heap.size 53 17 (fun j => .bool (decide (j ∈ xs.take 0)))) := (arr_false w2).congr (fun j _ => by simp)
      have hC3 : Below w2.heap.size w2 (w2.alloc (.cells #[.bool false, .bool false, .bool false, .bool false, .bool false, .bool false, .bool false, .bool false, .bool false, .bool false, .bool false, .bool false, .bool false, .bool false, .bool false, .bool false, .bool false] 53)) := (Below.refl _ _).alloc (Nat.le_refl _) _
      clear hc0 hc1 hi1
      go_loopw [7] (fun i wr => ∃ k : Nat, k ≤ n ∧ i = .int .i64 k ∧ wr.rowIs w2.heap.size 53 17 (fun j => .bool (decide (j ∈ xs.take k))) ∧ Below w2.heap.size w2 wr) (fun i _ => 8 - (intOf i).toNat)
      case atStart => exact ⟨0, by omega, rfl, hrow, hC3⟩
      case round =>
        clear hrow hC3
        obtain ⟨k, hk, rfl, hrow, hC3⟩ := hrel
        have hC4 := below_then hC2 (below_low hC3 hC2.size)
        by_cases hlt2 : k < n
        · obtain ⟨b2, e2, _, hc0⟩ := HN2.out.below hC3 k hlt2
          obtain rfl : b = b2 := by simpa using e2
          obtain ⟨hm1', hm2'⟩ := HME.out k hlt2
          obtain ⟨y, hy⟩ : ∃ y, xs[k]?.getD 0 = y := ⟨_, rfl⟩
          rw [hy] at hc0 hm1' hm2'
          have hyb : (y : Int) % 17 = (y : Int) := by omega
          have hx0 := hrow.cell (i := y) (by omega)
          have hf0 := hrow.frozen y
          have HROW : Hid ((wr.setCell ⟨w2.heap.size, y, none⟩ (.bool true)).rowIs w2.heap.size 53 17 (fun j => .bool (decide (j ∈ xs.take (k + 1))))) :=
            (hrow.set y (.bool true)).congr (fun j _ => by
              have hn' := HN.out
              rw [List.take_add_one, List.getElem?_eq_getElem (by omega)]
              rw [List.getElem?_eq_getElem (by omega), Option.getD_some] at hy
              rw [hy]
              by_cases hj : j = y
              · subst hj; simp
              · simp [hj])
          have HC3 : Hid (Below w2.heap.size w2 (wr.setCell ⟨w2.heap.size, y, none⟩ (.bool true))) := hC3.setCell (Nat.le_refl _) _
          have hne : b ≠ w2.heap.size := by omega
          clear hrow hC3 hC4 e2
          go_wp2_with (go_at_call 23; refine (bring_c _ _ _ (by omega) (by omega)).mono ?_; rintro e w' ⟨rfl, rfl⟩; simp only [hyb])
          change Code.wp Try.prog _ _ _ (wr.setCell ⟨w2.heap.size, y, none⟩ (.bool true))
          generalize (wr.setCell ⟨w2.heap.size, y, none⟩ (.bool true)) = w3 at *
          clear hc0 hx0 hf0
          have hC4 := below_then hC2 (below_low HC3.out hC2.size)
          obtain ⟨b3, e3, _, hc0⟩ := HN2.out.below HC3.out k hlt2
          obtain rfl : b = b3 := by simpa using e3
          rw [hy] at hc0
          clear e3
          by_cases hk0 : k = 0
          · subst hk0
            go_quiet (fail)
            go_wp2
            go_roundw
            case rel => exact ⟨1, by omega, by go_num, HROW.out, below_then HC3.out (below_low (below_drewN _ _) HC3.out.size)⟩
            case measure => simp [intOf]
          · obtain ⟨b3, e3, _, hc1⟩ := HN2.out.below HC3.out (k - 1) (by omega)
            obtain rfl : b = b3 := by simpa using e3
            obtain ⟨hch1, hch2⟩ := HCH.out (k - 1) (by omega)
            rw [show k - 1 + 1 = k by omega, hy] at hch1 hch2
            obtain ⟨z, hz⟩ : ∃ z, xs[k - 1]?.getD 0 = z := ⟨_, rfl⟩
            rw [hz] at hch1 hch2 hc1
            have HPA : Hid ((nd st ((z : Int)).toNat).parent = y) := by unfold Hid; rw [Int.toNat_natCast, hch1]
            have hik : (k : Int) - 1 = ((k - 1 : Nat) : Int) := by omega
            have hik2 : IntKind.i64.wrap ((k : Int) - 1) = ((k - 1 : Nat) : Int) := by rw [hik]; exact IntWalk.i64_in _ (by omega)
            have q1 : (0 : Int) ≤ ((k - 1 : Nat) : Int) := by omega
            have q2 : ((k - 1 : Nat) : Int) < (n : Int) := by omega
            have q3 : (0 : Int) < (k : Int) := by omega
            have q4 : (k : Int) < (n : Int) := by omega
            have q5 : (0 : Int) ≤ (k : Int) := by omega
            have q6 : (y : Int) < (z : Int) := by omega
            clear e3 hch1 hz hy
            generalize (k - 1 : Nat) = k1 at *
            have hik3 : IntKind.i64.wrap (k1 : Int) = (k1 : Int) := IntWalk.i64_in _ (by omega)
            have d1 : decide (0 < k) = true := by simp; omega
            have d2 : decide (z ≤ y) = false := by simp; omega
            go_quiet ((go_at_call 36; exact parent_q y (HT.out.below hC4) HPA.out))
            go_wp2
            go_roundw
            case rel => exact ⟨k + 1, by omega, by go_num, HROW.out, below_then HC3.out (below_low (below_drewN _ _) HC3.out.size)⟩
            case measure => simp [intOf]; omega
        · obtain rfl : k = n := by omega
          have htake : xs.take k = xs := List.take_of_length_le (by rw [HN.out]; omega)
          rw [htake] at hrow
          clear htake hC4
          go_wp2
          go_loopw [8] (fun i wr => ∃ t : Nat, 1 ≤ t ∧ t ≤ 17 ∧ i = .int .i64 t ∧ wr.rowIs w2.heap.size 53 17 (fun j => .bool (decide (j ∈ xs))) ∧ Below w2.heap.size w2 wr) (fun i _ => 17 - (intOf i).toNat)
          case atStart => exact ⟨1, by omega, by omega, rfl, hrow, hC3⟩
          case round =>
            clear hrow hC3
            obtain ⟨t, ht1, ht2, rfl, hrow, hC3⟩ := hrel
            by_cases hlt3 : t < 17
            · have hx := hrow.cell (i := t) hlt3
              have hAl := hrow.lt
              obtain ⟨x, hxx⟩ : ∃ x, decide (t ∈ xs) = x := ⟨_, rfl⟩
              simp only [hxx] at hx
              have HBF : Hid (belowF st ((g : Int)).toNat (t : Int) = x) := by unfold Hid; rw [belowF_mem, HP.out, hxx]
              have HTd := Lib.hid (HT.out.below (below_then (below_then hC2 (below_low hC3 hC2.size)) (below_low (Below.refl _ wr).drew (below_then hC2 (below_low hC3 hC2.size)).size)))
              have HROW := Lib.hid hrow
              have HC3 := Lib.hid hC3
              clear hrow hC3 hxx
              go_wp2_with fail
              go_region_held3 (fun w' => w'.cell? ⟨w2.heap.size, t, none⟩ = some (.bool x)) (first | go_keep | exact (hb4.cell (p := ⟨w2.heap.size, t, none⟩) hAl).trans hx)
                ((go_at_call 37; refine (below_o x HTd.out HBF.out).mono ?_; rintro e w4 ⟨rfl, hb0⟩; have hb4 : Below wr.heap.size wr w4 := below_then (Below.refl _ _).drew hb0))
              go_wp2
              go_roundw
              case rel => exact ⟨t + 1, by omega, by omega, by go_num, HROW.out.of_block (hb4.block _ hAl), below_then HC3.out (below_low hb4 HC3.out.size)⟩
              case measure => simp [intOf]; omega
            · go_wp2
              go_roundw
              case rel => exact ⟨g + 1, by omega, by omega, by go_num, below_then hC2 (below_low hC3 hC2.size)⟩
              case measure => simp [intOf]; omega
    · go_wp2_with fail
      go_ret
      exact ⟨rfl, below_then HB.out (below_low hC (Nat.le_trans HL0 HL))⟩
end Go.Proofs.Ytooonjoiidcmgaa
