/- The walk of TreeHeirs: true. -/
import Derived.Test.YtooonjoiidcmgaaTreeJ
namespace Go.Proofs.Ytooonjoiidcmgaa
open Go.RowKit Go.Shelf

theorem root_mem {st : List Nd} (hi : Inv st) : ∀ m g, g ≤ m → 1 ≤ g → g ≤ st.length → 1 ∈ path st g := by
  intro m
  induction m with
  | zero => intro g h0 h1; omega
  | succ m ih =>
    intro g h0 h1 h2
    rw [path_in hi h1 h2]
    by_cases e : g = 1
    · subst e; simp
    · obtain ⟨u1, u2, _⟩ := hi.up g (by omega) h2
      exact List.mem_cons_of_mem _ (ih _ (by omega) u1 (by omega))
theorem heir_split {st : List Nd} (hi : Inv st) {g : Nat} (h1 : 1 ≤ g) (h2 : g ≤ st.length) :
    ∃ ini x rest, path st g = ini ++ x :: rest ∧ (∀ y ∈ ini, (nd st y).off = true) ∧ (nd st x).off = false ∧ heirF st g = x ∧ ((nd st g).off = !decide (x = g)) := by
  have hr := root_mem hi g g (Nat.le_refl _) h1 h2
  have hon : (nd st 1).off = false := by rw [hi.root]
  cases hf : (path st g).find? (fun h => !(nd st h).off) with
  | none => have := List.find?_eq_none.1 hf 1 hr; simp [hon] at this
  | some x =>
    obtain ⟨hx, ini, rest, hp, hini⟩ := List.find?_eq_some_iff_append.1 hf
    have hx' : (nd st x).off = false := by simpa using hx
    have hini' : ∀ y ∈ ini, (nd st y).off = true := fun y hy => by simpa using hini y hy
    refine ⟨ini, x, rest, hp, hini', hx', heir_some hp hini' hx', ?_⟩
    have hg := path_in hi h1 h2
    rw [hp] at hg
    cases ini with
    | nil => injection hg with e _; subst e; simp [hx']
    | cons y ini =>
      injection hg with e _
      subst e
      have hy := hini' y (by simp)
      rw [hy]
      have : x ≠ y := by rintro rfl; rw [hx'] at hy; cases hy
      simp [this]

set_option maxRecDepth 100000 in
set_option maxHeartbeats 4000000 in
theorem heirs_walk (a : Option Addr) (len cap : Nat) (D : Nat → Int × Int) (w : World) (hl : len ≤ maxLen) (hD : DoAt w.heap.size w a len D) :
    Calls Try.prog 11 #[.slice a len cap] w fun e w' => e = .returned (.bool true) ∧ Below w.heap.size w w' := by
  have HG := Lib.hid (grown_c a len cap D w hl hD)
  clear hD hl
  go_enter Try.func11, Try.ntmps11
  go_wp2_with fail
  refine HG.out.mono ?_
  rintro e w1 ⟨B, st, rfl, hT, hon, hB⟩
  have HI : Hid (Inv st) := hT.1
  have HON := Lib.hid hon
  obtain ⟨m, hm⟩ : ∃ m, st.length = m := ⟨_, rfl⟩
  have hm16 : m ≤ 16 := by rw [← hm]; exact HI.out.few
  have hm1 : 1 ≤ m := by rw [← hm]; exact HI.out.some
  have HM := Lib.hid hm
  have HT := Lib.hid hT
  have HB := Lib.hid hB
  clear HG hT hon hm hB
  have HL := HT.out.lt
  go_wp2_with fail
  go_loopw [4] (fun i wr => ∃ g : Nat, 1 ≤ g ∧ g ≤ m + 1 ∧ i = .int .i64 g ∧ Below w1.heap.size w1 wr) (fun i _ => 17 - (intOf i).toNat)
  case atStart => exact ⟨1, by omega, by omega, rfl, Below.refl _ _⟩
  case round =>
    obtain ⟨g, hg1, hg2, rfl, hC⟩ := hrel
    go_wp2_with fail
    refine (many_o m (HT.out.below hC) HM.out).mono ?_
    rintro e w' ⟨rfl, rfl⟩
    by_cases hlt : g ≤ m
    · obtain ⟨ini, x, rest, hp, hini, hx, hh, hgo⟩ := heir_split HI.out hg1 (by rw [HM.out]; exact hlt)
      obtain ⟨n, hn⟩ : ∃ n, (path st g).length = n := ⟨_, rfl⟩
      have hn8 : n ≤ 8 := by have h1 := path_length HI.out g; have h2 := HI.out.depth_le g; omega
      have hin : ini.length < n := by rw [← hn, hp]; simp
      have HP := Lib.hid hp
      have HINI := Lib.hid hini
      have HX : Hid ((!(nd st ((x : Int)).toNat).off) = true) := by unfold Hid; rw [Int.toNat_natCast, hx]; rfl
      have HX0 := Lib.hid hx
      have HH : Hid (heirF st ((g : Int)).toNat = x) := by unfold Hid; rw [Int.toNat_natCast, hh]
      have HGO : Hid ((!(nd st ((g : Int)).toNat).off) = decide (x = g)) := by unfold Hid; rw [Int.toNat_natCast, hgo]; simp
      have HN : Hid ((path st ((g : Int)).toNat).length = n) := by unfold Hid; rw [Int.toNat_natCast, hn]
      have HPG : Hid (path st ((g : Int)).toNat = path st g) := by unfold Hid; rw [Int.toNat_natCast]
      clear hp hini hx hh hgo hn
      go_wp2_with fail
      refine (path_o (path st g) n (HT.out.below hC) HPG.out (by rw [← HPG.out]; exact HN.out)).mono ?_
      rintro e w2 ⟨ap, cp, rfl, hN2, _, hb⟩
      have hC2 := below_then hC (below_low hb hC.size)
      clear hb hC
      have HN2 := Lib.hid hN2
      clear hN2
      go_wp2_with fail
      refine (heir_o x (HT.out.below hC2) HH.out).mono ?_
      rintro e w3 ⟨rfl, hb⟩
      have hC3 := below_then hC2 (below_low hb hC2.size)
      have HN3 := Lib.hid (HN2.out.below hb)
      clear hb hC2 HN2
      go_wp2_with fail
      go_loop [7] (fun i => ∃ k : Nat, k ≤ ini.length ∧ i = .int .i64 k) (fun i => 8 - (intOf i).toNat)
      case atStart => exact ⟨0, by omega, rfl⟩
      case round =>
        obtain ⟨k, hk, rfl⟩ := hrel
        obtain ⟨b, rfl, _, hc⟩ := HN3.out k (by omega)
        rw [HP.out] at hc
        by_cases hk2 : k < ini.length
        · rw [List.getElem?_append_left hk2, List.getElem?_eq_getElem hk2] at hc
          have hoff := HINI.out _ (List.getElem_mem hk2)
          simp only [Option.getD_some] at hc
          generalize ini[k] = y at *
          have hne : y ≠ x := by rintro rfl; rw [HX0.out] at hoff; cases hoff
          have hneb : ((y : Int) == (x : Int)) = false := by simp; omega
          have HOF : Hid ((!(nd st ((y : Int)).toNat).off) = false) := by unfold Hid; rw [Int.toNat_natCast, hoff]; rfl
          clear hoff hne
          go_wp2_with fail
          refine (online_o false (HT.out.below hC3) HOF.out).mono ?_
          rintro e w' ⟨rfl, rfl⟩
          go_wp2_with fail
          go_round
          case rel => exact ⟨k + 1, by omega, by go_num⟩
          case measure => simp [intOf]; omega
        · obtain rfl : k = ini.length := by omega
          rw [List.getElem?_append_right (Nat.le_refl _), Nat.sub_self] at hc
          simp only [List.getElem?_cons_zero, Option.getD_some] at hc
          generalize ini.length = k at *
          have hkb : ((k : Int) == (n : Int)) = false := by simp; omega
          by_cases hxg : x = g
          case' pos =>
            have hxb : ((x : Int) == (g : Int)) = true := by simp; omega
            have HGO2 : Hid ((!(nd st ((g : Int)).toNat).off) = true) := by unfold Hid; rw [HGO.out]; simp [hxg]
          case' neg =>
            have hxb : ((x : Int) == (g : Int)) = false := by simp; omega
            have HGO2 : Hid ((!(nd st ((g : Int)).toNat).off) = false) := by unfold Hid; rw [HGO.out]; simp [hxg]
          all_goals
            clear hxg
            go_wp2_with fail
            refine (online_o true (HT.out.below hC3) HX.out).mono ?_
            rintro e w' ⟨rfl, rfl⟩
            go_wp2_with fail
            refine (online_o _ (HT.out.below hC3) HGO2.out).mono ?_
            rintro e w' ⟨rfl, rfl⟩
            go_wp2_with fail
            go_roundw
            case rel => exact ⟨g + 1, by omega, by omega, by go_num, hC3⟩
            case measure => simp [intOf]; omega
    · have HRT : Hid ((!(nd st ((1 : Int)).toNat).off) = true) := by unfold Hid; rw [show ((1 : Int)).toNat = 1 from rfl, HON.out]; rfl
      go_wp2_with fail
      refine (online_o true (HT.out.below hC) HRT.out).mono ?_
      rintro e w' ⟨rfl, rfl⟩
      go_wp2_with fail
      refine (tworks_c _).mono ?_
      rintro e w4 ⟨rfl, hb⟩
      have HB4 := Lib.hid (below_then (below_then HB.out (below_low hC HL)) (below_low hb (Nat.le_trans HL hC.size)))
      clear hb
      go_wp2
      go_ret
      exact ⟨rfl, HB4.out⟩
end Go.Proofs.Ytooonjoiidcmgaa
