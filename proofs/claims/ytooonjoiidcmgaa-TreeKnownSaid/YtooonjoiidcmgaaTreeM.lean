/- The reference's tree in memory; what its calls answer and make. -/
import Derived.Test.YtooonjoiidcmgaaTreeD
import Derived.Test.YtooonjoiidcmgaaLawC
namespace Go.Proofs.Ytooonjoiidcmgaa
open Go.RowKit Go.Shelf

def upsM (st : List Nd) : List Value := (List.range (st.length + 1)).map fun k => .int .i64 ((nd st k).parent : Int)
def onsM (st : List Nd) : List Value := (List.range (st.length + 1)).map fun k => .bool (!(nd st k).off)

/-- the reference's tree at block B; its parents in block U, who is online in block O -/
def MAt (W : World) (B U O : Nat) (st : List Nd) : Prop :=
  ∃ cu co, W.heap[B]? = some (.cells #[.slice (some ⟨U, 0, none⟩) (st.length + 1) cu, .slice (some ⟨O, 0, none⟩) (st.length + 1) co] 69 (0, 0)) ∧
    W.ownsRow 0 3 1 (.slice (some ⟨U, 0, none⟩) (st.length + 1) cu) (st.length + 1) (upsM st) ∧ W.ownsRow 0 4 1 (.slice (some ⟨O, 0, none⟩) (st.length + 1) co) (st.length + 1) (onsM st)
structure MRd (W : World) (B U O n : Nat) (st : List Nd) : Prop where
  len : st.length = n
  bu : ∃ c, W.cell? ⟨B, 0, none⟩ = some (.slice (some ⟨U, 0, none⟩) (n + 1) c)
  bo : ∃ c, W.cell? ⟨B, 1, none⟩ = some (.slice (some ⟨O, 0, none⟩) (n + 1) c)
  up : ∀ k, k ≤ n → W.cell? ⟨U, k, none⟩ = some (.int .i64 ((nd st k).parent : Int))
  on : ∀ k, k ≤ n → W.cell? ⟨O, k, none⟩ = some (.bool (!(nd st k).off))
  ltB : B < W.heap.size
  ltU : U < W.heap.size
  ltO : O < W.heap.size
theorem MAt.rd {W : World} {B U O : Nat} {st : List Nd} (h : MAt W B U O st) : MRd W B U O st.length st := by
  obtain ⟨cu, co, hb, hu, ho⟩ := h
  have c0 : W.cell? ⟨B, 0, none⟩ = some (.slice (some ⟨U, 0, none⟩) (st.length + 1) cu) := by simp [World.cell?, hb]
  have c1 : W.cell? ⟨B, 1, none⟩ = some (.slice (some ⟨O, 0, none⟩) (st.length + 1) co) := by simp [World.cell?, hb]
  refine ⟨rfl, ⟨cu, c0⟩, ⟨co, c1⟩, fun k hk => ?_, fun k hk => ?_, (Array.getElem?_eq_some_iff.1 hb).1, (hu.lt U rfl).2, (ho.lt O rfl).2⟩
  · rw [hu.cellAt k (by omega)]; simp [upsM, show k < st.length + 1 by omega]
  · rw [ho.cellAt k (by omega)]; simp [onsM, show k < st.length + 1 by omega]
theorem MRd.below {W W' : World} {B U O n : Nat} {st : List Nd} (h : MRd W B U O n st) (hb : Below W.heap.size W W') : MRd W' B U O n st :=
  ⟨h.len, let ⟨c, e⟩ := h.bu; ⟨c, (hb.cell (p := ⟨B, 0, none⟩) h.ltB).trans e⟩, let ⟨c, e⟩ := h.bo; ⟨c, (hb.cell (p := ⟨B, 1, none⟩) h.ltB).trans e⟩,
   fun k hk => (hb.cell (p := ⟨U, k, none⟩) h.ltU).trans (h.up k hk), fun k hk => (hb.cell (p := ⟨O, k, none⟩) h.ltO).trans (h.on k hk),
   Nat.lt_of_lt_of_le h.ltB hb.size, Nat.lt_of_lt_of_le h.ltU hb.size, Nat.lt_of_lt_of_le h.ltO hb.size⟩

set_option maxHeartbeats 400000 in
theorem has_in (B U n c : Nat) (g : Nat) (w : World) (hc : w.cell? ⟨B, 0, none⟩ = some (.slice (some ⟨U, 0, none⟩) (n + 1) c)) (h1 : 1 ≤ g) (h2 : g ≤ n) (_hn : n ≤ 16) :
    Calls Try.prog 45 #[.pointer (some ⟨B, 0, none⟩), .int .i64 (g : Int)] w fun e w' => e = .returned (.bool true) ∧ w = w' := by
  go_enter Try.func45, Try.ntmps45
  go_wp2
  go_ret
  exact ⟨congrArg (fun b => Ending.returned (.bool b)) (decide_eq_true (by omega)), rfl⟩
set_option maxHeartbeats 400000 in
theorem has_out (B U n c : Nat) (g : Int) (w : World) (hc : w.cell? ⟨B, 0, none⟩ = some (.slice (some ⟨U, 0, none⟩) (n + 1) c)) (hg : g < 1 ∨ (n : Int) < g) (_hn : n ≤ 16) :
    Calls Try.prog 45 #[.pointer (some ⟨B, 0, none⟩), .int .i64 g] w fun e w' => e = .returned (.bool false) ∧ w = w' := by
  go_enter Try.func45, Try.ntmps45
  by_cases hl : g < 1
  · clear hg
    go_wp2
    go_ret
    exact ⟨rfl, rfl⟩
  · have hh : (n : Int) < g := by omega
    clear hg
    go_wp2
    go_ret
    exact ⟨congrArg (fun b => Ending.returned (.bool b)) (decide_eq_false (by omega)), rfl⟩
set_option maxHeartbeats 400000 in
theorem rmany_c (B U O n : Nat) (st : List Nd) (w : World) (h : MRd w B U O n st) (hi : Inv st) :
    Calls Try.prog 46 #[.pointer (some ⟨B, 0, none⟩)] w fun e w' => e = .returned (.int .i64 (st.length : Int)) ∧ w = w' := by
  have hn2 : n ≤ 16 := by rw [← h.len]; exact hi.few
  have E := Lib.hid h.len
  obtain ⟨c, hc⟩ := h.bu
  clear h hi
  go_enter Try.func46, Try.ntmps46
  go_wp2
  go_ret
  exact ⟨by rw [E.out]; exact ret_int (by omega), rfl⟩

set_option maxHeartbeats 400000 in
theorem rparent_c (B U O n : Nat) (st : List Nd) (g : Int) (w : World) (h : MRd w B U O n st) (hi : Inv st) :
    Calls Try.prog 48 #[.pointer (some ⟨B, 0, none⟩), .int .i64 g] w fun e w' => e = .returned (.int .i64 ((nd st g.toNat).parent : Int)) ∧ w = w' := by
  have hn2 : n ≤ 16 := by rw [← h.len]; exact hi.few
  obtain ⟨c, hc⟩ := h.bu
  by_cases hg : 1 ≤ g ∧ g ≤ n
  · obtain ⟨k, rfl⟩ := Int.eq_ofNat_of_zero_le (show 0 ≤ g by omega)
    have hk1 : 1 ≤ k := by omega
    have hk2 : k ≤ n := by omega
    have cp := h.up k hk2
    rw [Int.toNat_natCast]
    clear h hi
    generalize nd st k = d at *
    go_enter Try.func48, Try.ntmps48
    go_wp2_with (go_at_call 45; refine (has_in B U n c k _ hc hk1 hk2 hn2).mono ?_; rintro e w' ⟨rfl, rfl⟩)
    go_ret
    exact ⟨rfl, rfl⟩
  · have E := Lib.hid (nd_out (st := st) (g := g.toNat) (by rw [h.len]; omega))
    have hg' : g < 1 ∨ (n : Int) < g := by omega
    clear hg h hi
    go_enter Try.func48, Try.ntmps48
    go_wp2_with (go_at_call 45; refine (has_out B U n c g _ hc hg' hn2).mono ?_; rintro e w' ⟨rfl, rfl⟩)
    go_ret
    exact ⟨by rw [E.out]; rfl, rfl⟩

set_option maxHeartbeats 400000 in
theorem ronline_c (B U O n : Nat) (st : List Nd) (g : Int) (w : World) (h : MRd w B U O n st) (hi : Inv st) :
    Calls Try.prog 49 #[.pointer (some ⟨B, 0, none⟩), .int .i64 g] w fun e w' => e = .returned (.bool (!(nd st g.toNat).off)) ∧ w = w' := by
  have hn2 : n ≤ 16 := by rw [← h.len]; exact hi.few
  obtain ⟨c, hc⟩ := h.bu
  obtain ⟨c', hc'⟩ := h.bo
  by_cases hg : 1 ≤ g ∧ g ≤ n
  · obtain ⟨k, rfl⟩ := Int.eq_ofNat_of_zero_le (show 0 ≤ g by omega)
    have hk1 : 1 ≤ k := by omega
    have hk2 : k ≤ n := by omega
    have cp := h.on k hk2
    rw [Int.toNat_natCast]
    clear h hi
    generalize nd st k = d at *
    go_enter Try.func49, Try.ntmps49
    go_wp2_with (go_at_call 45; refine (has_in B U n c k _ hc hk1 hk2 hn2).mono ?_; rintro e w' ⟨rfl, rfl⟩)
    go_ret
    exact ⟨rfl, rfl⟩
  · have E := Lib.hid (nd_out (st := st) (g := g.toNat) (by rw [h.len]; omega))
    have hg' : g < 1 ∨ (n : Int) < g := by omega
    clear hg h hi
    go_enter Try.func49, Try.ntmps49
    go_wp2_with (go_at_call 45; refine (has_out B U n c g _ hc hg' hn2).mono ?_; rintro e w' ⟨rfl, rfl⟩)
    go_ret
    exact ⟨by rw [E.out]; rfl, rfl⟩

theorem heir_step {st : List Nd} (hi : Inv st) {g : Nat} (h1 : 1 ≤ g) (h2 : g ≤ st.length) (ho : (nd st g).off = true) : heirF st g = heirF st (nd st g).parent := by
  unfold heirF; rw [path_in hi h1 h2]; simp [ho]
theorem heir_self {st : List Nd} (hi : Inv st) {g : Nat} (h1 : 1 ≤ g) (h2 : g ≤ st.length) (ho : (nd st g).off = false) : heirF st g = g := by
  unfold heirF; rw [path_in hi h1 h2]; simp [ho]
theorem heir_out {st : List Nd} {g : Nat} (h : g = 0 ∨ st.length < g) : heirF st g = 0 := by
  unfold heirF; rw [path_out h]; rfl

set_option maxHeartbeats 1000000 in
theorem rheir_c (B U O n : Nat) (st : List Nd) (g : Int) (w : World) (h : MRd w B U O n st) (hi : Inv st) :
    Calls Try.prog 50 #[.pointer (some ⟨B, 0, none⟩), .int .i64 g] w fun e w' => e = .returned (.int .i64 (heirF st g.toNat : Int)) ∧ w = w' := by
  have hn2 : n ≤ 16 := by rw [← h.len]; exact hi.few
  have HL := Lib.hid h.len
  obtain ⟨c, hc⟩ := h.bu
  obtain ⟨c', hc'⟩ := h.bo
  have HU := Lib.hid h.up
  have HO := Lib.hid h.on
  have HI : Hid (Inv st) := hi
  clear h hi
  go_enter Try.func50, Try.ntmps50
  go_wp2
  go_loop [1] (fun x => ∃ q : Int, x = .int .i64 q ∧ heirF st q.toNat = heirF st g.toNat) (fun x => (intOf x).toNat)
  case atStart => exact ⟨g, rfl, rfl⟩
  case round =>
    obtain ⟨q, rfl, hq⟩ := hrel
    have HQ := Lib.hid hq
    clear hq
    by_cases hg : 1 ≤ q ∧ q ≤ n
    · obtain ⟨k, rfl⟩ := Int.eq_ofNat_of_zero_le (show 0 ≤ q by omega)
      have hk1 : 1 ≤ k := by omega
      have hk2 : k ≤ n := by omega
      have cp := HU.out k hk2
      have co := HO.out k hk2
      have hpl := HI.out.parent_lt hk1
      cases ho : (nd st k).off with
      | true =>
        have HH := Lib.hid (heir_step HI.out hk1 (by rw [HL.out]; exact hk2) ho)
        rw [ho] at co
        clear ho hg
        generalize (nd st k).parent = p at *
        go_wp2_with (go_at_call 45; refine (has_in B U n c k _ hc hk1 hk2 hn2).mono ?_; rintro e w' ⟨rfl, rfl⟩)
        go_round
        case rel => exact ⟨(p : Int), rfl, by have h1 := HQ.out; have h2 := HH.out; rw [Int.toNat_natCast] at h1 ⊢; rw [← h2, h1]⟩
        case measure => simp [intOf]; omega
      | false =>
        have HH := Lib.hid (heir_self HI.out hk1 (by rw [HL.out]; exact hk2) ho)
        rw [ho] at co
        clear ho hg
        go_wp2_with (go_at_call 45; refine (has_in B U n c k _ hc hk1 hk2 hn2).mono ?_; rintro e w' ⟨rfl, rfl⟩)
        go_ret
        exact ⟨ret_int (by have h1 := HQ.out; have h2 := HH.out; rw [Int.toNat_natCast] at h1; rw [← h1, h2]), rfl⟩
    · have HH := Lib.hid (heir_out (st := st) (g := q.toNat) (by rw [HL.out]; omega))
      have hg' : q < 1 ∨ (n : Int) < q := by omega
      clear hg
      go_wp2_with (go_at_call 45; refine (has_out B U n c q _ hc hg' hn2).mono ?_; rintro e w' ⟨rfl, rfl⟩)
      go_ret
      exact ⟨by rw [← HQ.out, HH.out]; rfl, rfl⟩

def encI (x : Nat) : Value := .int .i64 (x : Int)
set_option maxHeartbeats 1000000 in
theorem rpath_c (B U O n : Nat) (st : List Nd) (g : Int) (w : World) (h : MRd w B U O n st) (hi : Inv st) :
    Calls Try.prog 52 #[.pointer (some ⟨B, 0, none⟩), .int .i64 g] w fun e W' => ∃ v, e = .returned v ∧ W'.ownsRow w.heap.size 3 1 v (path st g.toNat).length ((path st g.toNat).map encI) ∧ Below w.heap.size w W' := by
  obtain ⟨i0, hi0, hz0, hz1, hz2⟩ := info_parts info3
  have hn2 : n ≤ 16 := by rw [← h.len]; exact hi.few
  have HL := Lib.hid h.len
  have HI : Hid (Inv st) := hi
  have HM := Lib.hid h
  have hpl8 : (path st g.toNat).length ≤ 8 := by rw [path_length hi]; exact hi.depth_le _
  clear h hi
  go_enter Try.func52, Try.ntmps52
  go_wp2
  go_loopw [1, 5] (fun x v wr => ∃ (q : Int) (pre : List Nat) (sv : Value), x = .int .i64 q ∧ sv = v ∧ path st g.toNat = pre ++ path st q.toNat ∧ wr.ownsRow w.heap.size 3 1 sv pre.length (pre.map encI) ∧ Below w.heap.size w wr) (fun x _ _ => (intOf x).toNat)
  case atStart => exact ⟨g, [], _, rfl, rfl, rfl, World.ownsRow_nil _ _ _ _, Below.refl _ _⟩
  case round =>
    obtain ⟨q, pre, v, rfl, rfl, hp, hrow, hB⟩ := hrel
    have hM := HM.out.below hB
    obtain ⟨c, hc⟩ := hM.bu
    have hpre : pre.length ≤ 8 := by have := congrArg List.length hp; rw [List.length_append] at this; omega
    have HP := Lib.hid hp
    by_cases hg : 1 ≤ q ∧ q ≤ n
    · obtain ⟨k, rfl⟩ := Int.eq_ofNat_of_zero_le (show 0 ≤ q by omega)
      have hk1 : 1 ≤ k := by omega
      have hk2 : k ≤ n := by omega
      have hpl := HI.out.parent_lt hk1
      have HX : Hid (path st g.toNat = (pre ++ [k]) ++ path st (nd st k).parent) := by
        unfold Hid; rw [hp, Int.toNat_natCast, path_in HI.out hk1 (by rw [HL.out]; exact hk2)]; simp
      obtain ⟨p, hpe⟩ : ∃ p, p = (nd st k).parent := ⟨_, rfl⟩
      rw [← hpe] at hpl HX
      have HPE := Lib.hid hpe
      clear hp hM hg hpe
      go_wp2_with fail
      refine (has_in B U n c k _ hc hk1 hk2 hn2).mono ?_
      rintro e w' ⟨rfl, rfl⟩
      go_wp2_with (at_builtin; refine wpList_append_own _ rfl _ _ 27 rfl w.heap.size 3 i0 (.int .i64 0) 1 8 Try.underlying27 hi0 hz0 hz1 hz2 rfl (by decide) _ _ _ rfl (hrow.alloc _) ⟨wr.heap.size, 0, none⟩ 1 1 [.int .i64 (k : Int)] rfl rfl ?c1 ?c2 ?c3 ?c4 ?c5 ?_)
      case c1 => exact cell_one_new _ _ _
      case c2 => simp [Value.oneCell']
      case c3 => unfold maxLen; omega
      case c4 => omega
      case c5 => have := hB.size; simp; omega
      intro v' w1 hown' hgrow _
      obtain ⟨g', cap', rfl⟩ := ownsRow_succ hown'
      have hB1 : Below w.heap.size w w1 := (hB.alloc hB.size _).grown hgrow (by have := hB.size; simp; omega) (fun j e => (hrow.lt j e).1)
      have hM1 := HM.out.below hB1
      obtain ⟨c1, hc1⟩ := hM1.bu
      have cp := hM1.up k hk2
      rw [← HPE.out] at cp
      have HR : Hid (w1.ownsRow w.heap.size 3 1 (.slice (some ⟨g', 0, none⟩) (pre.length + 1) cap') (pre ++ [k]).length ((pre ++ [k]).map encI)) := by
        unfold Hid; simpa [encI] using hown'
      clear hown' hgrow hrow hM1 hB hc
      go_wp2
      go_roundw
      case rel => exact ⟨(p : Int), pre ++ [k], _, rfl, rfl, by rw [Int.toNat_natCast]; exact HX.out, HR.out, hB1⟩
      case measure => simp [intOf]; omega
    · have hp0 := path_out (st := st) (g := q.toNat) (by rw [HL.out]; omega)
      have hg' : q < 1 ∨ (n : Int) < q := by omega
      have HE : Hid (path st g.toNat = pre) := by unfold Hid; rw [hp, hp0, List.append_nil]
      clear hp hp0 hg hM
      go_wp2_with (go_at_call 45; refine (has_out B U n c q _ hc hg' hn2).mono ?_; rintro e w' ⟨rfl, rfl⟩)
      go_ret
      exact ⟨_, rfl, by rw [HE.out]; exact hrow, hB⟩

theorem ints_of_owns {w : World} {base n : Nat} {v : Value} {xs : List Nat} (h : w.ownsRow base 3 1 v xs.length (xs.map encI)) (hn : n = xs.length) : ∃ a cap, v = .slice a n cap ∧ ∀ j, j < n → ∃ b, a = some ⟨b, 0, none⟩ ∧ b < w.heap.size ∧ w.cell? ⟨b, j, none⟩ = some (.int .i64 ((xs[j]?.getD 0 : Nat) : Int)) := by
  subst hn
  by_cases h0 : xs.length = 0
  · rcases h.2 with ⟨rfl, _⟩ | ⟨g, cap, cur, rfl, _⟩
    · exact ⟨none, 0, by rw [h0], fun j hj => by omega⟩
    · exact ⟨_, cap, rfl, fun j hj => by omega⟩
  · obtain ⟨g, cap, rfl, _, hg⟩ := h.form (by omega)
    refine ⟨_, cap, rfl, fun j hj => ⟨g, rfl, hg, ?_⟩⟩
    rw [h.cellAt j (by omega), List.getElem?_map, List.getElem?_eq_getElem hj]; rfl

set_option maxHeartbeats 400000 in
theorem rdepth_c (B U O n : Nat) (st : List Nd) (g : Int) (w : World) (h : MRd w B U O n st) (hi : Inv st) :
    Calls Try.prog 47 #[.pointer (some ⟨B, 0, none⟩), .int .i64 g] w fun e W' => e = .returned (.int .i64 ((nd st g.toNat).depth : Int)) ∧ Below w.heap.size w W' := by
  have E := Lib.hid (path_length hi g.toNat)
  have HI : Hid (Inv st) := hi
  have H := Lib.hid h
  clear h hi
  go_enter Try.func47, Try.ntmps47
  go_wp2_with fail
  refine (rpath_c B U O n st g _ H.out HI.out).mono ?_
  rintro e w1 ⟨v, rfl, hrow, hb⟩
  obtain ⟨a, cap, rfl, _⟩ := ints_of_owns hrow E.out.symm
  clear hrow
  go_wp2
  go_ret
  exact ⟨rfl, hb⟩

set_option maxHeartbeats 1000000 in
theorem rbelow_c (B U O n : Nat) (st : List Nd) (g top : Int) (w : World) (h : MRd w B U O n st) (hi : Inv st) :
    Calls Try.prog 53 #[.pointer (some ⟨B, 0, none⟩), .int .i64 g, .int .i64 top] w fun e W' => e = .returned (.bool (belowF st g.toNat top)) ∧ Below w.heap.size w W' := by
  have hl : (path st g.toNat).length ≤ 8 := by rw [path_length hi]; exact hi.depth_le _
  have HI : Hid (Inv st) := hi
  have H := Lib.hid h
  clear h hi
  go_enter Try.func53, Try.ntmps53
  go_wp2_with fail
  refine (rpath_c B U O n st g _ H.out HI.out).mono ?_
  rintro e w1 ⟨v, rfl, hrow, hb⟩
  obtain ⟨m, hm⟩ : ∃ m, m = (path st g.toNat).length := ⟨_, rfl⟩
  obtain ⟨a, cap, rfl, hcell⟩ := ints_of_owns hrow hm
  have HB := Lib.hid hb
  have HM := Lib.hid hm
  have hm8 : m ≤ 8 := by omega
  have HC := Lib.hid hcell
  clear hrow hb hm hl hcell
  go_wp2
  go_loop [8] (fun i => ∃ k : Nat, k ≤ m ∧ i = .int .i64 k ∧ ∀ j, j < k → (((path st g.toNat)[j]?.getD 0 : Nat) : Int) ≠ top) (fun i => 8 - (intOf i).toNat)
  case atStart => exact ⟨0, Nat.zero_le _, rfl, fun j hj => absurd hj (Nat.not_lt_zero _)⟩
  case round =>
    obtain ⟨k, hk, rfl, hne⟩ := hrel
    have HNE := Lib.hid hne
    clear hne
    by_cases hlt : k < m
    · obtain ⟨b, rfl, _, hcell⟩ := HC.out k hlt
      have hmem : (path st g.toNat)[k]?.getD 0 ∈ path st g.toNat := by
        rw [List.getElem?_eq_getElem (by rw [← HM.out]; exact hlt)]; exact List.getElem_mem _
      have HME := Lib.hid hmem
      clear hmem
      by_cases hx : (((path st g.toNat)[k]?.getD 0 : Nat) : Int) = top
      · have HF : Hid (belowF st g.toNat top = true) := by
          unfold Hid belowF; rw [List.any_eq_true]; exact ⟨_, HME.out, by simpa using hx⟩
        have hxb : ((((path st g.toNat)[k]?.getD 0 : Nat) : Int) == top) = true := by simpa using hx
        clear hx
        generalize (path st g.toNat)[k]?.getD 0 = x at *
        go_wp2
        go_ret
        exact ⟨by rw [HF.out]; rfl, HB.out⟩
      · have HX := Lib.hid hx
        have hxb : ((((path st g.toNat)[k]?.getD 0 : Nat) : Int) == top) = false := by simpa using hx
        clear hx
        obtain ⟨x, hxe⟩ : ∃ x, x = (path st g.toNat)[k]?.getD 0 := ⟨_, rfl⟩
        rw [← hxe] at hxb hcell
        clear hxe
        go_wp2
        go_round
        case rel => exact ⟨k + 1, by omega, by go_num, fun j hj => (Nat.lt_or_ge j k).elim (HNE.out j) (fun h => by obtain rfl : j = k := (by omega); exact HX.out)⟩
        case measure => simp [intOf]; omega
    · have HF : Hid (belowF st g.toNat top = false) := by
        refine below_none (fun x hx => ?_)
        obtain ⟨j, hj, e⟩ := List.mem_iff_getElem.1 hx
        have := HNE.out j (by have := HM.out; omega)
        rw [List.getElem?_eq_getElem hj, e] at this
        exact this
      go_wp2
      go_ret
      exact ⟨by rw [HF.out]; rfl, HB.out⟩
end Go.Proofs.Ytooonjoiidcmgaa
