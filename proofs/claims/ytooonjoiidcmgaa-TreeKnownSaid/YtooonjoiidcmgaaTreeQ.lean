/- The walk of TreeStays: true. -/
import Derived.Test.YtooonjoiidcmgaaTreeL
namespace Go.Proofs.Ytooonjoiidcmgaa
open Go.RowKit Go.Shelf

/-- three rows of seventeen: the parents, the depths, who is online -/
def Arrs (w : World) (U V O : Nat) (fu fd : Nat → Nat) (fo : Nat → Bool) : Prop :=
  w.rowIs U 56 17 (fun j => .int .i64 (fu j : Int)) ∧ w.rowIs V 56 17 (fun j => .int .i64 (fd j : Int)) ∧ w.rowIs O 53 17 (fun j => .bool (fo j))
theorem Arrs.of {w w' : World} {U V O : Nat} {fu fd : Nat → Nat} {fo : Nat → Bool} {B : Nat} (h : Arrs w U V O fu fd fo) (hb : Below B w w') (h1 : U < B) (h2 : V < B) (h3 : O < B) : Arrs w' U V O fu fd fo :=
  ⟨h.1.of_block (hb.block U h1), h.2.1.of_block (hb.block V h2), h.2.2.of_block (hb.block O h3)⟩
theorem Arrs.turned {w w' : World} {U V O n₀ : Nat} {fu fd : Nat → Nat} {fo : Nat → Bool} (h : Arrs w U V O fu fd fo) (ht : Turned (STy n₀ TTy w) w w') : Arrs w' U V O fu fd fo := by
  obtain ⟨h1, h2, h3⟩ := h
  obtain ⟨c1, b1, _⟩ := id h1
  obtain ⟨c2, b2, _⟩ := id h2
  obtain ⟨c3, b3, _⟩ := id h3
  exact ⟨h1.of_block (ht.block U h1.lt (STy.not b1 (by decide))), h2.of_block (ht.block V h2.lt (STy.not b2 (by decide))), h3.of_block (ht.block O h3.lt (STy.not b3 (by decide)))⟩
theorem Arrs.setU {w : World} {U V O : Nat} {fu fd : Nat → Nat} {fo : Nat → Bool} (h : Arrs w U V O fu fd fo) (h1 : V ≠ U) (h2 : O ≠ U) (k x : Nat) : Arrs (w.setCell ⟨U, k, none⟩ (.int .i64 (x : Int))) U V O (fun j => if j = k then x else fu j) fd fo :=
  ⟨(h.1.set k _).congr (fun j _ => by dsimp only; split <;> rfl), h.2.1.setOther h1 _, h.2.2.setOther h2 _⟩
theorem Arrs.setV {w : World} {U V O : Nat} {fu fd : Nat → Nat} {fo : Nat → Bool} (h : Arrs w U V O fu fd fo) (h1 : U ≠ V) (h2 : O ≠ V) (k x : Nat) : Arrs (w.setCell ⟨V, k, none⟩ (.int .i64 (x : Int))) U V O fu (fun j => if j = k then x else fd j) fo :=
  ⟨h.1.setOther h1 _, (h.2.1.set k _).congr (fun j _ => by dsimp only; split <;> rfl), h.2.2.setOther h2 _⟩
theorem Arrs.setO {w : World} {U V O : Nat} {fu fd : Nat → Nat} {fo : Nat → Bool} (h : Arrs w U V O fu fd fo) (h1 : U ≠ O) (h2 : V ≠ O) (k : Nat) (x : Bool) : Arrs (w.setCell ⟨O, k, none⟩ (.bool x)) U V O fu fd (fun j => if j = k then x else fo j) :=
  ⟨h.1.setOther h1 _, h.2.1.setOther h2 _, (h.2.2.set k _).congr (fun j _ => by dsimp only; split <;> rfl)⟩
theorem Arrs.new (w : World) : Arrs (((w.alloc (.cells (Array.replicate 17 (.int .i64 0)) 56)).alloc (.cells (Array.replicate 17 (.int .i64 0)) 56)).alloc (.cells (Array.replicate 17 (.bool false)) 53)) w.heap.size (w.heap.size + 1) (w.heap.size + 2) (fun _ => 0) (fun _ => 0) (fun _ => false) := by
  refine ⟨((World.rowIs_alloc w (Array.replicate 17 (.int .i64 0)) 56 _ (fun i hi => by simp at hi; simp [hi])).alloc _).alloc _, ?_, ?_⟩
  · have := World.rowIs_alloc (w.alloc (.cells (Array.replicate 17 (.int .i64 0)) 56)) (Array.replicate 17 (.int .i64 0)) 56 (fun _ => .int .i64 0) (fun i hi => by simp at hi; simp [hi])
    rw [World.size_alloc] at this
    exact this.alloc _
  · have := World.rowIs_alloc ((w.alloc (.cells (Array.replicate 17 (.int .i64 0)) 56)).alloc (.cells (Array.replicate 17 (.int .i64 0)) 56)) (Array.replicate 17 (.bool false)) 53 (fun _ => .bool false) (fun i hi => by simp at hi; simp [hi])
    rw [World.size_alloc, World.size_alloc] at this
    exact this
theorem add_cases {st st' : List Nd} {p i c : Nat} (h : addF st p = (st', i, c)) : (c ≠ 0 ∧ st' = st) ∨ (c = 0 ∧ (nd st p).off = false ∧ i = st.length + 1 ∧ st' = st ++ [⟨p, (nd st p).depth + 1, false⟩]) := by
  unfold addF at h
  split at h
  · obtain ⟨rfl, rfl, rfl⟩ : st = st' ∧ 0 = i ∧ 110 = c := by simpa using h
    exact .inl ⟨by omega, rfl⟩
  · rename_i ho
    split at h
    · obtain ⟨rfl, rfl, rfl⟩ : st = st' ∧ 0 = i ∧ 5 = c := by simpa using h
      exact .inl ⟨by omega, rfl⟩
    · injection h with h1 h; injection h with h2 h3
      exact .inr ⟨h3.symm, by simpa using ho, h2.symm, h1.symm⟩
theorem off_cases {st st' : List Nd} {g c : Nat} (h : offF st g = (st', c)) : (c ≠ 0 ∧ st' = st) ∨ (c = 0 ∧ 1 ≤ g ∧ g ≤ st.length ∧ st' = st.set (g - 1) { nd st g with off := true }) := by
  unfold offF at h
  split at h
  · injection h with h1 h2
    exact .inl ⟨by omega, h1.symm⟩
  · split at h
    · injection h with h1 h2
      exact .inl ⟨by omega, h1.symm⟩
    · injection h with h1 h2
      exact .inr ⟨h2.symm, by omega, by omega, h1.symm⟩

theorem depth_q {n₀ n : Nat} {w : World} {B : Nat} {st : List Nd} {g : Int} (x : Nat) (h : TO n₀ w B st) (e : (nd st g.toNat).depth = x) :
    Calls Try.prog 35 #[.pointer (some ⟨B, 0, none⟩), .int .i64 g] (w.drewN n) fun e w' => e = .returned (.int .i64 (x : Int)) ∧ ∃ m, w' = w.drewN m :=
  Calls.quiet_of_same ((depth_o x (h.below (below_drewN w n)) e).mono fun _ _ ⟨h1, h2⟩ => ⟨h1, h2.symm⟩)
theorem online_q {n₀ n : Nat} {w : World} {B : Nat} {st : List Nd} {g : Int} (x : Bool) (h : TO n₀ w B st) (e : (!(nd st g.toNat).off) = x) :
    Calls Try.prog 39 #[.pointer (some ⟨B, 0, none⟩), .int .i64 g] (w.drewN n) fun e w' => e = .returned (.bool x) ∧ ∃ m, w' = w.drewN m :=
  Calls.quiet_of_same ((online_o x (h.below (below_drewN w n)) e).mono fun _ _ ⟨h1, h2⟩ => ⟨h1, h2.symm⟩)

set_option maxRecDepth 100000 in
set_option maxHeartbeats 8000000 in
theorem stays_walk (a : Option Addr) (len cap : Nat) (ka kb : Int) (D : Nat → Int × Int) (w : World) (hl : len ≤ maxLen) (hD : DoAt w.heap.size w a len D) :
    Calls Try.prog 12 #[.slice a len cap, .int .i64 ka, .int .i64 kb] w fun e w' => e = .returned (.bool true) ∧ Below w.heap.size w w' := by
  have HG := Lib.hid (grown_c a len cap D w hl hD)
  clear hD hl
  go_enter Try.func12, Try.ntmps12
  go_wp2_with fail
  refine HG.out.mono ?_
  rintro e w1 ⟨B, st, rfl, hT, hon, hB⟩
  have HI : Hid (Inv st) := hT.1
  obtain ⟨m, hm⟩ : ∃ m, st.length = m := ⟨_, rfl⟩
  have hm16 : m ≤ 16 := by rw [← hm]; exact HI.out.few
  have hm1 : 1 ≤ m := by rw [← hm]; exact HI.out.some
  have HM := Lib.hid hm
  have HT := Lib.hid hT
  have HB := Lib.hid hB
  clear HG hT hon hm hB
  have HL := HT.out.lt
  have hA := Arrs.new w1
  have hb2 : Below w1.heap.size w1 (((w1.alloc (.cells (Array.replicate 17 (.int .i64 0)) 56)).alloc (.cells (Array.replicate 17 (.int .i64 0)) 56)).alloc (.cells (Array.replicate 17 (.bool false)) 53)) :=
    (((Below.refl _ _).alloc (Nat.le_refl _) _).alloc (by simp) _).alloc (by simp; omega) _
  have HA := Lib.hid hA
  have HB2 := Lib.hid hb2
  clear hA hb2
  go_wp2_with fail
  change Calls Try.prog _ _ (((w1.alloc (.cells (Array.replicate 17 (.int .i64 0)) 56)).alloc (.cells (Array.replicate 17 (.int .i64 0)) 56)).alloc (.cells (Array.replicate 17 (.bool false)) 53)) _
  generalize (((w1.alloc (.cells (Array.replicate 17 (.int .i64 0)) 56)).alloc (.cells (Array.replicate 17 (.int .i64 0)) 56)).alloc (.cells (Array.replicate 17 (.bool false)) 53)) = w2 at *
  obtain ⟨U, hU⟩ : ∃ U, U = w1.heap.size := ⟨_, rfl⟩
  obtain ⟨V, hV⟩ : ∃ V, V = w1.heap.size + 1 := ⟨_, rfl⟩
  obtain ⟨O, hO⟩ : ∃ O, O = w1.heap.size + 2 := ⟨_, rfl⟩
  try simp only [Nat.add_assoc, Nat.reduceAdd]
  rw [← hV, ← hO, ← hU] at HA
  rw [← hV, ← hO, ← hU]
  have n1 : U ≠ V := by omega
  have n2 : U ≠ O := by omega
  have n3 : V ≠ O := by omega
  have l1 : w1.heap.size ≤ U := by omega
  have l2 : w1.heap.size ≤ V := by omega
  have l3 : w1.heap.size ≤ O := by omega
  have L1 := HA.out.1.lt
  have L2 := HA.out.2.1.lt
  have L3 := HA.out.2.2.lt
  clear hU hV hO
  refine (many_o m (HT.out.below HB2.out) HM.out).mono ?_
  rintro e w' ⟨rfl, rfl⟩
  go_wp2_with fail
  go_loopw [12] (fun i wr => ∃ g : Nat, 1 ≤ g ∧ g ≤ m + 1 ∧ i = .int .i64 g ∧ (∃ fu fd fo, Arrs wr U V O fu fd fo ∧ ∀ j, 1 ≤ j → j < g → (nd st j).parent = fu j ∧ (nd st j).depth = fd j ∧ (!(nd st j).off) = fo j) ∧ Below w1.heap.size w1 wr) (fun i _ => 17 - (intOf i).toNat)
  case atStart => exact ⟨1, by omega, by omega, rfl, ⟨_, _, _, HA.out, fun j h1 h2 => absurd h1 (by omega)⟩, HB2.out⟩
  case round =>
    clear HA HB2 L1 L2 L3
    obtain ⟨g, hg1, hg2, rfl, ⟨fu, fd, fo, hA, hF⟩, hC⟩ := hrel
    have L1 := hA.1.lt
    have L2 := hA.2.1.lt
    have L3 := hA.2.2.lt
    by_cases hlt : g ≤ m
    · have hlt7 : g < 17 := by omega
      obtain ⟨xp, hxp⟩ : ∃ x, (nd st g).parent = x := ⟨_, rfl⟩
      obtain ⟨xd, hxd⟩ : ∃ x, (nd st g).depth = x := ⟨_, rfl⟩
      obtain ⟨xo, hxo⟩ : ∃ x, (!(nd st g).off) = x := ⟨_, rfl⟩
      have hF2 : Hid (∀ j, 1 ≤ j → j < g + 1 → (nd st j).parent = (if j = g then xp else fu j) ∧ (nd st j).depth = (if j = g then xd else fd j) ∧ (!(nd st j).off) = (if j = g then xo else fo j)) := by
        intro j h1 h2
        by_cases hj : j = g
        · subst hj; simp [hxp, hxd, hxo]
        · rw [if_neg hj, if_neg hj, if_neg hj]; exact hF j h1 (by omega)
      have HXP : Hid ((nd st ((g : Int)).toNat).parent = xp) := by unfold Hid; rw [Int.toNat_natCast, hxp]
      have HXD : Hid ((nd st ((g : Int)).toNat).depth = xd) := by unfold Hid; rw [Int.toNat_natCast, hxd]
      have HXO : Hid ((!(nd st ((g : Int)).toNat).off) = xo) := by unfold Hid; rw [Int.toNat_natCast, hxo]
      have x1 := hA.1.cell (i := g) hlt7
      have f1 := hA.1.frozen g
      have hA1 := hA.setU n1.symm n2.symm g xp
      have hC1 : Below w1.heap.size w1 (wr.setCell ⟨U, g, none⟩ (.int .i64 (xp : Int))) := hC.setCell l1 _
      have HC := Lib.hid hC
      have HA1 := Lib.hid hA1
      have HC1 := Lib.hid hC1
      clear hxp hxd hxo hF hA hC hA1 hC1
      go_wp2_with fail
      refine (parent_o xp (HT.out.below HC.out) HXP.out).mono ?_
      rintro e w' ⟨rfl, rfl⟩
      go_wp2_with fail
      generalize (wr.setCell ⟨U, g, none⟩ (.int .i64 (xp : Int))) = wa at *
      clear x1 f1 L1 L2 L3
      have x2 := HA1.out.2.1.cell (i := g) hlt7
      have f2 := HA1.out.2.1.frozen g
      have L2 := HA1.out.2.1.lt
      have HA2 := Lib.hid (HA1.out.setV n1 n3.symm g xd)
      have HC2 : Hid (Below w1.heap.size w1 (wa.setCell ⟨V, g, none⟩ (.int .i64 (xd : Int)))) := HC1.out.setCell l2 _
      refine (depth_o xd (HT.out.below HC1.out) HXD.out).mono ?_
      rintro e w' ⟨rfl, rfl⟩
      go_wp2_with fail
      generalize (wa.setCell ⟨V, g, none⟩ (.int .i64 (xd : Int))) = wb at *
      clear x2 f2 L2 HA1 HC1 HC
      have x3 := HA2.out.2.2.cell (i := g) hlt7
      have f3 := HA2.out.2.2.frozen g
      have L3 := HA2.out.2.2.lt
      have HA3 := Lib.hid (HA2.out.setO n2 n3 g xo)
      have HC3 : Hid (Below w1.heap.size w1 (wb.setCell ⟨O, g, none⟩ (.bool xo))) := HC2.out.setCell l3 _
      refine (online_o xo (HT.out.below HC2.out) HXO.out).mono ?_
      rintro e w' ⟨rfl, rfl⟩
      go_wp2_with fail
      go_roundw
      case rel => exact ⟨g + 1, by omega, by omega, by go_num, ⟨_, _, _, HA3.out, hF2.out⟩, HC3.out⟩
      case measure => simp [intOf]; omega
    · obtain rfl : g = m + 1 := by omega
      have HT2 := Lib.hid (HT.out.below hC)
      have HB2 := Lib.hid (below_then HB.out (below_low hC HL))
      have HA := Lib.hid hA
      have HF := Lib.hid hF
      have hlo : w.heap.size ≤ wr.heap.size := HB2.out.size
      obtain ⟨p, hp⟩ : ∃ p : Nat, kb % 18 = (p : Int) := ⟨(kb % 18).toNat, by omega⟩
      have hp17 : p ≤ 17 := by omega
      clear hC hA hF L1 L2 L3
      have c12 : decide ((m : Int) + 1 ≤ (m : Int)) = false := decide_eq_false (by omega)
      have c13 : decide (m + 1 ≤ m) = false := decide_eq_false (by omega)
      by_cases hka : ka % 2 = 0
      case' pos =>
        have hkb : (ka % 2 == 0) = true := by simpa using hka
        obtain ⟨st', x, c, hadd⟩ : ∃ st' x c, addF st p = (st', x, c) := ⟨_, _, _, rfl⟩
        have HAD : Hid (addF st ((p : Int)).toNat = (st', x, c)) := by unfold Hid; rw [Int.toNat_natCast, hadd]
        have hcs := add_cases hadd
        clear hka hadd
        go_wp2_with (go_at_call 23; refine (bring_c _ _ _ (by omega) (by omega)).mono ?_; rintro e w' ⟨rfl, rfl⟩; try simp only [hp])
        refine (add_o st' x c HT2.out HAD.out).mono ?_
        rintro e w9 ⟨rfl, hT9, ht9⟩
        have HT9 := Lib.hid hT9
        have HB9 := Lib.hid (below_then HB2.out (ht9.own HT2.out.lt))
        have HA9 := Lib.hid (HA.out.turned ht9)
        clear hT9 ht9
        rcases hcs with ⟨hc0, hst⟩ | ⟨hc0, hpo, hx, hst⟩
        case' inl =>
          have hcb : ((c : Int) == 0) = false := by simp; omega
          have HR : Hid (∃ fo9, Arrs w9 U V O fu fd fo9 ∧ ∀ j, 1 ≤ j → j < m + 1 → (nd st' j).parent = fu j ∧ (nd st' j).depth = fd j ∧ (!(nd st' j).off) = fo9 j) := ⟨fo, HA9.out, by rw [hst]; exact HF.out⟩
          clear hc0 hst
          go_wp2_with fail
        case' inr =>
          subst hc0
          have hpm := Inv.off_out hpo
          have hpn : p ≤ m := by have := HM.out; omega
          have HR : Hid (∃ fo9, Arrs w9 U V O fu fd fo9 ∧ ∀ j, 1 ≤ j → j < m + 1 → (nd st' j).parent = fu j ∧ (nd st' j).depth = fd j ∧ (!(nd st' j).off) = fo9 j) := ⟨fo, HA9.out, fun j h1 h2 => by rw [hst, nd_append_old _ _ (by have := HM.out; omega)]; exact HF.out j h1 h2⟩
          have hnew : nd st' x = ⟨p, (nd st p).depth + 1, false⟩ := by rw [hst, hx]; exact nd_append_new _ _
          have hold : nd st' p = nd st p := by rw [hst, nd_append_old _ _ hpm.2]
          obtain ⟨d, hd⟩ : ∃ d, (nd st p).depth = d := ⟨_, rfl⟩
          have hd8 : d ≤ 8 := by rw [← hd]; exact HI.out.depth_le p
          have HP9 : Hid ((nd st' ((x : Int)).toNat).parent = p) := by unfold Hid; rw [Int.toNat_natCast, hnew]
          have HD9 : Hid ((nd st' ((x : Int)).toNat).depth = d + 1) := by unfold Hid; rw [Int.toNat_natCast, hnew, hd]
          have HO9 : Hid ((!(nd st' ((x : Int)).toNat).off) = true) := by unfold Hid; rw [Int.toNat_natCast, hnew]; rfl
          have HDP : Hid ((nd st' ((p : Int)).toNat).depth = d) := by unfold Hid; rw [Int.toNat_natCast, hold, hd]
          have hxm : x = m + 1 := by rw [hx, HM.out]
          have hx16 : x ≤ 17 := by omega
          subst hxm
          clear hst hx hnew hold hd hpo hpm
          go_wp2_with fail
          refine (parent_o p HT9.out HP9.out).mono ?_
          rintro e w' ⟨rfl, rfl⟩
          go_wp2_with fail
          refine (online_o true HT9.out HO9.out).mono ?_
          rintro e w' ⟨rfl, rfl⟩
          go_wp2_with fail
          refine (depth_o (d + 1) HT9.out HD9.out).mono ?_
          rintro e w' ⟨rfl, rfl⟩
          go_wp2_with fail
          refine (depth_o d HT9.out HDP.out).mono ?_
          rintro e w' ⟨rfl, rfl⟩
          go_wp2_with fail
      case' neg =>
        have hkb : (ka % 2 == 0) = false := by simpa using hka
        obtain ⟨st', c, hoff⟩ : ∃ st' c, offF st p = (st', c) := ⟨_, _, rfl⟩
        have HAD : Hid (offF st ((p : Int)).toNat = (st', c)) := by unfold Hid; rw [Int.toNat_natCast, hoff]
        have hcs := off_cases hoff
        clear hka hoff
        go_wp2_with (go_at_call 23; refine (bring_c _ _ _ (by omega) (by omega)).mono ?_; rintro e w' ⟨rfl, rfl⟩; try simp only [hp])
        refine (off_o st' c HT2.out HAD.out).mono ?_
        rintro e w9 ⟨rfl, hT9, ht9⟩
        have hB9 := below_then HB2.out (ht9.own HT2.out.lt)
        have HA9 := Lib.hid (HA.out.turned ht9)
        clear ht9
        rcases hcs with ⟨hc0, hst⟩ | ⟨hc0, hp1, hp2, hst⟩
        case' inl =>
          have hcb : ((c : Int) == 0) = false := by simp; omega
          have HT9 := Lib.hid hT9
          have HB9 := Lib.hid hB9
          have HR : Hid (∃ fo9, Arrs w9 U V O fu fd fo9 ∧ ∀ j, 1 ≤ j → j < m + 1 → (nd st' j).parent = fu j ∧ (nd st' j).depth = fd j ∧ (!(nd st' j).off) = fo9 j) := ⟨fo, HA9.out, by rw [hst]; exact HF.out⟩
          clear hc0 hst hT9 hB9
          go_wp2_with fail
        case' inr =>
          subst hc0
          have hpn : p ≤ m := by have := HM.out; omega
          have hpb : (p : Int) % 17 = (p : Int) := by omega
          have x1 := HA9.out.2.2.cell (i := p) (by omega)
          have f1 := HA9.out.2.2.frozen p
          have L9 := HA9.out.2.2.lt
          have tO : Turned (STy w.heap.size [53] w9) w9 (w9.setCell ⟨O, p, none⟩ (.bool false)) := Turned.of_grown (grownBy_setCell0 w9 O p _) (fun k e => by
            cases e; obtain ⟨c3, b3, _⟩ := HA9.out.2.2; exact ⟨by omega, _, _, _, b3, by simp⟩)
          have HT9 := Lib.hid (hT9.turned tO (by decide) (by decide))
          have HB9 := Lib.hid (below_then hB9 (tO.own hB9.size))
          have HR : Hid (∃ fo9, Arrs (w9.setCell ⟨O, p, none⟩ (.bool false)) U V O fu fd fo9 ∧ ∀ j, 1 ≤ j → j < m + 1 → (nd st' j).parent = fu j ∧ (nd st' j).depth = fd j ∧ (!(nd st' j).off) = fo9 j) := ⟨_, HA9.out.setO n2 n3 p false, fun j h1 h2 => by
            rw [hst, nd_set hp1 hp2]
            by_cases hj : j = p
            · subst hj; rw [if_pos rfl, if_pos rfl]; exact ⟨(HF.out j h1 h2).1, (HF.out j h1 h2).2.1, rfl⟩
            · rw [if_neg hj, if_neg hj]; exact HF.out j h1 h2⟩
          clear hst hT9 hB9 tO
          go_wp2_with (go_at_call 23; refine (bring_c _ _ _ (by omega) (by omega)).mono ?_; rintro e w' ⟨rfl, rfl⟩; simp only [hpb])
      all_goals
        go_loopw [16] (fun i wr => ∃ g : Nat, 1 ≤ g ∧ g ≤ m + 1 ∧ i = .int .i64 g ∧ (∃ fo9, Arrs wr U V O fu fd fo9 ∧ ∀ j, 1 ≤ j → j < m + 1 → (nd st' j).parent = fu j ∧ (nd st' j).depth = fd j ∧ (!(nd st' j).off) = fo9 j) ∧ TO w.heap.size wr B st' ∧ Below w.heap.size w wr) (fun i _ => 17 - (intOf i).toNat)
        case atStart => exact ⟨1, by omega, by omega, rfl, HR.out, HT9.out, HB9.out⟩
        case round =>
          clear HR HT9 HB9
          obtain ⟨g, hg1, hg2, rfl, ⟨fo9, hA, hF⟩, hT, hB⟩ := hrel
          have HB9 := Lib.hid hB
          have HT9 := Lib.hid hT
          have HA9 := Lib.hid hA
          have HF9 := Lib.hid hF
          clear hB hT hA hF
          by_cases hlt : g ≤ m
          · have hlt7 : g < 17 := by omega
            obtain ⟨e1, e2, e3⟩ := HF9.out g hg1 (by omega)
            have hx1 := HA9.out.1.cell (i := g) hlt7
            have hx2 := HA9.out.2.1.cell (i := g) hlt7
            have hx3 := HA9.out.2.2.cell (i := g) hlt7
            have HXP : Hid ((nd st' ((g : Int)).toNat).parent = fu g) := by unfold Hid; rw [Int.toNat_natCast, e1]
            have HXD : Hid ((nd st' ((g : Int)).toNat).depth = fd g) := by unfold Hid; rw [Int.toNat_natCast, e2]
            have HXO : Hid ((!(nd st' ((g : Int)).toNat).off) = fo9 g) := by unfold Hid; rw [Int.toNat_natCast, e3]
            clear e1 e2 e3
            generalize fu g = xp at *
            generalize fd g = xd at *
            generalize fo9 g = xo at *
            go_wp2_with fail
            go_quiet (first
              | (go_at_call 36; exact parent_q xp HT9.out HXP.out)
              | (go_at_call 35; exact depth_q xd HT9.out HXD.out)
              | (go_at_call 39; exact online_q xo HT9.out HXO.out))
            go_wp2
            go_roundw
            case rel => exact ⟨g + 1, by omega, by omega, by go_num, ⟨fo9, HA9.out.of (below_drewN _ _) HA9.out.1.lt HA9.out.2.1.lt HA9.out.2.2.lt, HF9.out⟩, HT9.out.below (below_drewN _ _), below_then HB9.out (below_low (below_drewN _ _) HB9.out.size)⟩
            case measure => simp [intOf]; omega
          · obtain rfl : g = m + 1 := by omega
            go_wp2_with fail
            refine (tworks_c _).mono ?_
            rintro e wz ⟨rfl, hb⟩
            have HBZ := Lib.hid (below_then HB9.out (below_low hb HB9.out.size))
            clear hb
            go_wp2
            go_ret
            exact ⟨rfl, HBZ.out⟩
end Go.Proofs.Ytooonjoiidcmgaa
