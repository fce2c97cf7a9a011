/- The iterator over a group, its parent, and so on: it gives the path, or a beginning of it. -/
import Derived.Test.YtooonjoiidcmgaaTreeB
namespace Go.Proofs.Ytooonjoiidcmgaa
open Go.RowKit Go.Shelf
attribute [local go_sem] Oper.semAt_some

set_option maxHeartbeats 400000 in
theorem up_c (t : Option Addr) (g : Int) (w : World) :
    Calls Try.prog 54 #[.pointer t, .int .i64 g] w fun e w' => e = .returned (.func (.func 57) #[] #[.pointer (some ⟨w.heap.size, 0, none⟩), .pointer (some ⟨w.heap.size + 1, 0, none⟩)]) ∧ (w.alloc (.cells #[.pointer t] 37)).alloc (.cells #[.int .i64 g] 3) = w' := by
  go_enter Try.func54, Try.ntmps54
  go_wp2
  go_ret
  exact ⟨rfl, rfl⟩

/-- the iterator's own move: its group -/
def UpMv (GB : Nat) (A A' : World) : Prop := ∃ u, A' = A.setCell ⟨GB, 0, none⟩ u
/-- what a round keeps -/
def UpKp (n₀ TB GB : Nat) (A A' : World) : Prop := Below n₀ A A' ∧ A'.heap[TB]? = A.heap[TB]? ∧ A'.heap[GB]? = A.heap[GB]?
theorem UpKp.trans {n₀ TB GB : Nat} {A B C : World} (h : UpKp n₀ TB GB A B) (k : UpKp n₀ TB GB B C) : UpKp n₀ TB GB A C := ⟨h.1.trans k.1, k.2.1.trans h.2.1, k.2.2.trans h.2.2⟩

/-- what a read of a tree in blocks below n₀ needs -/
structure TLow (n₀ : Nat) (W : World) (B R n : Nat) (st : List Nd) : Prop where
  rd : TRd W B R n st
  b : B < n₀
  r : R < n₀
theorem TLow.below {n₀ : Nat} {W W' : World} {B R n : Nat} {st : List Nd} (h : TLow n₀ W B R n st) (hb : Below n₀ W W') : TLow n₀ W' B R n st :=
  ⟨⟨h.rd.len, let ⟨c, e⟩ := h.rd.box; ⟨c, (hb.cell (p := ⟨B, 0, none⟩) h.b).trans e⟩,
    fun g h1 h2 => let ⟨c1, c2, c3⟩ := h.rd.cell g h1 h2; ⟨(hb.cell (p := ⟨R, _, none⟩) h.r).trans c1, (hb.cell (p := ⟨R, _, none⟩) h.r).trans c2, (hb.cell (p := ⟨R, _, none⟩) h.r).trans c3⟩,
    Nat.lt_of_lt_of_le h.rd.ltB hb.size, Nat.lt_of_lt_of_le h.rd.ltR hb.size⟩, h.b, h.r⟩

theorem ofC_in (B R n cap : Nat) (g m : Nat) (w : World) (hc : w.cell? ⟨B, 0, none⟩ = some (.slice (some ⟨R, 0, none⟩) n cap)) (h1 : 1 ≤ g) (h2 : g ≤ n) (hn : n ≤ 16) :
    CallsIn Fence.wide m Try.prog 44 #[.pointer (some ⟨B, 0, none⟩), .int .i64 (g : Int)] w fun e w' => e = .returned (.pointer (some ⟨R, (g - 1) * 3, none⟩)) ∧ w = w' := callsIn_wide.2 (of_in B R n cap g w hc h1 h2 hn)
theorem ofC_out (B R n cap m : Nat) (g : Int) (w : World) (hc : w.cell? ⟨B, 0, none⟩ = some (.slice (some ⟨R, 0, none⟩) n cap)) (hg : g < 1 ∨ (n : Int) < g) (h1 : 1 ≤ n) (hn : n ≤ 16) :
    CallsIn Fence.wide m Try.prog 44 #[.pointer (some ⟨B, 0, none⟩), .int .i64 g] w fun e w' => e = .returned (.pointer none) ∧ w = w' := callsIn_wide.2 (of_out B R n cap g w hc hg h1 hn)

/-- how far up: the pointer's offset, one more; nil: nothing -/
def upLeft : Value → Nat | .pointer (some a) => a.off + 1 | _ => 0

set_option maxRecDepth 100000 in
set_option maxHeartbeats 2000000 in
theorem up1_in (m : Nat) (hm : 1 ≤ m) (l TB GB n₀ B R n : Nat) (st : List Nd) (k0 : Nat) (hi : Inv st) (hk1 : 1 ≤ k0) (hk2 : k0 ≤ n) (hTG : TB ≠ GB) (hG : n₀ ≤ GB) (J Jx : List Nat → World → Prop)
    (hJ : ∀ s A A', J s A → UpMv GB A A' → J s A')
    (hY : ∀ pre (x : Nat) W, J pre W → pre.length < (path st k0).length → YieldAt Fence.wide (m - 1) Try.prog l #[.int .i64 (x : Int)] W fun e W' =>
      (e = .returned (.bool true) ∧ J (pre ++ [x]) W' ∧ UpKp n₀ TB GB W W') ∨ (e = .returned (.bool false) ∧ Jx (pre ++ [x]) W'))
    (W : World) (hT : TLow n₀ W B R n st) (hTB : Boxed W TB 37 (.pointer (some ⟨B, 0, none⟩))) (hGB : Boxed W GB 3 (.int .i64 (k0 : Int))) (h0 : J [] W) :
    CallsIn Fence.wide m Try.prog 57 #[.func (.yield l) #[] #[], .pointer (some ⟨TB, 0, none⟩), .pointer (some ⟨GB, 0, none⟩)] W fun e W' => (∃ v, e = .returned v) ∧
      ((∃ ys, ys = path st k0 ∧ J ys W') ∨ (∃ pre, pre <+: path st k0 ∧ Jx pre W')) := by
  have hn1 : 1 ≤ n := by rw [← hT.rd.len]; exact hi.some
  have hn2 : n ≤ 16 := by rw [← hT.rd.len]; exact hi.few
  obtain ⟨cap, hc⟩ := hT.rd.box
  have c1 := hTB.cell
  have c2 := hGB.cell
  have hlen := Lib.hid hT.rd.len
  have t44 : Fence.wide.fn 44 := trivial
  refine callsIn_of_wp Try.func57 rfl trivial ?_ rfl
  simp only [Try.ntmps57, List.size_toArray, List.length_cons, List.length_nil, Nat.reduceAdd, Nat.reduceSub, Array.replicate_succ, Array.replicate_zero, List.push_toArray, List.append_toArray, List.nil_append, List.cons_append]
  gi_wp2_with (gi_at_call 44; refine (ofC_in B R n cap k0 _ _ hc hk1 hk2 hn2).mono ?_; rintro e w' ⟨rfl, rfl⟩)
  gi_loopw [4] (fun p wr => ∃ (k : Nat) (pre : List Nat), p = .pointer (if 1 ≤ k then some ⟨R, (k - 1) * 3, none⟩ else none) ∧ k ≤ n ∧ path st k0 = pre ++ path st k ∧ J pre wr ∧ TLow n₀ wr B R n st ∧ Boxed wr TB 37 (.pointer (some ⟨B, 0, none⟩)) ∧ Boxed wr GB 3 (.int .i64 (k : Int)))
    (fun p _ => upLeft p)
  case atStart => exact ⟨k0, [], by rw [if_pos hk1], hk2, rfl, h0, hT, hTB, hGB⟩
  case round =>
    clear hT hTB hGB hc c1 c2 h0
    obtain ⟨k, pre, rfl, hkn, hp, hJs, hT, hTB, hGB⟩ := hrel
    have c1 := hTB.cell
    have c2 := hGB.cell
    by_cases hk : 1 ≤ k
    · rw [if_pos hk]
      have hpk := path_in hi hk (by rw [hlen.out]; exact hkn)
      obtain ⟨fn, tmps, assign, body, hy, hR⟩ := hY pre k wr hJs (by rw [hp, hpk]; simp)
      have hpl := hi.parent_lt hk
      have HP := Lib.hid hp
      have HK := Lib.hid hpk
      have HT := Lib.hid hT
      have HTB := Lib.hid hTB
      have HGB := Lib.hid hGB
      clear hp hpk hT hTB hGB
      gi_wp2
      refine hR.mono ?_
      rintro e W3 (⟨rfl, hJ3, hk3⟩ | ⟨rfl, hJx3⟩)
      · have hT3 := HT.out.below hk3.1
        have hTB3 : Boxed W3 TB 37 (.pointer (some ⟨B, 0, none⟩)) := hk3.2.1.trans HTB.out
        have hGB3 : Boxed W3 GB 3 (.int .i64 (k : Int)) := hk3.2.2.trans HGB.out
        have cp := (hT3.rd.cell k hk hkn).1
        obtain ⟨cap3, hc3⟩ := hT3.rd.box
        have d1 := hTB3.cell
        have d2 := hGB3.cell
        have f2 := hGB3.frozen
        have e1 := (hTB3.other hTG (.int .i64 ((nd st k).parent : Int))).cell
        have e2 := (hGB3.set (.int .i64 ((nd st k).parent : Int))).cell
        have HX : Hid (path st k0 = (pre ++ [k]) ++ path st (nd st k).parent) := by unfold Hid; rw [HP.out, HK.out]; simp
        have HJ := Lib.hid (hJ _ _ _ hJ3 ⟨.int .i64 ((nd st k).parent : Int), rfl⟩)
        have hset : Below n₀ W3 (W3.setCell ⟨GB, 0, none⟩ (.int .i64 ((nd st k).parent : Int))) := (Below.refl _ _).setCell (p := ⟨GB, 0, none⟩) hG _
        have HT4 := Lib.hid (hT3.below hset)
        obtain ⟨cap4, hc4⟩ := HT4.out.rd.box
        have HTB4 := Lib.hid (hTB3.other hTG (.int .i64 ((nd st k).parent : Int)))
        have HGB4 := Lib.hid (hGB3.set (.int .i64 ((nd st k).parent : Int)))
        clear hT3 hTB3 hGB3 hk3 hJ3 hset c1 c2
        generalize (nd st k).parent = q at *
        by_cases hq : 1 ≤ q
        · gi_wp2_with (gi_at_call 44; refine (ofC_in B R n cap4 q _ _ hc4 hq (by omega) hn2).mono ?_; rintro e w' ⟨rfl, rfl⟩)
          go_roundw
          case rel => exact ⟨q, pre ++ [k], by rw [if_pos hq], by omega, HX.out, HJ.out, HT4.out, HTB4.out, HGB4.out⟩
          case measure => simp only [upLeft]; omega
        · obtain rfl : q = 0 := by omega
          gi_wp2_with (gi_at_call 44; refine (ofC_out B R n cap4 _ _ _ hc4 (by omega) hn1 hn2).mono ?_; rintro e w' ⟨rfl, rfl⟩)
          go_roundw
          case rel => exact ⟨0, pre ++ [k], rfl, by omega, HX.out, HJ.out, HT4.out, HTB4.out, HGB4.out⟩
          case measure => simp only [upLeft]; omega
      · gi_wp2
        go_end0
        exact ⟨⟨_, rfl⟩, .inr ⟨pre ++ [k], by rw [HP.out, HK.out]; exact ⟨path st (nd st k).parent, by simp⟩, hJx3⟩⟩
    · obtain rfl : k = 0 := by omega
      have HP := Lib.hid hp
      clear hp
      rw [if_neg hk]
      gi_wp2
      refine ⟨fun _ h => (by cases h), ?_⟩
      gi_wp2
      go_end0
      exact ⟨⟨_, rfl⟩, .inl ⟨pre, by rw [HP.out, path_out (.inl rfl)]; simp, hJs⟩⟩
end Go.Proofs.Ytooonjoiidcmgaa
