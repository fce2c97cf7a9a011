/- What pick's own iterator gives, what slices.Collect makes of an iterator that reads memory. No condition but the reach. -/
import Derived.RangeFuncBox
import Derived.RangeFuncLeaves
import Derived.Shelf.Abstract
import Derived.WalkKit
import Derived.OwnWalkIn
import Derived.TacticsInMore
import Derived.LoopNIn
import Derived.LoopIn
import Derived.Maps.AppendAt
import Derived.Lib.Hide
import Derived.Test.YtooonjoiidcmgaaProg
namespace Go.Proofs.Ytooonjoiidcmgaa
open Go.RowKit Go.Shelf
attribute [local go_sem] Oper.semAt_some

/-- those of the first k that run -/
def runsTo (bs : List Bool) (k : Nat) : List Nat := (List.range k).filter (fun j => bs[j]?.getD false)
theorem runsTo_yes {bs : List Bool} {k : Nat} (h : bs[k]?.getD false = true) : runsTo bs (k + 1) = runsTo bs k ++ [k] := by
  simp [runsTo, List.range_succ, h]
theorem runsTo_no {bs : List Bool} {k : Nat} (h : bs[k]?.getD false = false) : runsTo bs (k + 1) = runsTo bs k := by
  simp [runsTo, List.range_succ, h]
theorem runsTo_length (bs : List Bool) (k : Nat) : (runsTo bs k).length ≤ k := by
  have := List.length_filter_le (fun j => bs[j]?.getD false) (List.range k)
  simpa [runsTo] using this

set_option maxRecDepth 100000 in
set_option maxHeartbeats 1000000 in
theorem running1_in (F : Fence) (n : Nat) (h7 : F.fn 56) (hro : F.round = none) (hn : 1 ≤ n) (l Bs n₀ : Nat) (a : Option Addr) (cap : Nat) (bs : List Bool) (hreach : bs.length ≤ 140737488351232) (J Jx : List Nat → World → Prop)
    (hY : ∀ pre (x : Nat) W, J pre W → pre.length < bs.length → YieldAt F (n - 1) Try.prog l #[.int .i64 (x : Int)] W fun e W' =>
      (e = .returned (.bool true) ∧ J (pre ++ [x]) W' ∧ Below n₀ W W') ∨ (e = .returned (.bool false) ∧ Jx (pre ++ [x]) W'))
    (W : World) (hBs : W.cell? ⟨Bs, 0, none⟩ = some (.slice a bs.length cap)) (hc : ∀ j, j < bs.length → ∃ b off, a = some ⟨b, off, none⟩ ∧ b < n₀ ∧ W.cell? ⟨b, off + j, none⟩ = some (.bool (bs[j]?.getD false))) (h0 : J [] W) :
    CallsIn F n Try.prog 56 #[.func (.yield l) #[] #[], .pointer (some ⟨Bs, 0, none⟩)] W fun e W' => (∃ v, e = .returned v) ∧
      ((∃ ys, ys = runsTo bs bs.length ∧ J ys W') ∨ (∃ pre, (∃ k, k < bs.length ∧ bs[k]?.getD false = true ∧ pre = runsTo bs (k + 1)) ∧ Jx pre W')) := by
  obtain ⟨len, hlen⟩ : ∃ len, len = bs.length := ⟨_, rfl⟩
  rw [← hlen] at hreach hY hBs hc ⊢
  clear hlen
  refine callsIn_of_wp Try.func56 rfl h7 ?_ hro
  simp only [Try.ntmps56, List.size_toArray, List.length_cons, List.length_nil, Nat.reduceAdd, Nat.reduceSub, Array.replicate_succ, Array.replicate_zero, List.push_toArray, List.append_toArray, List.nil_append, List.cons_append]
  gi_wp2
  gi_loopw [7] (fun i wr => ∃ k : Nat, k ≤ len ∧ i = .int .i64 k ∧ J (runsTo bs k) wr ∧ Below n₀ W wr)
    (fun i _ => len - (intOf i).toNat)
  case atStart => exact ⟨0, Nat.zero_le _, rfl, h0, Below.refl _ _⟩
  case round =>
    obtain ⟨k, hk, rfl, hJs, hnx⟩ := hrel
    by_cases hlt : k < len
    · obtain ⟨b, off, rfl, hb, hc0⟩ := hc k hlt
      have hcx' := (hnx.cell (p := ⟨b, off + k, none⟩) hb).trans hc0
      clear hc0
      cases hbk : bs[k]?.getD false with
      | false =>
        have hn := runsTo_no hbk
        rw [hbk] at hcx'
        have HN := Lib.hid hn
        have HB := Lib.hid hbk
        clear hn hbk hc
        gi_wp2
        refine ⟨fun _ h => (by cases h), ?_⟩
        gi_wp2
        go_roundw
        case rel => exact ⟨k + 1, by omega, by simp, by rw [HN.out]; exact hJs, hnx⟩
        case measure => simp [intOf]; omega
      | true =>
        have hn := runsTo_yes hbk
        rw [hbk] at hcx'
        have HN := Lib.hid hn
        have HB := Lib.hid hbk
        obtain ⟨fn, tmps, assign, body, hy, hR⟩ := hY _ k wr hJs (by have := runsTo_length bs k; omega)
        clear hn hbk hc
        gi_wp2
        refine hR.mono ?_
        rintro e W3 (⟨rfl, hJ3, hk3⟩ | ⟨rfl, hJx3⟩)
        · gi_wp2
          go_roundw
          case rel => exact ⟨k + 1, by omega, by simp, by rw [HN.out]; exact hJ3, hnx.trans hk3⟩
          case measure => simp [intOf]; omega
        · gi_wp2
          refine bodyPost_ret (results_none rfl _ _ _) rfl ?_
          exact ⟨⟨_, rfl⟩, .inr ⟨_, ⟨k, by omega, HB.out, HN.out.symm⟩, hJx3⟩⟩
    · obtain rfl : k = len := by omega
      gi_wp2
      go_end0
      exact ⟨⟨_, rfl⟩, .inl ⟨_, rfl, hJs⟩⟩

/-- the slice value sv holds the bools bs, in a block below n₀ -/
def Bools (n₀ : Nat) (W : World) (sv : Value) (bs : List Bool) : Prop :=
  ∃ a cap, sv = .slice a bs.length cap ∧ ∀ j, j < bs.length → ∃ b off, a = some ⟨b, off, none⟩ ∧ b < n₀ ∧ W.cell? ⟨b, off + j, none⟩ = some (.bool (bs[j]?.getD false))
theorem Bools.below {n₀ : Nat} {A B : World} (h : Below n₀ A B) {sv : Value} {bs : List Bool} : Bools n₀ A sv bs → Bools n₀ B sv bs
  | ⟨a, cap, e, hc⟩ => ⟨a, cap, e, fun j hj => let ⟨b, off, e1, h1, h2⟩ := hc j hj; ⟨b, off, e1, h1, (h.cell (p := ⟨b, off + j, none⟩) h1).trans h2⟩⟩
theorem Bools.mono {n₀ n₁ : Nat} {A : World} (h : n₀ ≤ n₁) {sv : Value} {bs : List Bool} : Bools n₀ A sv bs → Bools n₁ A sv bs
  | ⟨a, cap, e, hc⟩ => ⟨a, cap, e, fun j hj => let ⟨b, off, e1, h1, h2⟩ := hc j hj; ⟨b, off, e1, Nat.lt_of_lt_of_le h1 h, h2⟩⟩

set_option maxHeartbeats 1000000 in
/-- running(runs): the slice value is boxed; the function value captures the box. -/
theorem running_in (F : Fence) (n : Nat) (h5 : F.fn 41) (hro : F.round = none) (a : Option Addr) (len cap : Nat) (w : World) :
    CallsIn F n Try.prog 41 #[.slice a len cap] w fun e w' => e = .returned (.func (.func 56) #[] #[.pointer (some ⟨w.heap.size, 0, none⟩)]) ∧ w' = w.alloc (.cells #[.slice a len cap] 22) := by
  refine callsIn_of_wp Try.func41 rfl h5 ?_ hro
  simp only [Try.ntmps41, List.size_toArray, List.length_cons, List.length_nil, Nat.reduceAdd, Nat.reduceSub, Array.replicate_succ, Array.replicate_zero, List.push_toArray, List.append_toArray, List.nil_append, List.cons_append]
  gi_wp2
  go_ret
  exact ⟨rfl, rfl⟩

/-- what running hands back gives those that run, rising; or a beginning of them -/
theorem running_stops (F : Fence) (n : Nat) (h7 : F.fn 56) (hro : F.round = none) (hn : 1 ≤ n) (Bs n₀ : Nat) (sv : Value) (bs : List Bool) (hreach : bs.length ≤ 140737488351232) (w : World) (hBs : Bs < w.heap.size) (hn₀ : n₀ ≤ w.heap.size)
    (hc : w.cell? ⟨Bs, 0, none⟩ = some sv) (hI : Bools n₀ w sv bs) :
    SeqStopsK F n Try.prog 56 #[.pointer (some ⟨Bs, 0, none⟩)] (fun x : Nat => #[Value.int .i64 (x : Int)]) (Below n₀) (fun ys => ys = runsTo bs bs.length)
      (fun pre => ∃ k, k < bs.length ∧ bs[k]?.getD false = true ∧ pre = runsTo bs (k + 1)) bs.length w := fun l J Jx W hW _ _ hY h0 => by
  have hc' := (hW.cell (p := ⟨Bs, 0, none⟩) hBs).trans hc
  obtain ⟨a, cap, rfl, hcs⟩ := hI.below (hW.mono hn₀)
  exact running1_in F n h7 hro hn l Bs n₀ a cap bs hreach J Jx hY W hc' hcs h0

theorem info3 : (Try.prog.info? 3).map (fun i => (i.zero, i.size, i.bytes)) = some (some (.int .i64 0), 1, 8) := by kernel_rfl

set_option maxRecDepth 100000 in
set_option maxHeartbeats 2000000 in
/-- slices.AppendSeq(nil, seq), against an iterator that reads what lay below the caller's heap's size -/
theorem appendSeq_in (F : Fence) (n : Nat) (h55 : F.fn 55) (hro : F.round = none) (hn : 3 ≤ n) (gf : Nat) (lb : Array Value) (hg : F.fn gf) (eg : ∀ args w, (callFunc gf args).run Try.prog w = .ok (.enter gf args) w)
    (S Sp : List Nat → Prop) (N : Nat) (hN : N ≤ maxLen) (hNb : N * 8 ≤ 140737488355328) (n₀ : Nat) (w : World) (hn₀ : n₀ ≤ w.heap.size) (hseq : SeqStopsK F (n - 1) Try.prog gf lb (fun x : Nat => #[Value.int .i64 (x : Int)]) (Below n₀) S Sp N w) :
    CallsIn F n Try.prog 55 #[.slice none 0 0, .func (.func gf) #[] lb] w fun e W' => ∃ v ys, S ys ∧ e = .returned v ∧ W'.ownsRow w.heap.size 3 1 v ys.length (ys.map fun x : Nat => Value.int .i64 (x : Int)) ∧ (v = .slice none 0 0 ↔ ys = []) ∧ Below w.heap.size w W' := by
  have h1 : 1 ≤ n := by omega
  obtain ⟨i0, hi, hz0, hz1, hz2⟩ := info_parts info3
  refine callsIn_of_wp_marks Try.func55 rfl h55 ?_ hro
  simp only [Try.ntmps55, List.size_toArray, List.length_cons, List.length_nil, Nat.reduceAdd, Nat.reduceSub, Array.replicate_succ, Array.replicate_zero, List.push_toArray, List.append_toArray, List.nil_append, List.cons_append]
  gi_wp2
  have bO := Boxed.new w 27 (.slice none 0 0)
  have hB0 : Below w.heap.size w (w.alloc (.cells #[.slice none 0 0] 27)) := (Below.refl _ w).alloc (Nat.le_refl _) _
  refine wpIn_rangeFunc_ownG hro h1 (gf := gf) (lb := lb) rfl hg eg hseq belowK_t (belowK_b (by simp; omega)) hB0 (fun _ => rfl)
    (fun pre W => (∃ v, Boxed W w.heap.size 27 v ∧ W.ownsRow w.heap.size 3 1 v pre.length (pre.map fun x : Nat => Value.int .i64 (x : Int)) ∧ (v = .slice none 0 0 ↔ pre = [])) ∧ Below w.heap.size w W)
    (fun _ _ _ => False)
    (OwnFrom.and (Own.from (holdsRow_own w.heap.size w.heap.size 27 3 1 (fun pre : List Nat => pre.length) (fun pre => pre.map fun x : Nat => Value.int .i64 (x : Int)) (fun pre v => v = .slice none 0 0 ↔ pre = [])) _) (ownFrom_below (Nat.le_refl _) (by simp)))
    (fun _ _ _ _ _ hs _ _ => hs)
    ⟨⟨_, bO, World.ownsRow_nil _ _ _ _, by simp⟩, hB0⟩
    (fun x => { tmps := #[.slice none 0 0, .func (.func gf) #[] lb, .pointer (some ⟨w.heap.size, 0, none⟩), undef, .slice none 0 0, .int .i64 (x : Int), .func (.func gf) #[] lb, .int .i64 (x : Int), undef, undef, undef, undef, undef], defers := [] }) ?assign ?body ?done ?stop
  case assign =>
    intro l x W K hK
    gi_wp2
    exact hK
  case body =>
    rintro l pre x W ⟨⟨v, hv, hrow, hnil⟩, hB⟩ hlt
    have hc := hv.cell
    gi_wp2_with (gi_at_builtin; refine wpListIn_append_own _ rfl _ _ 27 rfl w.heap.size 3 i0 (.int .i64 0) 1 8 Try.underlying27 hi hz0 hz1 hz2 rfl (by decide) _ _ _ rfl (hrow.alloc _) ⟨W.heap.size, 0, none⟩ 1 1 [.int .i64 x] rfl rfl (cell_one_new _ _ _) (by simp [Value.oneCell']) (by omega) (by omega) (by have := hB.size; simp; omega) ?_; intro v' w1 hown' hgrow _; obtain ⟨g', cap', rfl⟩ := ownsRow_succ hown'; obtain ⟨hv1, hv2, hr2, hk2, hb2⟩ := hv.appended (by decide) hrow hB.size (Nat.le_refl _) hown' hgrow; have hc1 := hv1.cell; have hf1 := hv1.frozen)
    exact ⟨hk2.from _, hb2.mono hn₀, ⟨_, hv2, by simpa using hr2, by simp⟩, hB.trans hb2⟩
  case done =>
    rintro D ys W hD hS ⟨⟨v, hv, hrow, hnil⟩, hB⟩ hK
    have hc := hv.cell
    gi_wp2
    refine ⟨by simp, .inl ⟨_, _, rfl, run_takeDeferred hK, ?_⟩⟩
    exact ⟨_, results_tmp rfl _ _ _, v, ys, hS, rfl, ownsRow_putObj hrow _ hK rfl, hnil, hB.trans (belowK_b (w := w) (Nat.le_refl _) W D _ _ (by simp at hD; omega) hK rfl rfl)⟩
  case stop =>
    rintro D c pre W _ _ h _
    exact h.elim

set_option maxHeartbeats 1000000 in
/-- slices.Collect(seq) -/
theorem collect_in (F : Fence) (n : Nat) (h40 : F.fn 40) (h55 : F.fn 55) (hro : F.round = none) (hn : 4 ≤ n) (gf : Nat) (lb : Array Value) (hg : F.fn gf) (eg : ∀ args w, (callFunc gf args).run Try.prog w = .ok (.enter gf args) w)
    (S Sp : List Nat → Prop) (N : Nat) (hN : N ≤ maxLen) (hNb : N * 8 ≤ 140737488355328) (n₀ : Nat) (w : World) (hn₀ : n₀ ≤ w.heap.size) (hseq : SeqStopsK F (n - 1 - 1) Try.prog gf lb (fun x : Nat => #[Value.int .i64 (x : Int)]) (Below n₀) S Sp N w) :
    CallsIn F n Try.prog 40 #[.func (.func gf) #[] lb] w fun e W' => ∃ v ys, S ys ∧ e = .returned v ∧ W'.ownsRow w.heap.size 3 1 v ys.length (ys.map fun x : Nat => Value.int .i64 (x : Int)) ∧ (v = .slice none 0 0 ↔ ys = []) ∧ Below w.heap.size w W' := by
  have h1 : 1 ≤ n := by omega
  refine callsIn_of_wp Try.func40 rfl h40 ?_ hro
  simp only [Try.ntmps40, List.size_toArray, List.length_cons, List.length_nil, Nat.reduceAdd, Nat.reduceSub, Array.replicate_succ, Array.replicate_zero, List.push_toArray, List.append_toArray, List.nil_append, List.cons_append]
  gi_wp2_with (gi_at_call 55; refine (appendSeq_in F (n - 1) h55 hro (by omega) gf lb hg eg S Sp N hN hNb n₀ _ hn₀ hseq).mono ?_; rintro e w' ⟨v, ss, hS, rfl, hrow, hnil, hb⟩)
  go_ret
  exact ⟨v, ss, hS, rfl, hrow, hnil, hb⟩
end Go.Proofs.Ytooonjoiidcmgaa
