/- The empty trees: nil, and the zero Tree. -/
import Derived.Test.YtooonjoiidcmgaaTreeQ
namespace Go.Proofs.Ytooonjoiidcmgaa
open Go.RowKit Go.Shelf
attribute [local go_sem] Oper.semAt_some

def EmptyT (n₀ : Nat) (w : World) (t : Option Addr) : Prop := t = none ∨ ∃ b, t = some ⟨b, 0, none⟩ ∧ b < n₀ ∧ w.cell? ⟨b, 0, none⟩ = some (.slice none 0 0)
theorem EmptyT.below {n₀ : Nat} {w w' : World} {t : Option Addr} (h : EmptyT n₀ w t) (hb : Below n₀ w w') : EmptyT n₀ w' t := by
  rcases h with h | ⟨b, e, hl, hc⟩
  · exact .inl h
  · exact .inr ⟨b, e, hl, (hb.cell (p := ⟨b, 0, none⟩) hl).trans hc⟩
theorem EmptyT.low {n₀ n₁ : Nat} {w : World} {t : Option Addr} (h : EmptyT n₀ w t) (hn : n₀ ≤ n₁) : EmptyT n₁ w t := by
  rcases h with h | ⟨b, e, hl, hc⟩
  · exact .inl h
  · exact .inr ⟨b, e, by omega, hc⟩

set_option maxHeartbeats 400000 in
theorem none_e {n₀ : Nat} {t : Option Addr} {w : World} (h : EmptyT n₀ w t) : Calls Try.prog 43 #[.pointer t] w fun e w' => e = .returned (.bool true) ∧ w = w' := by
  rcases h with rfl | ⟨b, rfl, _, hc⟩
  all_goals
    go_enter Try.func43, Try.ntmps43
    go_wp2
    go_ret
    exact ⟨rfl, rfl⟩
set_option maxHeartbeats 400000 in
theorem of_e {n₀ : Nat} {t : Option Addr} (g : Int) {w : World} (h : EmptyT n₀ w t) : Calls Try.prog 44 #[.pointer t, .int .i64 g] w fun e w' => e = .returned (.pointer none) ∧ w = w' := by
  have H := Lib.hid h
  clear h
  go_enter Try.func44, Try.ntmps44
  go_wp2_with (go_at_call 43; refine (none_e H.out).mono ?_; rintro e w' ⟨rfl, rfl⟩)
  go_ret
  exact ⟨rfl, rfl⟩
set_option maxHeartbeats 400000 in
theorem many_e {n₀ : Nat} {t : Option Addr} {w : World} (h : EmptyT n₀ w t) : Calls Try.prog 33 #[.pointer t] w fun e w' => e = .returned (.int .i64 0) ∧ w = w' := by
  have H := Lib.hid h
  clear h
  go_enter Try.func33, Try.ntmps33
  go_wp2_with (go_at_call 43; refine (none_e H.out).mono ?_; rintro e w' ⟨rfl, rfl⟩)
  go_ret
  exact ⟨rfl, rfl⟩
set_option maxHeartbeats 400000 in
theorem add_e {n₀ : Nat} {t : Option Addr} (g : Int) {w : World} (h : EmptyT n₀ w t) : Calls Try.prog 26 #[.pointer t, .int .i64 g] w fun e w' => e = .returned (.tuple #[.int .i64 0, .int .i64 1]) ∧ w = w' := by
  have H := Lib.hid h
  clear h
  go_enter Try.func26, Try.ntmps26
  go_wp2_with (go_at_call 43; refine (none_e H.out).mono ?_; rintro e w' ⟨rfl, rfl⟩)
  go_ret2
  exact ⟨rfl, rfl⟩
set_option maxHeartbeats 400000 in
theorem off_e {n₀ : Nat} {t : Option Addr} (g : Int) {w : World} (h : EmptyT n₀ w t) : Calls Try.prog 28 #[.pointer t, .int .i64 g] w fun e w' => e = .returned (.int .i64 1) ∧ w = w' := by
  have H := Lib.hid h
  clear h
  go_enter Try.func28, Try.ntmps28
  go_wp2_with (go_at_call 43; refine (none_e H.out).mono ?_; rintro e w' ⟨rfl, rfl⟩)
  go_ret
  exact ⟨rfl, rfl⟩
set_option maxHeartbeats 400000 in
theorem parent_e {n₀ : Nat} {t : Option Addr} (g : Int) {w : World} (h : EmptyT n₀ w t) : Calls Try.prog 36 #[.pointer t, .int .i64 g] w fun e w' => e = .returned (.int .i64 0) ∧ w = w' := by
  have H := Lib.hid h
  clear h
  go_enter Try.func36, Try.ntmps36
  go_wp2_with (go_at_call 44; refine (of_e g H.out).mono ?_; rintro e w' ⟨rfl, rfl⟩)
  go_ret
  exact ⟨rfl, rfl⟩
set_option maxHeartbeats 400000 in
theorem depth_e {n₀ : Nat} {t : Option Addr} (g : Int) {w : World} (h : EmptyT n₀ w t) : Calls Try.prog 35 #[.pointer t, .int .i64 g] w fun e w' => e = .returned (.int .i64 0) ∧ w = w' := by
  have H := Lib.hid h
  clear h
  go_enter Try.func35, Try.ntmps35
  go_wp2_with (go_at_call 44; refine (of_e g H.out).mono ?_; rintro e w' ⟨rfl, rfl⟩)
  go_ret
  exact ⟨rfl, rfl⟩
set_option maxHeartbeats 400000 in
theorem online_e {n₀ : Nat} {t : Option Addr} (g : Int) {w : World} (h : EmptyT n₀ w t) : Calls Try.prog 39 #[.pointer t, .int .i64 g] w fun e w' => e = .returned (.bool false) ∧ w = w' := by
  have H := Lib.hid h
  clear h
  go_enter Try.func39, Try.ntmps39
  go_wp2_with (go_at_call 44; refine (of_e g H.out).mono ?_; rintro e w' ⟨rfl, rfl⟩)
  go_ret
  exact ⟨rfl, rfl⟩
theorem ofC_e {n₀ m : Nat} {t : Option Addr} (g : Int) {w : World} (h : EmptyT n₀ w t) :
    CallsIn Fence.wide m Try.prog 44 #[.pointer t, .int .i64 g] w fun e w' => e = .returned (.pointer none) ∧ w = w' := callsIn_wide.2 (of_e g h)

theorem up_moves_e (m : Nat) (hm : 1 ≤ m) (TB GB n₀ : Nat) (t : Option Addr) (g : Int) (w : World) (hn₀ : n₀ ≤ w.heap.size)
    (hT : EmptyT n₀ w t) (hTB : Boxed w TB 37 (.pointer t)) (hGB : Boxed w GB 3 (.int .i64 g)) :
    SeqMoves Fence.wide m Try.prog 57 #[.pointer (some ⟨TB, 0, none⟩), .pointer (some ⟨GB, 0, none⟩)] (fun x : Nat => #[Value.int .i64 (x : Int)]) (UpMv GB) (UpKp n₀ TB GB)
      (fun ys => ys = []) (fun pre => pre <+: ([] : List Nat)) 0 w := by
  intro l J Jx W hW hJ hY h0
  have HT := Lib.hid (hT.below (hW.mono hn₀))
  have hTB' : Boxed W TB 37 (.pointer t) := (hW.block TB hTB.lt).trans hTB
  have hGB' : Boxed W GB 3 (.int .i64 g) := (hW.block GB hGB.lt).trans hGB
  have c1 := hTB'.cell
  have c2 := hGB'.cell
  have t44 : Fence.wide.fn 44 := trivial
  clear hT hTB hGB hTB' hGB' hW hY hJ
  refine callsIn_of_wp Try.func57 rfl trivial ?_ rfl
  simp only [Try.ntmps57, List.size_toArray, List.length_cons, List.length_nil, Nat.reduceAdd, Nat.reduceSub, Array.replicate_succ, Array.replicate_zero, List.push_toArray, List.append_toArray, List.nil_append, List.cons_append]
  gi_wp2_with (gi_at_call 44; refine (ofC_e g HT.out).mono ?_; rintro e w' ⟨rfl, rfl⟩)
  gi_loopw [4] (fun p wr => p = .pointer none ∧ J [] wr) (fun _ _ => 0)
  case atStart => exact ⟨rfl, h0⟩
  case round =>
    obtain ⟨rfl, hJs⟩ := hrel
    gi_wp2
    refine ⟨fun _ h => (by cases h), ?_⟩
    gi_wp2
    go_end0
    exact ⟨⟨_, rfl⟩, .inl ⟨_, rfl, hJs⟩⟩

set_option maxHeartbeats 1000000 in
theorem path_e {t : Option Addr} (g : Int) (w : World) (h : EmptyT w.heap.size w t) :
    Calls Try.prog 34 #[.pointer t, .int .i64 g] w fun e W' => ∃ a cap, e = .returned (.slice a 0 cap) ∧ Below w.heap.size w W' := by
  have bT := Boxed.new w 37 (.pointer t)
  have bG := Boxed.new (w.alloc (.cells #[.pointer t] 37)) 3 (.int .i64 g)
  rw [World.size_alloc] at bG
  have bT' := bT.alloc (.cells #[.int .i64 g] 3)
  have hB0 : Below w.heap.size w ((w.alloc (.cells #[.pointer t] 37)).alloc (.cells #[.int .i64 g] 3)) := ((Below.refl _ w).alloc (Nat.le_refl _) _).alloc (by simp) _
  have hL := h.below hB0
  have hseq := up_moves_e (10 - 1 - 1) (by omega) w.heap.size (w.heap.size + 1) w.heap.size t g (((w.alloc (.cells #[.pointer t] 37)).alloc (.cells #[.int .i64 g] 3)).alloc (.cells #[.slice none 0 0] 27)) (by simp; omega)
    (hL.below ((Below.refl _ _).alloc (by simp; omega) _)) (bT'.alloc _) (bG.alloc _)
  have C := collect_m 10 (by omega) 57 _ (enters_of Try.func57 (by kernel_rfl) rfl) _ _ _ (by unfold maxLen; omega) (by omega) w.heap.size w.heap.size (w.heap.size + 1) _ (by simp; omega) (by simp; omega) (by simp) hseq
  have hC := callsIn_wide.1 C
  have HC := Lib.hid hC
  have HB := Lib.hid hB0
  clear hC C hseq hL hB0 bT bG bT' h
  go_enter Try.func34, Try.ntmps34
  go_wp2_with (first
    | (go_at_call 54; refine (up_c _ _ _).mono ?_; rintro e w' ⟨rfl, rfl⟩)
    | (go_at_call 40; refine HC.out.mono ?_; rintro e w1 ⟨v, ys, rfl, rfl, hrow, _, hb⟩))
  go_ret
  have hrow' : w1.ownsRow _ 3 1 v ([] : List Nat).length (([] : List Nat).map encI) := hrow
  obtain ⟨a, cap, rfl, _⟩ := ints_of_owns hrow' rfl
  refine ⟨a, cap, rfl, hb.os.trans HB.out.os, hb.tape.trans HB.out.tape, hb.output.trans HB.out.output, Nat.le_trans HB.out.size hb.size, fun k hk => ?_⟩
  exact (hb.block k (by simp; omega) (by omega)).trans (HB.out.block k hk)

set_option maxRecDepth 100000 in
set_option maxHeartbeats 2000000 in
theorem heir_e {t : Option Addr} (g : Int) (w : World) (h : EmptyT w.heap.size w t) :
    Calls Try.prog 38 #[.pointer t, .int .i64 g] w fun e W' => e = .returned (.int .i64 0) ∧ Below w.heap.size w W' := by
  refine (callsIn_wide (n := 10)).1 (callsIn_of_wp_marks Try.func38 rfl trivial ?_ rfl)
  simp only [Try.ntmps38, List.size_toArray, List.length_cons, List.length_nil, Nat.reduceAdd, Nat.reduceSub, Array.replicate_succ, Array.replicate_zero, List.push_toArray, List.append_toArray, List.nil_append, List.cons_append]
  refine (wpIn_wide (n := 10)).2 ?_
  go_wp2_with (go_at_call 54; refine (up_c _ _ _).mono ?_; rintro e w' ⟨rfl, rfl⟩)
  refine (wpIn_wide (n := 10)).1 ?_
  have bA := Boxed.new (w.alloc (.cells #[.pointer t] 37)) 3 (.int .i64 0)
  have bT := Boxed.new ((w.alloc (.cells #[.pointer t] 37)).alloc (.cells #[.int .i64 0] 3)) 37 (.pointer t)
  have bG := Boxed.new (((w.alloc (.cells #[.pointer t] 37)).alloc (.cells #[.int .i64 0] 3)).alloc (.cells #[.pointer t] 37)) 3 (.int .i64 g)
  simp only [World.size_alloc] at bA bT bG
  have hB0 : Below w.heap.size w ((((w.alloc (.cells #[.pointer t] 37)).alloc (.cells #[.int .i64 0] 3)).alloc (.cells #[.pointer t] 37)).alloc (.cells #[.int .i64 g] 3)) :=
    ((((Below.refl _ w).alloc (Nat.le_refl _) _).alloc (by simp) _).alloc (by simp; omega) _).alloc (by simp; omega) _
  have hA' := (bA.alloc (.cells #[.pointer t] 37)).alloc (.cells #[.int .i64 g] 3)
  have hT' := bT.alloc (.cells #[.int .i64 g] 3)
  refine range_moves (F := Fence.wide) (n := 10) (Mv := UpMv (w.heap.size + 1 + 1 + 1)) (Kp := UpKp w.heap.size (w.heap.size + 1 + 1) (w.heap.size + 1 + 1 + 1)) rfl (by omega) (gf := 57) (lb := #[.pointer (some ⟨w.heap.size + 1 + 1, 0, none⟩), .pointer (some ⟨w.heap.size + 1 + 1 + 1, 0, none⟩)]) rfl trivial (enters_of Try.func57 (by kernel_rfl) rfl)
    (up_moves_e (10 - 1) (by omega) (w.heap.size + 1 + 1) (w.heap.size + 1 + 1 + 1) w.heap.size t g _ (by simp; omega) (h.below hB0) hT' bG) ?hmv (fun h k => h.trans k) ?hkb (by intro _; rfl)
    (fun (_ : List Nat) W => (Boxed W (w.heap.size + 1) 3 (.int .i64 0)) ∧ Below w.heap.size w W)
    (fun _ _ _ => False)
    (OwnFrom.and (Own.from (boxed_own _ _ fun _ => _) _) (ownFrom_below (Nat.le_refl _) (by simp; omega)))
    (fun _ _ _ _ _ hs _ _ => hs)
    ?hIm ⟨hA', hB0⟩
    (fun x : Nat => { tmps := #[.pointer t, .int .i64 g, .pointer (some ⟨w.heap.size, 0, none⟩), undef, .pointer (some ⟨w.heap.size + 1, 0, none⟩), .int .i64 (x : Int), .pointer t, .int .i64 g, .func (.func 57) #[] #[.pointer (some ⟨w.heap.size + 1 + 1, 0, none⟩), .pointer (some ⟨w.heap.size + 1 + 1 + 1, 0, none⟩)], .int .i64 (x : Int), undef, undef, undef, undef], defers := [] }) ?assign ?body ?done ?stop
  case hmv =>
    rintro A B' k o ⟨u, rfl⟩ hk ho _
    simp only [World.size_alloc] at hk
    exact (Below.heap_setCell A ⟨w.heap.size + 1 + 1 + 1, 0, none⟩ u k (by show k ≠ w.heap.size + 1 + 1 + 1; omega)).trans ho
  case hkb =>
    intro W l o o' hl ho hc hw
    simp only [World.size_alloc] at hl
    exact ⟨belowK_b (w := w) (Nat.le_refl _) W l o o' (by omega) ho hc hw, World.putObj_heap_other (by omega), World.putObj_heap_other (by omega)⟩
  case hIm =>
    rintro s A B' ⟨hA, hB⟩ ⟨u, rfl⟩
    exact ⟨hA.other (by omega) u, hB.setCell (p := ⟨w.heap.size + 1 + 1 + 1, 0, none⟩) (by show _ ≤ w.heap.size + 1 + 1 + 1; omega) u⟩
  case assign =>
    intro l x W K hK
    gi_wp2
    exact hK
  case body =>
    rintro l pre x W _ hlt
    exact absurd hlt (Nat.not_lt_zero _)
  case done =>
    rintro D ys W hD rfl ⟨hA, hB⟩ hK
    have hD' : w.heap.size ≤ D := by simp at hD; omega
    have c2 := hA.cell
    have f2 := hA.frozen
    clear hA' hT' bG bA bT hB0 h hD
    go_wp2
    have hK' := (KeepsOthers.setCell W ⟨w.heap.size + 1, 0, none⟩ (.int .i64 0)).same D _ hK rfl
    refine ⟨by simp, .inl ⟨_, _, rfl, run_takeDeferred hK', ?_⟩⟩
    have hc5 := cell_kept (hA.set (.int .i64 0)).cell (grownBy_putObj' _ D (.deferred none)) (fun r e => by cases e; exact ⟨_, hK', rfl⟩)
    refine ⟨.int .i64 0, ?_, rfl, (hB.setCell (p := ⟨w.heap.size + 1, 0, none⟩) (by show _ ≤ w.heap.size + 1; omega) _).trans (belowK_b (w := w) (Nat.le_refl _) _ D _ _ hD' hK' rfl rfl)⟩
    simp [results, Try.f38, go_sem, hc5]
  case stop =>
    rintro D c pre W _ _ h _
    exact h.elim

set_option maxRecDepth 100000 in
set_option maxHeartbeats 2000000 in
theorem below_e {t : Option Addr} (g top : Int) (w : World) (h : EmptyT w.heap.size w t) :
    Calls Try.prog 37 #[.pointer t, .int .i64 g, .int .i64 top] w fun e W' => e = .returned (.bool false) ∧ Below w.heap.size w W' := by
  refine (callsIn_wide (n := 10)).1 (callsIn_of_wp_marks Try.func37 rfl trivial ?_ rfl)
  simp only [Try.ntmps37, List.size_toArray, List.length_cons, List.length_nil, Nat.reduceAdd, Nat.reduceSub, Array.replicate_succ, Array.replicate_zero, List.push_toArray, List.append_toArray, List.nil_append, List.cons_append]
  refine (wpIn_wide (n := 10)).2 ?_
  go_wp2_with (go_at_call 54; refine (up_c _ _ _).mono ?_; rintro e w' ⟨rfl, rfl⟩)
  refine (wpIn_wide (n := 10)).1 ?_
  have bA := Boxed.new (w.alloc (.cells #[.int .i64 top] 3)) 4 (.bool false)
  have bT := Boxed.new ((w.alloc (.cells #[.int .i64 top] 3)).alloc (.cells #[.bool false] 4)) 37 (.pointer t)
  have bG := Boxed.new (((w.alloc (.cells #[.int .i64 top] 3)).alloc (.cells #[.bool false] 4)).alloc (.cells #[.pointer t] 37)) 3 (.int .i64 g)
  simp only [World.size_alloc] at bA bT bG
  have hB0 : Below w.heap.size w ((((w.alloc (.cells #[.int .i64 top] 3)).alloc (.cells #[.bool false] 4)).alloc (.cells #[.pointer t] 37)).alloc (.cells #[.int .i64 g] 3)) :=
    ((((Below.refl _ w).alloc (Nat.le_refl _) _).alloc (by simp) _).alloc (by simp; omega) _).alloc (by simp; omega) _
  have hA' := (bA.alloc (.cells #[.pointer t] 37)).alloc (.cells #[.int .i64 g] 3)
  have hT' := bT.alloc (.cells #[.int .i64 g] 3)
  refine range_moves (F := Fence.wide) (n := 10) (Mv := UpMv (w.heap.size + 1 + 1 + 1)) (Kp := UpKp w.heap.size (w.heap.size + 1 + 1) (w.heap.size + 1 + 1 + 1)) rfl (by omega) (gf := 57) (lb := #[.pointer (some ⟨w.heap.size + 1 + 1, 0, none⟩), .pointer (some ⟨w.heap.size + 1 + 1 + 1, 0, none⟩)]) rfl trivial (enters_of Try.func57 (by kernel_rfl) rfl)
    (up_moves_e (10 - 1) (by omega) (w.heap.size + 1 + 1) (w.heap.size + 1 + 1 + 1) w.heap.size t g _ (by simp; omega) (h.below hB0) hT' bG) ?hmv (fun h k => h.trans k) ?hkb (by intro _; rfl)
    (fun (_ : List Nat) W => (Boxed W (w.heap.size + 1) 4 (.bool false)) ∧ Below w.heap.size w W)
    (fun _ _ _ => False)
    (OwnFrom.and (Own.from (boxed_own _ _ fun _ => _) _) (ownFrom_below (Nat.le_refl _) (by simp; omega)))
    (fun _ _ _ _ _ hs _ _ => hs)
    ?hIm ⟨hA', hB0⟩
    (fun x : Nat => { tmps := #[.pointer t, .int .i64 g, .int .i64 top, undef, undef, .pointer (some ⟨w.heap.size, 0, none⟩), .pointer (some ⟨w.heap.size + 1, 0, none⟩), .int .i64 (x : Int), .pointer t, .int .i64 g, .func (.func 57) #[] #[.pointer (some ⟨w.heap.size + 1 + 1, 0, none⟩), .pointer (some ⟨w.heap.size + 1 + 1 + 1, 0, none⟩)], .int .i64 (x : Int), undef, undef, undef], defers := [] }) ?assign ?body ?done ?stop
  case hmv =>
    rintro A B' k o ⟨u, rfl⟩ hk ho _
    simp only [World.size_alloc] at hk
    exact (Below.heap_setCell A ⟨w.heap.size + 1 + 1 + 1, 0, none⟩ u k (by show k ≠ w.heap.size + 1 + 1 + 1; omega)).trans ho
  case hkb =>
    intro W l o o' hl ho hc hw
    simp only [World.size_alloc] at hl
    exact ⟨belowK_b (w := w) (Nat.le_refl _) W l o o' (by omega) ho hc hw, World.putObj_heap_other (by omega), World.putObj_heap_other (by omega)⟩
  case hIm =>
    rintro s A B' ⟨hA, hB⟩ ⟨u, rfl⟩
    exact ⟨hA.other (by omega) u, hB.setCell (p := ⟨w.heap.size + 1 + 1 + 1, 0, none⟩) (by show _ ≤ w.heap.size + 1 + 1 + 1; omega) u⟩
  case assign =>
    intro l x W K hK
    gi_wp2
    exact hK
  case body =>
    rintro l pre x W _ hlt
    exact absurd hlt (Nat.not_lt_zero _)
  case done =>
    rintro D ys W hD rfl ⟨hA, hB⟩ hK
    have hD' : w.heap.size ≤ D := by simp at hD; omega
    have c2 := hA.cell
    have f2 := hA.frozen
    clear hA' hT' bG bA bT hB0 h hD
    go_wp2
    have hK' := (KeepsOthers.setCell W ⟨w.heap.size + 1, 0, none⟩ (.bool false)).same D _ hK rfl
    refine ⟨by simp, .inl ⟨_, _, rfl, run_takeDeferred hK', ?_⟩⟩
    have hc5 := cell_kept (hA.set (.bool false)).cell (grownBy_putObj' _ D (.deferred none)) (fun r e => by cases e; exact ⟨_, hK', rfl⟩)
    refine ⟨.bool false, ?_, rfl, (hB.setCell (p := ⟨w.heap.size + 1, 0, none⟩) (by show _ ≤ w.heap.size + 1; omega) _).trans (belowK_b (w := w) (Nat.le_refl _) _ D _ _ hD' hK' rfl rfl)⟩
    simp [results, Try.f37, go_sem, hc5]
  case stop =>
    rintro D c pre W _ _ h _
    exact h.elim
end Go.Proofs.Ytooonjoiidcmgaa
