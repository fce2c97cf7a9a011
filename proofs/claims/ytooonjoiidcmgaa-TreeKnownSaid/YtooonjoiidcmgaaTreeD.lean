/- What a tree tells of paths: Path, Heir, Below. -/
import Derived.Test.YtooonjoiidcmgaaTreeC
import Derived.WalkMore
import Derived.Deep.Onto
namespace Go.Proofs.Ytooonjoiidcmgaa
open Go.RowKit Go.Shelf
attribute [local go_sem] Oper.semAt_some

theorem Turned.then_below {S : Nat → Prop} {w W W' : World} (h : Turned S w W) (hb : Below w.heap.size W W') : Turned S w W' :=
  ⟨hb.os.trans h.os, hb.tape.trans h.tape, hb.output.trans h.output, Nat.le_trans h.size hb.size, fun k hk hs => (hb.block k hk).trans (h.block k hk hs)⟩

theorem up_moves (m : Nat) (hm : 1 ≤ m) (TB GB n₀ B R n : Nat) (st : List Nd) (g : Int) (hi : Inv st) (hTG : TB ≠ GB) (hG : n₀ ≤ GB) (w : World) (hn₀ : n₀ ≤ w.heap.size)
    (hT : TLow n₀ w B R n st) (hTB : Boxed w TB 37 (.pointer (some ⟨B, 0, none⟩))) (hGB : Boxed w GB 3 (.int .i64 g)) :
    SeqMoves Fence.wide m Try.prog 57 #[.pointer (some ⟨TB, 0, none⟩), .pointer (some ⟨GB, 0, none⟩)] (fun x : Nat => #[Value.int .i64 (x : Int)]) (UpMv GB) (UpKp n₀ TB GB)
      (fun ys => ys = path st g.toNat) (fun pre => pre <+: path st g.toNat) (path st g.toNat).length w := by
  intro l J Jx W hW hJ hY h0
  have hT' := hT.below (hW.mono hn₀)
  have hTB' : Boxed W TB 37 (.pointer (some ⟨B, 0, none⟩)) := (hW.block TB hTB.lt).trans hTB
  have hGB' : Boxed W GB 3 (.int .i64 g) := (hW.block GB hGB.lt).trans hGB
  by_cases hg : 1 ≤ g ∧ g ≤ n
  · obtain ⟨k, rfl⟩ := Int.eq_ofNat_of_zero_le (show 0 ≤ g by omega)
    rw [Int.toNat_natCast] at hY ⊢
    exact up1_in m hm l TB GB n₀ B R n st k hi (by omega) (by omega) hTG hG J Jx hJ hY W hT' hTB' hGB' h0
  · have hn1 : 1 ≤ n := by rw [← hT.rd.len]; exact hi.some
    have hn2 : n ≤ 16 := by rw [← hT.rd.len]; exact hi.few
    have hp := path_out (st := st) (g := g.toNat) (by rw [hT.rd.len]; omega)
    have HP := Lib.hid hp
    have hg' : g < 1 ∨ (n : Int) < g := by omega
    obtain ⟨cap, hc⟩ := hT'.rd.box
    have c1 := hTB'.cell
    have c2 := hGB'.cell
    have t44 : Fence.wide.fn 44 := trivial
    clear hp hg hT hTB hGB hT' hTB' hGB' hW hY hJ
    refine callsIn_of_wp Try.func57 rfl trivial ?_ rfl
    simp only [Try.ntmps57, List.size_toArray, List.length_cons, List.length_nil, Nat.reduceAdd, Nat.reduceSub, Array.replicate_succ, Array.replicate_zero, List.push_toArray, List.append_toArray, List.nil_append, List.cons_append]
    gi_wp2_with (gi_at_call 44; refine (ofC_out B R n cap _ g _ hc hg' hn1 hn2).mono ?_; rintro e w' ⟨rfl, rfl⟩)
    gi_loopw [4] (fun p wr => p = .pointer none ∧ J [] wr) (fun _ _ => 0)
    case atStart => exact ⟨rfl, h0⟩
    case round =>
      obtain ⟨rfl, hJs⟩ := hrel
      gi_wp2
      refine ⟨fun _ h => (by cases h), ?_⟩
      gi_wp2
      go_end0
      exact ⟨⟨_, rfl⟩, .inl ⟨_, HP.out.symm, hJs⟩⟩

set_option maxRecDepth 100000 in
set_option maxHeartbeats 2000000 in
/-- slices.AppendSeq(nil, seq), against an iterator that moves one cell of its own -/
theorem appendSeq_m (m : Nat) (hm : 3 ≤ m) (gf : Nat) (lb : Array Value) (eg : ∀ args w, (callFunc gf args).run Try.prog w = .ok (.enter gf args) w)
    (S Sp : List Nat → Prop) (N : Nat) (hN : N ≤ maxLen) (hNb : N * 8 ≤ 140737488355328) (n₀ TB GB : Nat) (w : World) (hn₀ : n₀ ≤ w.heap.size) (hT : TB < w.heap.size) (hG : GB < w.heap.size)
    (hseq : SeqMoves Fence.wide (m - 1) Try.prog gf lb (fun x : Nat => #[Value.int .i64 (x : Int)]) (UpMv GB) (UpKp n₀ TB GB) S Sp N (w.alloc (.cells #[.slice none 0 0] 27))) :
    CallsIn Fence.wide m Try.prog 55 #[.slice none 0 0, .func (.func gf) #[] lb] w fun e W' => ∃ v ys, S ys ∧ e = .returned v ∧ W'.ownsRow w.heap.size 3 1 v ys.length (ys.map fun x : Nat => Value.int .i64 (x : Int)) ∧ (v = .slice none 0 0 ↔ ys = []) ∧ Turned (fun k => k = GB) w W' := by
  have h1 : 1 ≤ m := by omega
  obtain ⟨i0, hi, hz0, hz1, hz2⟩ := info_parts info3
  refine callsIn_of_wp_marks Try.func55 rfl trivial ?_ rfl
  simp only [Try.ntmps55, List.size_toArray, List.length_cons, List.length_nil, Nat.reduceAdd, Nat.reduceSub, Array.replicate_succ, Array.replicate_zero, List.push_toArray, List.append_toArray, List.nil_append, List.cons_append]
  gi_wp2
  have bO := Boxed.new w 27 (.slice none 0 0)
  have hB0 : Turned (fun k => k = GB) w (w.alloc (.cells #[.slice none 0 0] 27)) := Turned.of_below ((Below.refl _ w).alloc (Nat.le_refl _) _)
  refine range_moves (F := Fence.wide) (n := m) rfl h1 (gf := gf) (lb := lb) rfl trivial eg hseq ?hmv (fun h k => h.trans k) ?hkb (by intro _; rfl)
    (fun pre W => (∃ v, Boxed W w.heap.size 27 v ∧ W.ownsRow w.heap.size 3 1 v pre.length (pre.map fun x : Nat => Value.int .i64 (x : Int)) ∧ (v = .slice none 0 0 ↔ pre = [])) ∧ Turned (fun k => k = GB) w W)
    (fun _ _ _ => False) ?hI (fun _ _ _ _ _ hs _ _ => hs) ?hIm ⟨⟨_, bO, World.ownsRow_nil _ _ _ _, by simp⟩, hB0⟩
    (fun x : Nat => { tmps := #[.slice none 0 0, .func (.func gf) #[] lb, .pointer (some ⟨w.heap.size, 0, none⟩), undef, .slice none 0 0, .int .i64 (x : Int), .func (.func gf) #[] lb, .int .i64 (x : Int), undef, undef, undef, undef, undef], defers := [] }) ?assign ?body ?done ?stop
  case hmv =>
    rintro A B k o ⟨u, rfl⟩ hk ho _
    rw [World.size_alloc] at hk
    exact (Below.heap_setCell A ⟨GB, 0, none⟩ u k (by show k ≠ GB; omega)).trans ho
  case hkb =>
    intro W l o o' hl ho hc hw
    rw [World.size_alloc] at hl
    exact ⟨belowK_b (w := w) hn₀ W l o o' (by omega) ho hc hw, World.putObj_heap_other (by omega), World.putObj_heap_other (by omega)⟩
  case hI =>
    refine OwnFrom.and (Own.from (holdsRow_own w.heap.size w.heap.size 27 3 1 (fun pre : List Nat => pre.length) (fun pre => pre.map fun x : Nat => Value.int .i64 (x : Int)) (fun pre v => v = .slice none 0 0 ↔ pre = [])) _) ?_
    intro s A B row hs hg hr
    refine ⟨hg.os.trans hs.os, hg.tape.trans hs.tape, hg.output.trans hs.output, Nat.le_trans hs.size hg.size, fun k hk hn => ?_⟩
    refine (hg.block k (Nat.lt_of_lt_of_le hk hs.size) (fun e => ?_)).trans (hs.block k hk hn)
    have := (hr k e.symm).1
    rw [World.size_alloc] at this
    omega
  case hIm =>
    rintro s A B ⟨⟨v, hv, hrow, hnil⟩, hTu⟩ ⟨u, rfl⟩
    have hg := grownBy_setCell' A GB u
    refine ⟨⟨v, hv.other (by omega) u, hrow.kept hg ?_, hnil⟩, hTu.trans (Turned.of_grown hg (fun k e => by cases e; rfl))⟩
    refine .inr (fun e => ?_)
    have := (hrow.lt _ e).1
    omega
  case assign =>
    intro l x W K hK
    gi_wp2
    exact hK
  case body =>
    rintro l pre x W ⟨⟨v, hv, hrow, hnil⟩, hB⟩ hlt
    have hc := hv.cell
    gi_wp2_with (gi_at_builtin; refine wpListIn_append_own _ rfl _ _ 27 rfl w.heap.size 3 i0 (.int .i64 0) 1 8 Try.underlying27 hi hz0 hz1 hz2 rfl (by decide) _ _ _ rfl (hrow.alloc _) ⟨W.heap.size, 0, none⟩ 1 1 [.int .i64 x] rfl rfl (cell_one_new _ _ _) (by simp [Value.oneCell']) (by omega) (by omega) (by have := hB.size; simp; omega) ?_; intro v' w1 hown' hgrow _; obtain ⟨g', cap', rfl⟩ := ownsRow_succ hown'; obtain ⟨hv1, hv2, hr2, hk2, hb2⟩ := hv.appended (by decide) hrow hB.size (Nat.le_refl _) hown' hgrow; have hc1 := hv1.cell; have hf1 := hv1.frozen)
    exact ⟨hk2.from _, ⟨hb2.mono hn₀, hb2.block _ hT, hb2.block _ hG⟩, ⟨_, hv2, by simpa using hr2, by simp⟩, hB.then_below hb2⟩
  case done =>
    rintro D ys W hD hS ⟨⟨v, hv, hrow, hnil⟩, hB⟩ hK
    have hc := hv.cell
    gi_wp2
    refine ⟨by simp, .inl ⟨_, _, rfl, run_takeDeferred hK, ?_⟩⟩
    refine ⟨_, results_tmp rfl _ _ _, v, ys, hS, rfl, ownsRow_putObj hrow _ hK rfl, hnil, ?_⟩
    rw [World.size_alloc] at hD
    exact ⟨hB.os, hB.tape, hB.output, by simpa using hB.size, fun k hk hn => (World.putObj_heap_other (by omega)).trans (hB.block k hk hn)⟩
  case stop =>
    rintro D c pre W _ _ h _
    exact h.elim

set_option maxHeartbeats 1000000 in
/-- slices.Collect(seq), likewise -/
theorem collect_m (m : Nat) (hm : 4 ≤ m) (gf : Nat) (lb : Array Value) (eg : ∀ args w, (callFunc gf args).run Try.prog w = .ok (.enter gf args) w)
    (S Sp : List Nat → Prop) (N : Nat) (hN : N ≤ maxLen) (hNb : N * 8 ≤ 140737488355328) (n₀ TB GB : Nat) (w : World) (hn₀ : n₀ ≤ w.heap.size) (hT : TB < w.heap.size) (hG : GB < w.heap.size)
    (hseq : SeqMoves Fence.wide (m - 1 - 1) Try.prog gf lb (fun x : Nat => #[Value.int .i64 (x : Int)]) (UpMv GB) (UpKp n₀ TB GB) S Sp N (w.alloc (.cells #[.slice none 0 0] 27))) :
    CallsIn Fence.wide m Try.prog 40 #[.func (.func gf) #[] lb] w fun e W' => ∃ v ys, S ys ∧ e = .returned v ∧ W'.ownsRow w.heap.size 3 1 v ys.length (ys.map fun x : Nat => Value.int .i64 (x : Int)) ∧ (v = .slice none 0 0 ↔ ys = []) ∧ Turned (fun k => k = GB) w W' := by
  have h1 : 1 ≤ m := by omega
  have t55 : Fence.wide.fn 55 := trivial
  refine callsIn_of_wp Try.func40 rfl trivial ?_ rfl
  simp only [Try.ntmps40, List.size_toArray, List.length_cons, List.length_nil, Nat.reduceAdd, Nat.reduceSub, Array.replicate_succ, Array.replicate_zero, List.push_toArray, List.append_toArray, List.nil_append, List.cons_append]
  gi_wp2_with (gi_at_call 55; refine (appendSeq_m (m - 1) (by omega) gf lb eg S Sp N hN hNb n₀ TB GB _ hn₀ hT hG hseq).mono ?_; rintro e w' ⟨v, ss, hS, rfl, hrow, hnil, hb⟩)
  go_ret
  exact ⟨v, ss, hS, rfl, hrow, hnil, hb⟩

set_option maxHeartbeats 1000000 in
/-- t.Path(g): a new slice, the path; nil just where there is none -/
theorem path_c (B R n : Nat) (st : List Nd) (g : Int) (w : World) (h : TRd w B R n st) (hi : Inv st) :
    Calls Try.prog 34 #[.pointer (some ⟨B, 0, none⟩), .int .i64 g] w fun e W' => ∃ v, e = .returned v ∧ W'.ownsRow w.heap.size 3 1 v (path st g.toNat).length ((path st g.toNat).map fun x : Nat => Value.int .i64 (x : Int)) ∧ Below w.heap.size w W' := by
  have hl : (path st g.toNat).length ≤ 8 := by rw [path_length hi]; exact hi.depth_le _
  have bT := Boxed.new w 37 (.pointer (some ⟨B, 0, none⟩))
  have bG := Boxed.new (w.alloc (.cells #[.pointer (some ⟨B, 0, none⟩)] 37)) 3 (.int .i64 g)
  rw [World.size_alloc] at bG
  have bT' := bT.alloc (.cells #[.int .i64 g] 3)
  have hB0 : Below w.heap.size w ((w.alloc (.cells #[.pointer (some ⟨B, 0, none⟩)] 37)).alloc (.cells #[.int .i64 g] 3)) := ((Below.refl _ w).alloc (Nat.le_refl _) _).alloc (by simp) _
  have hL : TLow w.heap.size ((w.alloc (.cells #[.pointer (some ⟨B, 0, none⟩)] 37)).alloc (.cells #[.int .i64 g] 3)) B R n st := TLow.below ⟨h, h.ltB, h.ltR⟩ hB0
  have hseq := up_moves (10 - 1 - 1) (by omega) w.heap.size (w.heap.size + 1) w.heap.size B R n st g hi (by omega) (by omega) (((w.alloc (.cells #[.pointer (some ⟨B, 0, none⟩)] 37)).alloc (.cells #[.int .i64 g] 3)).alloc (.cells #[.slice none 0 0] 27)) (by simp; omega)
    (hL.below ((Below.refl _ _).alloc (by simp; omega) _)) (bT'.alloc _) (bG.alloc _)
  have C := collect_m 10 (by omega) 57 _ (enters_of Try.func57 (by kernel_rfl) rfl) _ _ _ (by unfold maxLen; omega) (by omega) w.heap.size w.heap.size (w.heap.size + 1) _ (by simp; omega) (by simp; omega) (by simp) hseq
  have hC := callsIn_wide.1 C
  have HC := Lib.hid hC
  have HB := Lib.hid hB0
  clear hC C hseq hL hB0 bT bG bT'
  go_enter Try.func34, Try.ntmps34
  go_wp2_with (first
    | (go_at_call 54; refine (up_c _ _ _).mono ?_; rintro e w' ⟨rfl, rfl⟩)
    | (go_at_call 40; refine HC.out.mono ?_; rintro e w1 ⟨v, ys, rfl, rfl, hrow, _, hb⟩))
  go_ret
  refine ⟨v, rfl, hrow.mono (by simp; omega), hb.os.trans HB.out.os, hb.tape.trans HB.out.tape, hb.output.trans HB.out.output, Nat.le_trans HB.out.size hb.size, fun k hk => ?_⟩
  exact (hb.block k (by simp; omega) (by omega)).trans (HB.out.block k hk)

theorem onlineC (B R n m : Nat) (st : List Nd) (g : Int) (w : World) (h : TRd w B R n st) (hi : Inv st) :
    CallsIn Fence.wide m Try.prog 39 #[.pointer (some ⟨B, 0, none⟩), .int .i64 g] w fun e w' => e = .returned (.bool (!(nd st g.toNat).off)) ∧ w = w' := callsIn_wide.2 (online_c B R n st g w h hi)

theorem heir_none {st : List Nd} {g : Nat} (h : ∀ x ∈ path st g, (nd st x).off = true) : heirF st g = 0 := by
  unfold heirF
  rw [List.find?_eq_none.2 (fun x hx => by simp [h x hx])]; rfl
theorem heir_some {st : List Nd} {g : Nat} {ini rest : List Nat} {x : Nat} (e : path st g = ini ++ x :: rest) (h : ∀ y ∈ ini, (nd st y).off = true) (hx : (nd st x).off = false) : heirF st g = x := by
  unfold heirF
  rw [e, List.find?_append, List.find?_eq_none.2 (fun y hy => by simp [h y hy])]
  simp [hx]

set_option maxRecDepth 100000 in
set_option maxHeartbeats 2000000 in
/-- t.Heir(g) -/
theorem heir_c (B R n : Nat) (st : List Nd) (g : Int) (w : World) (h : TRd w B R n st) (hi : Inv st) :
    Calls Try.prog 38 #[.pointer (some ⟨B, 0, none⟩), .int .i64 g] w fun e W' => e = .returned (.int .i64 (heirF st g.toNat : Int)) ∧ Below w.heap.size w W' := by
  have hl0 : TLow w.heap.size w B R n st := ⟨h, h.ltB, h.ltR⟩
  refine (callsIn_wide (n := 10)).1 (callsIn_of_wp_marks Try.func38 rfl trivial ?_ rfl)
  simp only [Try.ntmps38, List.size_toArray, List.length_cons, List.length_nil, Nat.reduceAdd, Nat.reduceSub, Array.replicate_succ, Array.replicate_zero, List.push_toArray, List.append_toArray, List.nil_append, List.cons_append]
  refine (wpIn_wide (n := 10)).2 ?_
  go_wp2_with (go_at_call 54; refine (up_c _ _ _).mono ?_; rintro e w' ⟨rfl, rfl⟩)
  refine (wpIn_wide (n := 10)).1 ?_
  have bP := Boxed.new w 37 (.pointer (some ⟨B, 0, none⟩))
  have bA := Boxed.new (w.alloc (.cells #[.pointer (some ⟨B, 0, none⟩)] 37)) 3 (.int .i64 0)
  have bT := Boxed.new ((w.alloc (.cells #[.pointer (some ⟨B, 0, none⟩)] 37)).alloc (.cells #[.int .i64 0] 3)) 37 (.pointer (some ⟨B, 0, none⟩))
  have bG := Boxed.new (((w.alloc (.cells #[.pointer (some ⟨B, 0, none⟩)] 37)).alloc (.cells #[.int .i64 0] 3)).alloc (.cells #[.pointer (some ⟨B, 0, none⟩)] 37)) 3 (.int .i64 g)
  simp only [World.size_alloc] at bA bT bG
  have hB0 : Below w.heap.size w ((((w.alloc (.cells #[.pointer (some ⟨B, 0, none⟩)] 37)).alloc (.cells #[.int .i64 0] 3)).alloc (.cells #[.pointer (some ⟨B, 0, none⟩)] 37)).alloc (.cells #[.int .i64 g] 3)) :=
    ((((Below.refl _ w).alloc (Nat.le_refl _) _).alloc (by simp) _).alloc (by simp; omega) _).alloc (by simp; omega) _
  have hP' := ((bP.alloc (.cells #[.int .i64 0] 3)).alloc (.cells #[.pointer (some ⟨B, 0, none⟩)] 37)).alloc (.cells #[.int .i64 g] 3)
  have hA' := (bA.alloc (.cells #[.pointer (some ⟨B, 0, none⟩)] 37)).alloc (.cells #[.int .i64 g] 3)
  have hT' := bT.alloc (.cells #[.int .i64 g] 3)
  have hLi : Hid (Inv st) := hi
  have hL0 := Lib.hid hl0
  refine range_moves (F := Fence.wide) (n := 10) (Mv := UpMv (w.heap.size + 1 + 1 + 1)) (Kp := UpKp w.heap.size (w.heap.size + 1 + 1) (w.heap.size + 1 + 1 + 1)) rfl (by omega) (gf := 57) (lb := #[.pointer (some ⟨w.heap.size + 1 + 1, 0, none⟩), .pointer (some ⟨w.heap.size + 1 + 1 + 1, 0, none⟩)]) rfl trivial (enters_of Try.func57 (by kernel_rfl) rfl)
    (up_moves (10 - 1) (by omega) (w.heap.size + 1 + 1) (w.heap.size + 1 + 1 + 1) w.heap.size B R n st g hi (by omega) (by omega) _ (by simp; omega) (hl0.below hB0) hT' bG) ?hmv (fun h k => h.trans k) ?hkb (by intro _; rfl)
    (fun (pre : List Nat) W => (((Boxed W w.heap.size 37 (.pointer (some ⟨B, 0, none⟩)) ∧ Boxed W (w.heap.size + 1) 3 (.int .i64 0)) ∧ (∀ c ∈ pre, (nd st c).off = true)) ∧ Below w.heap.size w W))
    (fun c (pre : List Nat) W => (c = .ret ∧ ∃ (ini : List Nat) (x : Nat), pre = ini ++ [x] ∧ (∀ c ∈ ini, (nd st c).off = true) ∧ (nd st x).off = false ∧ W.cell? ⟨w.heap.size + 1, 0, none⟩ = some (.int .i64 (x : Int))) ∧ Below w.heap.size w W)
    (OwnFrom.and (OwnFrom.and (OwnFrom.and (Own.from (boxed_own _ _ fun _ => _) _) (Own.from (boxed_own _ _ fun _ => _) _)) (fun _ _ _ _ h _ _ => h)) (ownFrom_below (Nat.le_refl _) (by simp; omega)))
    (fun c => OwnFrom.and (Own.from (fun s A B row hs hg hr => by obtain ⟨hc, ini, x, e1, e2, e3, e4⟩ := hs; exact ⟨hc, ini, x, e1, e2, e3, cell_kept e4 hg hr⟩) _) (ownFrom_below (Nat.le_refl _) (by simp; omega)))
    ?hIm ⟨⟨⟨hP', hA'⟩, by simp⟩, hB0⟩
    (fun x : Nat => { tmps := #[.pointer (some ⟨B, 0, none⟩), .int .i64 g, .pointer (some ⟨w.heap.size, 0, none⟩), undef, .pointer (some ⟨w.heap.size + 1, 0, none⟩), .int .i64 (x : Int), .pointer (some ⟨B, 0, none⟩), .int .i64 g, .func (.func 57) #[] #[.pointer (some ⟨w.heap.size + 1 + 1, 0, none⟩), .pointer (some ⟨w.heap.size + 1 + 1 + 1, 0, none⟩)], .int .i64 (x : Int), undef, undef, undef, undef], defers := [] }) ?assign ?body ?done ?stop
  case hmv =>
    rintro A B' k o ⟨u, rfl⟩ hk ho _
    simp only [World.size_alloc] at hk
    exact (Below.heap_setCell A ⟨w.heap.size + 1 + 1 + 1, 0, none⟩ u k (by show k ≠ w.heap.size + 1 + 1 + 1; omega)).trans ho
  case hkb =>
    intro W l o o' hl ho hc hw
    simp only [World.size_alloc] at hl
    exact ⟨belowK_b (w := w) (Nat.le_refl _) W l o o' (by omega) ho hc hw, World.putObj_heap_other (by omega), World.putObj_heap_other (by omega)⟩
  case hIm =>
    rintro s A B' ⟨⟨⟨hP, hA⟩, hs⟩, hB⟩ ⟨u, rfl⟩
    exact ⟨⟨⟨hP.other (by omega) u, hA.other (by omega) u⟩, hs⟩, hB.setCell (p := ⟨w.heap.size + 1 + 1 + 1, 0, none⟩) (by show _ ≤ w.heap.size + 1 + 1 + 1; omega) u⟩
  case assign =>
    intro l x W K hK
    gi_wp2
    exact hK
  case body =>
    rintro l pre x W ⟨⟨⟨hP, hA⟩, hp⟩, hB⟩ _
    have c1 := hP.cell
    have c2 := hA.cell
    have f2 := hA.frozen
    have hR := (hL0.out.below hB).rd
    have HR := Lib.hid hR
    have HP := Lib.hid hp
    have t39 : Fence.wide.fn 39 := trivial
    clear hp hR hP' hA' hT' bG bP bA bT hB0 hl0 h
    have hne : Hid (∀ u, UpKp w.heap.size (w.heap.size + 1 + 1) (w.heap.size + 1 + 1 + 1) W (W.setCell ⟨w.heap.size + 1, 0, none⟩ u)) := fun u =>
      ⟨(Below.refl _ _).setCell (p := ⟨w.heap.size + 1, 0, none⟩) (by show _ ≤ w.heap.size + 1; omega) u, Below.heap_setCell _ _ _ _ (by show w.heap.size + 1 + 1 ≠ w.heap.size + 1; omega), Below.heap_setCell _ _ _ _ (by show w.heap.size + 1 + 1 + 1 ≠ w.heap.size + 1; omega)⟩
    cases ho : (nd st x).off with
    | false =>
      have HO : Hid ((nd st ((x : Int)).toNat).off = false) := by unfold Hid; rw [Int.toNat_natCast]; exact ho
      have HO' := Lib.hid ho
      clear ho
      gi_wp2_with (gi_at_call 39; refine (CallsIn.inRound l (onlineC B R n _ st _ _ HR.out hLi)).mono ?_; rintro e w' ⟨rfl, rfl⟩; rw [HO.out])
      exact ⟨(KeepsOthers.setCell _ _ _).from _, ⟨rfl, pre, x, rfl, HP.out, HO'.out, (hA.set _).cell⟩, hB.setCell (p := ⟨w.heap.size + 1, 0, none⟩) (by show _ ≤ w.heap.size + 1; omega) _⟩
    | true =>
      have HO : Hid ((nd st ((x : Int)).toNat).off = true) := by unfold Hid; rw [Int.toNat_natCast]; exact ho
      have HO' := Lib.hid ho
      clear ho
      gi_wp2_with (gi_at_call 39; refine (CallsIn.inRound l (onlineC B R n _ st _ _ HR.out hLi)).mono ?_; rintro e w' ⟨rfl, rfl⟩; rw [HO.out])
      exact ⟨KeepsFrom.refl _ _, ⟨Below.refl _ _, rfl, rfl⟩, ⟨⟨hP, hA⟩, fun c hc => (List.mem_append.1 hc).elim (HP.out c) (fun e => by simp at e; subst e; exact HO'.out)⟩, hB⟩
  case done =>
    rintro D ys W hD rfl ⟨⟨⟨hP, hA⟩, hp⟩, hB⟩ hK
    have hD' : w.heap.size ≤ D := by simp at hD; omega
    have c2 := hA.cell
    have f2 := hA.frozen
    have HE := Lib.hid (heir_none hp)
    clear hp hP' hA' hT' bG bP bA bT hB0 hl0 h hD
    go_wp2
    have hK' := (KeepsOthers.setCell W ⟨w.heap.size + 1, 0, none⟩ (.int .i64 0)).same D _ hK rfl
    refine ⟨by simp, .inl ⟨_, _, rfl, run_takeDeferred hK', ?_⟩⟩
    have hc5 := cell_kept (hA.set (.int .i64 0)).cell (grownBy_putObj' _ D (.deferred none)) (fun r e => by cases e; exact ⟨_, hK', rfl⟩)
    refine ⟨.int .i64 0, ?_, by rw [HE.out]; rfl, (hB.setCell (p := ⟨w.heap.size + 1, 0, none⟩) (by show _ ≤ w.heap.size + 1; omega) _).trans (belowK_b (w := w) (Nat.le_refl _) _ D _ _ hD' hK' rfl rfl)⟩
    simp [results, Try.f38, go_sem, hc5]
  case stop =>
    rintro D c pre W hD ⟨rest, hpre⟩ ⟨⟨rfl, ini, x, e1, e2, e3, hc1⟩, hB⟩ hK
    have hD' : w.heap.size ≤ D := by simp at hD; omega
    have HE := Lib.hid (heir_some (st := st) (g := g.toNat) (rest := rest) (by rw [← hpre, e1]; simp) e2 e3)
    clear hpre e1 e2 e3 hP' hA' hT' bG bP bA bT hB0 hl0 h hD
    gi_wp2
    refine ⟨by simp, .inl ⟨_, _, rfl, run_takeDeferred hK, ?_⟩⟩
    have hc5 := cell_kept hc1 (grownBy_putObj' _ D (.deferred none)) (fun r e => by cases e; exact ⟨_, hK, rfl⟩)
    refine ⟨.int .i64 (x : Int), ?_, by rw [HE.out], hB.trans (belowK_b (w := w) (Nat.le_refl _) _ D _ _ hD' hK rfl rfl)⟩
    simp [results, Try.f38, go_sem, hc5]

theorem below_none {st : List Nd} {g : Nat} {top : Int} (h : ∀ x ∈ path st g, (x : Int) ≠ top) : belowF st g top = false := by
  unfold belowF; rw [List.any_eq_false]; intro x hx; simpa using h x hx
theorem below_some {st : List Nd} {g : Nat} {ini rest : List Nat} {x : Nat} {top : Int} (e : path st g = ini ++ x :: rest) (hx : (x : Int) = top) : belowF st g top = true := by
  unfold belowF; rw [List.any_eq_true]; exact ⟨x, by rw [e]; simp, by simpa using hx⟩

set_option maxRecDepth 100000 in
set_option maxHeartbeats 2000000 in
/-- t.Below(g, top) -/
theorem below_c (B R n : Nat) (st : List Nd) (g top : Int) (w : World) (h : TRd w B R n st) (hi : Inv st) :
    Calls Try.prog 37 #[.pointer (some ⟨B, 0, none⟩), .int .i64 g, .int .i64 top] w fun e W' => e = .returned (.bool (belowF st g.toNat top)) ∧ Below w.heap.size w W' := by
  have hl0 : TLow w.heap.size w B R n st := ⟨h, h.ltB, h.ltR⟩
  refine (callsIn_wide (n := 10)).1 (callsIn_of_wp_marks Try.func37 rfl trivial ?_ rfl)
  simp only [Try.ntmps37, List.size_toArray, List.length_cons, List.length_nil, Nat.reduceAdd, Nat.reduceSub, Array.replicate_succ, Array.replicate_zero, List.push_toArray, List.append_toArray, List.nil_append, List.cons_append]
  refine (wpIn_wide (n := 10)).2 ?_
  go_wp2_with (go_at_call 54; refine (up_c _ _ _).mono ?_; rintro e w' ⟨rfl, rfl⟩)
  refine (wpIn_wide (n := 10)).1 ?_
  have bP := Boxed.new w 3 (.int .i64 top)
  have bA := Boxed.new (w.alloc (.cells #[.int .i64 top] 3)) 4 (.bool false)
  have bT := Boxed.new ((w.alloc (.cells #[.int .i64 top] 3)).alloc (.cells #[.bool false] 4)) 37 (.pointer (some ⟨B, 0, none⟩))
  have bG := Boxed.new (((w.alloc (.cells #[.int .i64 top] 3)).alloc (.cells #[.bool false] 4)).alloc (.cells #[.pointer (some ⟨B, 0, none⟩)] 37)) 3 (.int .i64 g)
  simp only [World.size_alloc] at bA bT bG
  have hB0 : Below w.heap.size w ((((w.alloc (.cells #[.int .i64 top] 3)).alloc (.cells #[.bool false] 4)).alloc (.cells #[.pointer (some ⟨B, 0, none⟩)] 37)).alloc (.cells #[.int .i64 g] 3)) :=
    ((((Below.refl _ w).alloc (Nat.le_refl _) _).alloc (by simp) _).alloc (by simp; omega) _).alloc (by simp; omega) _
  have hP' := ((bP.alloc (.cells #[.bool false] 4)).alloc (.cells #[.pointer (some ⟨B, 0, none⟩)] 37)).alloc (.cells #[.int .i64 g] 3)
  have hA' := (bA.alloc (.cells #[.pointer (some ⟨B, 0, none⟩)] 37)).alloc (.cells #[.int .i64 g] 3)
  have hT' := bT.alloc (.cells #[.int .i64 g] 3)
  refine range_moves (F := Fence.wide) (n := 10) (Mv := UpMv (w.heap.size + 1 + 1 + 1)) (Kp := UpKp w.heap.size (w.heap.size + 1 + 1) (w.heap.size + 1 + 1 + 1)) rfl (by omega) (gf := 57) (lb := #[.pointer (some ⟨w.heap.size + 1 + 1, 0, none⟩), .pointer (some ⟨w.heap.size + 1 + 1 + 1, 0, none⟩)]) rfl trivial (enters_of Try.func57 (by kernel_rfl) rfl)
    (up_moves (10 - 1) (by omega) (w.heap.size + 1 + 1) (w.heap.size + 1 + 1 + 1) w.heap.size B R n st g hi (by omega) (by omega) _ (by simp; omega) (hl0.below hB0) hT' bG) ?hmv (fun h k => h.trans k) ?hkb (by intro _; rfl)
    (fun (pre : List Nat) W => (((Boxed W w.heap.size 3 (.int .i64 top) ∧ Boxed W (w.heap.size + 1) 4 (.bool false)) ∧ (∀ c ∈ pre, (c : Int) ≠ top)) ∧ Below w.heap.size w W))
    (fun c (pre : List Nat) W => (c = .ret ∧ ∃ (ini : List Nat) (x : Nat), pre = ini ++ [x] ∧ (∀ c ∈ ini, (c : Int) ≠ top) ∧ (x : Int) = top ∧ W.cell? ⟨w.heap.size + 1, 0, none⟩ = some (.bool true)) ∧ Below w.heap.size w W)
    (OwnFrom.and (OwnFrom.and (OwnFrom.and (Own.from (boxed_own _ _ fun _ => _) _) (Own.from (boxed_own _ _ fun _ => _) _)) (fun _ _ _ _ h _ _ => h)) (ownFrom_below (Nat.le_refl _) (by simp; omega)))
    (fun c => OwnFrom.and (Own.from (fun s A B row hs hg hr => by obtain ⟨hc, ini, x, e1, e2, e3, e4⟩ := hs; exact ⟨hc, ini, x, e1, e2, e3, cell_kept e4 hg hr⟩) _) (ownFrom_below (Nat.le_refl _) (by simp; omega)))
    ?hIm ⟨⟨⟨hP', hA'⟩, by simp⟩, hB0⟩
    (fun x : Nat => { tmps := #[.pointer (some ⟨B, 0, none⟩), .int .i64 g, .int .i64 top, undef, undef, .pointer (some ⟨w.heap.size, 0, none⟩), .pointer (some ⟨w.heap.size + 1, 0, none⟩), .int .i64 (x : Int), .pointer (some ⟨B, 0, none⟩), .int .i64 g, .func (.func 57) #[] #[.pointer (some ⟨w.heap.size + 1 + 1, 0, none⟩), .pointer (some ⟨w.heap.size + 1 + 1 + 1, 0, none⟩)], .int .i64 (x : Int), undef, undef, undef], defers := [] }) ?assign ?body ?done ?stop
  case hmv =>
    rintro A B' k o ⟨u, rfl⟩ hk ho _
    simp only [World.size_alloc] at hk
    exact (Below.heap_setCell A ⟨w.heap.size + 1 + 1 + 1, 0, none⟩ u k (by show k ≠ w.heap.size + 1 + 1 + 1; omega)).trans ho
  case hkb =>
    intro W l o o' hl ho hc hw
    simp only [World.size_alloc] at hl
    exact ⟨belowK_b (w := w) (Nat.le_refl _) W l o o' (by omega) ho hc hw, World.putObj_heap_other (by omega), World.putObj_heap_other (by omega)⟩
  case hIm =>
    rintro s A B' ⟨⟨⟨hP, hA⟩, hs⟩, hB⟩ ⟨u, rfl⟩
    exact ⟨⟨⟨hP.other (by omega) u, hA.other (by omega) u⟩, hs⟩, hB.setCell (p := ⟨w.heap.size + 1 + 1 + 1, 0, none⟩) (by show _ ≤ w.heap.size + 1 + 1 + 1; omega) u⟩
  case assign =>
    intro l x W K hK
    gi_wp2
    exact hK
  case body =>
    rintro l pre x W ⟨⟨⟨hP, hA⟩, hp⟩, hB⟩ _
    have c1 := hP.cell
    have c2 := hA.cell
    have f2 := hA.frozen
    have HP := Lib.hid hp
    clear hp hP' hA' hT' bG bP bA bT hB0 hl0 h
    by_cases hx : (x : Int) = top
    · have hxb : ((x : Int) == top) = true := by simpa using hx
      have HX := Lib.hid hx
      clear hx
      gi_wp2
      exact ⟨(KeepsOthers.setCell _ _ _).from _, ⟨rfl, pre, x, rfl, HP.out, HX.out, (hA.set _).cell⟩, hB.setCell (p := ⟨w.heap.size + 1, 0, none⟩) (by show _ ≤ w.heap.size + 1; omega) _⟩
    · have hxb : ((x : Int) == top) = false := by simpa using hx
      have HX := Lib.hid hx
      clear hx
      gi_wp2
      exact ⟨KeepsFrom.refl _ _, ⟨Below.refl _ _, rfl, rfl⟩, ⟨⟨hP, hA⟩, fun c hc => (List.mem_append.1 hc).elim (HP.out c) (fun e => by simp at e; subst e; exact HX.out)⟩, hB⟩
  case done =>
    rintro D ys W hD rfl ⟨⟨⟨hP, hA⟩, hp⟩, hB⟩ hK
    have hD' : w.heap.size ≤ D := by simp at hD; omega
    have c2 := hA.cell
    have f2 := hA.frozen
    have HE := Lib.hid (below_none hp)
    clear hp hP' hA' hT' bG bP bA bT hB0 hl0 h hD
    go_wp2
    have hK' := (KeepsOthers.setCell W ⟨w.heap.size + 1, 0, none⟩ (.bool false)).same D _ hK rfl
    refine ⟨by simp, .inl ⟨_, _, rfl, run_takeDeferred hK', ?_⟩⟩
    have hc5 := cell_kept (hA.set (.bool false)).cell (grownBy_putObj' _ D (.deferred none)) (fun r e => by cases e; exact ⟨_, hK', rfl⟩)
    refine ⟨.bool false, ?_, by rw [HE.out], (hB.setCell (p := ⟨w.heap.size + 1, 0, none⟩) (by show _ ≤ w.heap.size + 1; omega) _).trans (belowK_b (w := w) (Nat.le_refl _) _ D _ _ hD' hK' rfl rfl)⟩
    simp [results, Try.f37, go_sem, hc5]
  case stop =>
    rintro D c pre W hD ⟨rest, hpre⟩ ⟨⟨rfl, ini, x, e1, e2, e3, hc1⟩, hB⟩ hK
    have hD' : w.heap.size ≤ D := by simp at hD; omega
    have HE := Lib.hid (below_some (st := st) (g := g.toNat) (rest := rest) (ini := ini) (by rw [← hpre, e1]; simp) e3)
    clear hpre e1 e2 e3 hP' hA' hT' bG bP bA bT hB0 hl0 h hD
    gi_wp2
    refine ⟨by simp, .inl ⟨_, _, rfl, run_takeDeferred hK, ?_⟩⟩
    have hc5 := cell_kept hc1 (grownBy_putObj' _ D (.deferred none)) (fun r e => by cases e; exact ⟨_, hK, rfl⟩)
    refine ⟨.bool true, ?_, by rw [HE.out], hB.trans (belowK_b (w := w) (Nat.le_refl _) _ D _ _ hD' hK rfl rfl)⟩
    simp [results, Try.f37, go_sem, hc5]
end Go.Proofs.Ytooonjoiidcmgaa
