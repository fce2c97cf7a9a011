/- A tree's calls that turn it: New, Offline, Add. -/
import Derived.Test.YtooonjoiidcmgaaTreeA
import Derived.Deep.RegionLaw
import Derived.Deep.OwnRows
import Derived.IntWalk
namespace Go.Proofs.Ytooonjoiidcmgaa
open Go.RowKit Go.Shelf

/-- what lay, but for the blocks of S, lies as it lay -/
structure Turned (S : Nat → Prop) (w w' : World) : Prop where
  os : w'.os = w.os
  tape : w'.tape = w.tape
  output : w'.output = w.output
  size : w.heap.size ≤ w'.heap.size
  block : ∀ k, k < w.heap.size → ¬ S k → w'.heap[k]? = w.heap[k]?
theorem Turned.refl (S : Nat → Prop) (w : World) : Turned S w w := ⟨rfl, rfl, rfl, Nat.le_refl _, fun _ _ _ => rfl⟩
theorem Turned.trans {S : Nat → Prop} {a b c : World} (h : Turned S a b) (k : Turned S b c) : Turned S a c :=
  ⟨k.os.trans h.os, k.tape.trans h.tape, k.output.trans h.output, Nat.le_trans h.size k.size, fun i hi hs => (k.block i (Nat.lt_of_lt_of_le hi h.size) hs).trans (h.block i hi hs)⟩
theorem Turned.of_grown {S : Nat → Prop} {w w' : World} {row : Option Nat} (h : w.grownBy w' row) (hr : ∀ k, row = some k → S k) : Turned S w w' :=
  ⟨h.os, h.tape, h.output, h.size, fun k hk hs => h.block k hk (fun e => hs (hr k e.symm))⟩
theorem Turned.of_below {S : Nat → Prop} {w w' : World} (h : Below w.heap.size w w') : Turned S w w' := ⟨h.os, h.tape, h.output, h.size, fun k hk _ => h.block k hk⟩
theorem Turned.mono {S S' : Nat → Prop} {w w' : World} (h : Turned S w w') (hs : ∀ k, S k → S' k) : Turned S' w w' := ⟨h.os, h.tape, h.output, h.size, fun k hk hn => h.block k hk (fun e => hn (hs k e))⟩
theorem Turned.below {S : Nat → Prop} {w w' : World} (h : Turned S w w') (B : Nat) (hB : B ≤ w.heap.size) (hs : ∀ k, S k → B ≤ k) : Below B w w' :=
  ⟨h.os, h.tape, h.output, h.size, fun k hk => h.block k (by omega) (fun e => by have := hs k e; omega)⟩

theorem info67 : (Try.prog.info? 67).map (fun i => (i.zero, i.size, i.bytes)) = some (some (.agg #[.int .i64 0, .int .i64 0, .bool false]), 3, 24) := by kernel_rfl

theorem TAt.kept {W W' : World} {B R : Nat} {st : List Nd} {S : Nat → Prop} (h : TAt W B R st) (hg : Turned S W W') (hB : ¬ S B) (hR : ¬ S R) : TAt W' B R st := by
  obtain ⟨cap, hb, ho⟩ := h
  refine ⟨cap, (hg.block B hb.lt hB).trans hb, ?_⟩
  refine ⟨ho.1, ?_⟩
  rcases ho.2 with ⟨h', _⟩ | ⟨g, c, cur, h', h2, h3, h4⟩
  · simp at h'
  · refine .inr ⟨g, c, cur, h', h2, ?_, h4⟩
    simp only [Value.slice.injEq, Option.some.injEq, Addr.mk.injEq, and_true, true_and] at h'
    obtain ⟨rfl, rfl⟩ := h'
    exact (hg.block R (Array.getElem?_eq_some_iff.1 h3).1 hR).trans h3
theorem TAt.ne {W : World} {B R : Nat} {st : List Nd} (h : TAt W B R st) : B ≠ R := by
  obtain ⟨cap, hb, ho⟩ := h
  have := hb.not_row (by decide) ho
  intro e; subst e; exact this rfl

set_option maxHeartbeats 400000 in
theorem new_c (w : World) : Calls Try.prog 24 #[] w fun e w' => e = .returned (.pointer (some ⟨w.heap.size + 1, 0, none⟩)) ∧ TAt w' (w.heap.size + 1) w.heap.size [⟨0, 1, false⟩] ∧ Below w.heap.size w w' ∧ w'.heap.size = w.heap.size + 2 := by
  go_enter Try.func24, Try.ntmps24
  go_wp2
  go_ret
  refine ⟨rfl, ⟨1, ?_, ?_⟩, ((Below.refl _ w).alloc (Nat.le_refl _) _).alloc (by simp) _, by simp⟩
  · have := Boxed.new (w.alloc (.cells #[.int .i64 0, .int .i64 1, .bool false] 67)) 60 (.slice (some ⟨w.heap.size, 0, none⟩) 1 1)
    rwa [World.size_alloc] at this
  · have := World.ownsRow_lit (base := 0) (e := 67) (size := 3) w #[.int .i64 0, .int .i64 1, .bool false] 1 (Nat.zero_le _) (by unfold maxLen; omega) rfl
    exact this.alloc _

theorem cellsT_set (st : List Nd) : ∀ (i : Nat) (d : Nd), i < st.length → d.parent = (st[i]?.getD ⟨0, 0, true⟩).parent → d.depth = (st[i]?.getD ⟨0, 0, true⟩).depth → (cellsT st).set (i * 3 + 2) (.bool d.off) = cellsT (st.set i d) := by
  induction st with
  | nil => intro i d h; simp at h
  | cons x st ih =>
    intro i d h h1 h2
    cases i with
    | zero => simp only [List.getElem?_cons_zero, Option.getD_some] at h1 h2; simp [cellsT, h1, h2]
    | succ i =>
      have := ih i d (by simpa using h) (by simpa using h1) (by simpa using h2)
      rw [List.set_cons_succ]
      rw [show (i + 1) * 3 + 2 = i * 3 + 2 + 3 by omega]
      show _ :: _ :: _ :: (cellsT st).set (i * 3 + 2) (.bool d.off) = _
      rw [this]; rfl

set_option maxHeartbeats 800000 in
theorem off_c (B R : Nat) (st : List Nd) (g : Int) (w : World) (h : TAt w B R st) (hi : Inv st) :
    Calls Try.prog 28 #[.pointer (some ⟨B, 0, none⟩), .int .i64 g] w fun e w' => e = .returned (.int .i64 ((offF st g.toNat).2 : Int)) ∧ TAt w' B R (offF st g.toNat).1 ∧ Turned (fun k => k = R) w w' := by
  have hr := h.rd
  have hn1 := hi.some
  have hn2 := hi.few
  obtain ⟨cap, hc⟩ := hr.box
  have HT := Lib.hid h
  have hT0 : Turned (fun k => k = R) w w := Turned.refl _ _
  have HT0 := Lib.hid hT0
  clear hT0
  by_cases hg : 1 ≤ g ∧ g ≤ st.length
  · obtain ⟨k, rfl⟩ := Int.eq_ofNat_of_zero_le (show 0 ≤ g by omega)
    rw [Int.toNat_natCast]
    have hk1 : 1 ≤ k := by omega
    have hk2 : k ≤ st.length := by omega
    obtain ⟨c0, c1, c2⟩ := hr.cell k hk1 hk2
    by_cases h1 : k = 1
    · have E := Lib.hid (show offF st k = (st, 292) by unfold offF; rw [if_neg (by omega), if_pos (.inl h1)])
      subst h1
      clear c0 c1 c2 hr h hi
      go_enter Try.func28, Try.ntmps28
      go_wp2_with (first | (go_at_call 43; refine (none_c B R st.length cap _ hc hn1).mono ?_; rintro e w' ⟨rfl, rfl⟩) | (go_at_call 44; refine (of_in B R st.length cap 1 _ hc hk1 hk2 hn2).mono ?_; rintro e w' ⟨rfl, rfl⟩))
      go_ret
      exact ⟨by rw [E.out]; rfl, by rw [E.out]; exact HT.out, HT0.out⟩
    · have hk1' : ((k : Int) == 1) = false := by simp; omega
      cases ho : (nd st k).off with
      | true =>
        have E := Lib.hid (show offF st k = (st, 292) by unfold offF; rw [if_neg (by omega), if_pos (.inr ho)])
        rw [ho] at c2
        clear c0 c1 hr h hi ho
        go_enter Try.func28, Try.ntmps28
        go_wp2_with (first | (go_at_call 43; refine (none_c B R st.length cap _ hc hn1).mono ?_; rintro e w' ⟨rfl, rfl⟩) | (go_at_call 44; refine (of_in B R st.length cap k _ hc hk1 hk2 hn2).mono ?_; rintro e w' ⟨rfl, rfl⟩))
        go_ret
        exact ⟨by rw [E.out]; rfl, by rw [E.out]; exact HT.out, HT0.out⟩
      | false =>
        have E := Lib.hid (show offF st k = (st.set (k - 1) { nd st k with off := true }, 0) by unfold offF; rw [if_neg (by omega), if_neg (by rw [ho]; simp; exact h1)])
        rw [ho] at c2
        obtain ⟨cap', hb, hrow⟩ := HT.out
        have hf := hrow.frozenAt ((k - 1) * 3 + 2)
        have HS := Lib.hid (hrow.stored ((k - 1) * 3 + 2) (.bool true))
        have HC := Lib.hid (cellsT_set st (k - 1) { nd st k with off := true } (by omega) (by rw [nd_in hk1 hk2]; rfl) (by rw [nd_in hk1 hk2]; rfl))
        have HN := Lib.hid h.ne
        have HB := Lib.hid hb
        clear c0 c1 hr h hi ho hb hrow
        go_enter Try.func28, Try.ntmps28
        go_wp2_with (first | (go_at_call 43; refine (none_c B R st.length cap _ hc hn1).mono ?_; rintro e w' ⟨rfl, rfl⟩) | (go_at_call 44; refine (of_in B R st.length cap k _ hc hk1 hk2 hn2).mono ?_; rintro e w' ⟨rfl, rfl⟩))
        go_ret
        refine ⟨by rw [E.out]; rfl, ?_, Turned.of_grown HS.out.2 (fun k e => by cases e; rfl)⟩
        rw [E.out]
        refine ⟨cap', ?_, ?_⟩
        · rw [List.length_set]; exact HB.out.kept HS.out.2 (fun e => HN.out (by cases e; rfl))
        · have := HS.out.1; rw [HC.out] at this; rw [List.length_set]; exact this
  · have E := Lib.hid (show offF st g.toNat = (st, 110) by unfold offF; rw [if_pos (by omega)])
    have hg' : g < 1 ∨ (st.length : Int) < g := by omega
    clear hg hr h hi
    go_enter Try.func28, Try.ntmps28
    go_wp2_with (first | (go_at_call 43; refine (none_c B R st.length cap _ hc hn1).mono ?_; rintro e w' ⟨rfl, rfl⟩) | (go_at_call 44; refine (of_out B R st.length cap g _ hc hg' hn1 hn2).mono ?_; rintro e w' ⟨rfl, rfl⟩))
    go_ret
    exact ⟨by rw [E.out]; rfl, by rw [E.out]; exact HT.out, HT0.out⟩

theorem cellsT_snoc (st : List Nd) (d : Nd) : cellsT (st ++ [d]) = cellsT st ++ [.int .i64 (d.parent : Int), .int .i64 (d.depth : Int), .bool d.off] := by simp [cellsT]

/-- behind Add: the tree lies on, in its block of groups or in a new one -/
def AddPost (B R : Nat) (st : List Nd) (w w' : World) : Prop := ∃ R', TAt w' B R' st ∧ (R' = R ∨ w.heap.size ≤ R') ∧ Turned (fun k => k = B ∨ k = R) w w'

theorem add_end {B R gg cp cap k d : Nat} {st : List Nd} {w w1 : World} {o : Obj} (hb : Boxed w B 60 (.slice (some ⟨R, 0, none⟩) st.length cap)) (hBR : some B ≠ some R)
    (hown1 : w1.ownsRow 0 67 3 (.slice (some ⟨gg, 0, none⟩) (st.length + 1) cp) (st.length + 1) (cellsT st ++ [.int .i64 (k : Int), .int .i64 ((d : Int) + 1), .bool false]))
    (hgrow : (w.alloc o).drew.grownBy w1 (some R)) (hat : some R = some gg ∨ gg = w.heap.size + 1) :
    AddPost B R (st ++ [⟨k, d + 1, false⟩]) w (w1.setCell ⟨B, 0, none⟩ (.slice (some ⟨gg, 0, none⟩) (st.length + 1) cp)) := by
  have hb1 := Boxed.kept (W := (w.alloc o).drew) (hb.alloc o) hgrow hBR
  have hBl := hb.lt
  have hBg : some B ≠ some gg := by
    rcases hat with h | h
    · rw [← h]; exact hBR
    · intro e; cases e; omega
  have hl : (st ++ [(⟨k, d + 1, false⟩ : Nd)]).length = st.length + 1 := by simp
  have hs := grownBy_setCell' w1 B (.slice (some ⟨gg, 0, none⟩) (st.length + 1) cp)
  refine ⟨gg, ⟨cp, ?_, ?_⟩, ?_, ?_⟩
  · rw [hl]; exact hb1.set _
  · rw [hl, cellsT_snoc]
    have := hown1.kept hs (.inr (fun e => hBg (by simpa [Value.ownBlock] using e.symm)))
    simpa using this
  · rcases hat with h | h
    · left; cases h; rfl
    · right; omega
  · have t1 : Turned (fun k => k = B ∨ k = R) w (w.alloc o) := Turned.of_below ((Below.refl _ w).alloc (Nat.le_refl _) o)
    have t2 : Turned (fun k => k = B ∨ k = R) (w.alloc o) w1 := by
      have := Turned.of_grown (S := fun k => k = B ∨ k = R) hgrow (fun k e => by cases e; exact .inr rfl)
      exact ⟨this.os, this.tape, this.output, this.size, this.block⟩
    have t3 := Turned.of_grown (S := fun k => k = B ∨ k = R) hs (fun k e => by cases e; exact .inl rfl)
    exact (t1.trans t2).trans t3

set_option maxRecDepth 100000 in
set_option maxHeartbeats 2000000 in
theorem add_c (B R : Nat) (st : List Nd) (p : Int) (w : World) (h : TAt w B R st) (hi : Inv st) :
    Calls Try.prog 26 #[.pointer (some ⟨B, 0, none⟩), .int .i64 p] w fun e w' => e = .returned (.tuple #[.int .i64 ((addF st p.toNat).2.1 : Int), .int .i64 ((addF st p.toNat).2.2 : Int)]) ∧ AddPost B R (addF st p.toNat).1 w w' := by
  obtain ⟨i0, hi0, hz0, hz1, hz2⟩ := info_parts info67
  have hr := h.rd
  have hn1 := hi.some
  have hn2 := hi.few
  obtain ⟨cap, hc⟩ := hr.box
  have HT0 : Hid (AddPost B R st w w) := ⟨R, h, .inl rfl, Turned.refl _ _⟩
  by_cases hg : 1 ≤ p ∧ p ≤ st.length
  · obtain ⟨k, rfl⟩ := Int.eq_ofNat_of_zero_le (show 0 ≤ p by omega)
    rw [Int.toNat_natCast]
    have hk1 : 1 ≤ k := by omega
    have hk2 : k ≤ st.length := by omega
    obtain ⟨c0, c1, c2⟩ := hr.cell k hk1 hk2
    cases ho : (nd st k).off with
    | true =>
      have E := Lib.hid (show addF st k = (st, 0, 110) by unfold addF; rw [if_pos ho])
      rw [ho] at c2
      clear c0 c1 hr h hi ho
      go_enter Try.func26, Try.ntmps26
      go_wp2_with (first | (go_at_call 43; refine (none_c B R st.length cap _ hc hn1).mono ?_; rintro e w' ⟨rfl, rfl⟩) | (go_at_call 44; refine (of_in B R st.length cap k _ hc hk1 hk2 hn2).mono ?_; rintro e w' ⟨rfl, rfl⟩))
      go_ret2
      exact ⟨by rw [E.out]; rfl, by rw [E.out]; exact HT0.out⟩
    | false =>
      have hd8 := hi.depth_le k
      by_cases hlim : st.length = 16 ∨ (nd st k).depth = 8
      · have E := Lib.hid (show addF st k = (st, 0, 5) by unfold addF; rw [if_neg (by rw [ho]; simp), if_pos hlim])
        rw [ho] at c2
        by_cases hl : st.length = 16
        · have hlb : ((st.length : Int) == 16) = true := by simp; omega
          clear c0 hr h hi ho hlim hl
          go_enter Try.func26, Try.ntmps26
          go_wp2_with (first | (go_at_call 43; refine (none_c B R st.length cap _ hc hn1).mono ?_; rintro e w' ⟨rfl, rfl⟩) | (go_at_call 44; refine (of_in B R st.length cap k _ hc hk1 hk2 hn2).mono ?_; rintro e w' ⟨rfl, rfl⟩))
          go_ret2
          exact ⟨by rw [E.out]; rfl, by rw [E.out]; exact HT0.out⟩
        · have hlb : ((st.length : Int) == 16) = false := by simp; omega
          have hdb : (((nd st k).depth : Int) == 8) = true := by simp; omega
          clear c0 hr h hi ho hlim hl
          go_enter Try.func26, Try.ntmps26
          go_wp2_with (first | (go_at_call 43; refine (none_c B R st.length cap _ hc hn1).mono ?_; rintro e w' ⟨rfl, rfl⟩) | (go_at_call 44; refine (of_in B R st.length cap k _ hc hk1 hk2 hn2).mono ?_; rintro e w' ⟨rfl, rfl⟩))
          go_ret2
          exact ⟨by rw [E.out]; rfl, by rw [E.out]; exact HT0.out⟩
      · have E := Lib.hid (show addF st k = (st ++ [⟨k, (nd st k).depth + 1, false⟩], st.length + 1, 0) by unfold addF; rw [if_neg (by rw [ho]; simp), if_neg hlim])
        have hlb : ((st.length : Int) == 16) = false := by simp; omega
        have hdb : (((nd st k).depth : Int) == 8) = false := by simp; omega
        rw [ho] at c2
        obtain ⟨cap', hb, hrow⟩ := h
        have hcc : cap' = cap := by
          have := hb.cell; rw [hc] at this
          simp only [Option.some.injEq, Value.slice.injEq, true_and] at this; exact this.symm
        subst hcc
        have hBR : some B ≠ some R := hb.not_row (by decide) hrow
        have HBX := Lib.hid hb
        have hfB := hb.frozen
        have hBl := hb.lt
        clear c0 hr hi ho hlim
        generalize (nd st k).depth = d at *
        go_enter Try.func26, Try.ntmps26
        go_wp2_with (first | (go_at_call 43; refine (none_c B R st.length cap' _ hc hn1).mono ?_; rintro e w' ⟨rfl, rfl⟩) | (go_at_call 44; refine (of_in B R st.length cap' k _ hc hk1 hk2 hn2).mono ?_; rintro e w' ⟨rfl, rfl⟩))
        have hwr : IntKind.i64.wrap ((d : Int) + 1) = (d : Int) + 1 := IntWalk.i64_in _ (by omega)
        go_region_law (refine step_append_lies _ (by rfl) _ _ 58 (by rfl) 0 67 i0 (.agg #[.int .i64 0, .int .i64 0, .bool false]) 3 24 Try.underlying58 hi0 hz0 hz1 hz2 rfl (by decide) (.slice (some ⟨R, 0, none⟩) st.length cap') st.length (cellsT st) (by rfl) ((hrow.alloc _).drew) ⟨w.heap.size, 0, none⟩ 1 1 [.int .i64 (k : Int), .int .i64 ((d : Int) + 1), .bool false] (by rfl) (by rfl) (World.news_of_block (cs := #[.int .i64 (k : Int), .int .i64 ((d : Int) + 1), .bool false]) (t := 67) (fr := (0, 0)) (heap_alloc_new w _)) (by simp [Value.oneCell']) (by omega) (by unfold maxLen; omega) (by omega) (Nat.zero_le _) (w.heap.size + 1) (by simp) ?_; intro gg cp w1 hown1 hgrow hat hlt; have hb1 := Boxed.kept (W := (w.alloc (.cells #[.int .i64 (k : Int), .int .i64 ((d : Int) + 1), .bool false] 67)).drew) (HBX.out.alloc _) hgrow hBR; have hcB1 := hb1.cell; have hfB1 := hb1.frozen)
        all_goals
          have HE := Lib.hid (add_end HBX.out hBR hown1 hgrow hat)
          clear hgrow hat hown1
          go_wp2
          go_ret2
          exact ⟨by rw [E.out]; rfl, by rw [E.out]; exact HE.out⟩
  · have E := Lib.hid (show addF st p.toNat = (st, 0, 110) by unfold addF; rw [nd_out (by omega)]; rfl)
    have hg' : p < 1 ∨ (st.length : Int) < p := by omega
    clear hg hr h hi
    go_enter Try.func26, Try.ntmps26
    go_wp2_with (first | (go_at_call 43; refine (none_c B R st.length cap _ hc hn1).mono ?_; rintro e w' ⟨rfl, rfl⟩) | (go_at_call 44; refine (of_out B R st.length cap p _ hc hg' hn1 hn2).mono ?_; rintro e w' ⟨rfl, rfl⟩))
    go_ret2
    exact ⟨by rw [E.out]; rfl, by rw [E.out]; exact HT0.out⟩
end Go.Proofs.Ytooonjoiidcmgaa
