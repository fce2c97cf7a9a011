/- The walk of the closed statement TreeKnown: true. -/
import Derived.Test.YtooonjoiidcmgaaTreeS
namespace Go.Proofs.Ytooonjoiidcmgaa
open Go.RowKit Go.Shelf

def cellsD (xs : List (Int × Int)) : List Value := xs.flatMap fun d => [.int .i64 d.1, .int .i64 d.2]
theorem cellsD_snoc (xs : List (Int × Int)) (d : Int × Int) : cellsD (xs ++ [d]) = cellsD xs ++ [.int .i64 d.1, .int .i64 d.2] := by simp [cellsD]
theorem cellsD_append (xs ys : List (Int × Int)) : cellsD (xs ++ ys) = cellsD xs ++ cellsD ys := by simp [cellsD]
theorem cellsD_length (xs : List (Int × Int)) : (cellsD xs).length = xs.length * 2 := by
  induction xs with
  | nil => rfl
  | cons d xs ih => simp [cellsD] at ih ⊢; omega
theorem cellsD_one (xs : List (Int × Int)) : ∀ u ∈ cellsD xs, u.oneCell' = true := by
  intro u hu
  simp only [cellsD, List.mem_flatMap] at hu
  obtain ⟨d, _, hu⟩ := hu
  simp at hu
  rcases hu with rfl | rfl <;> rfl
theorem cellsD_get (xs : List (Int × Int)) : ∀ j, j < xs.length → (cellsD xs)[j * 2]? = some (.int .i64 (xs[j]?.getD (0, 0)).1) ∧ (cellsD xs)[j * 2 + 1]? = some (.int .i64 (xs[j]?.getD (0, 0)).2) := by
  induction xs with
  | nil => intro j h; simp at h
  | cons d xs ih =>
    intro j h
    cases j with
    | zero => exact ⟨rfl, rfl⟩
    | succ j =>
      have := ih j (by simpa using h)
      have e1 : (cellsD (d :: xs))[(j + 1) * 2]? = (cellsD xs)[j * 2]? := by
        show ((.int .i64 d.1 : Value) :: .int .i64 d.2 :: cellsD xs)[(j + 1) * 2]? = _
        rw [show (j + 1) * 2 = j * 2 + 1 + 1 by omega]; rfl
      have e2 : (cellsD (d :: xs))[(j + 1) * 2 + 1]? = (cellsD xs)[j * 2 + 1]? := by
        show ((.int .i64 d.1 : Value) :: .int .i64 d.2 :: cellsD xs)[(j + 1) * 2 + 1]? = _
        rw [show (j + 1) * 2 + 1 = j * 2 + 1 + 1 + 1 by omega]; rfl
      rw [e1, e2]
      simpa using this
theorem add_plain0 (b off j : Nat) : (⟨b, off, none⟩ : Addr).add j = ⟨b, off + j, none⟩ := by
  unfold Addr.add; split
  · rename_i h; subst h; rfl
  · rfl
/-- an own list of Dos -/
def DoRow (base : Nat) (w : World) (v : Value) (n : Nat) : Prop := ∃ xs, xs.length = n ∧ w.ownsRow base 42 2 v n (cellsD xs)
theorem DoRow.nil (base : Nat) (w : World) : DoRow base w (.slice none 0 0) 0 := ⟨[], rfl, World.ownsRow_nil _ _ _ _⟩
theorem DoRow.at {base : Nat} {w : World} {v : Value} {n : Nat} (h : DoRow base w v n) : ∃ a cap D, v = .slice a n cap ∧ DoAt w.heap.size w a n D := by
  obtain ⟨xs, rfl, h⟩ := h
  by_cases h0 : xs.length = 0
  · rcases h.2 with ⟨rfl, _⟩ | ⟨g, cap, cur, rfl, _⟩
    · exact ⟨none, 0, fun _ => (0, 0), by rw [h0], fun j hj => by omega⟩
    · exact ⟨_, cap, fun _ => (0, 0), rfl, fun j hj => by omega⟩
  · obtain ⟨g, cap, rfl, _, hg⟩ := h.form (by omega)
    refine ⟨_, cap, fun j => xs[j]?.getD (0, 0), rfl, fun j hj => ⟨g, 0, rfl, hg, ?_⟩⟩
    obtain ⟨c1, c2⟩ := cellsD_get xs j hj
    rw [Nat.zero_add]
    exact ⟨(h.cellAt _ (by omega)).trans c1, (h.cellAt _ (by omega)).trans c2⟩
theorem kept_sep {w w' : World} {base : Nat} {e : TypeId} {size : Nat} {v : Value} {n : Nat} {xs : List Value} {u : Option Nat} (h : w.ownsRow base e size v n xs) (hg : w.grownBy w' u) (hs : ∀ b, v.ownBlock = some b → u ≠ some b) : w'.ownsRow base e size v n xs :=
  h.kept hg (by
    rcases h.2 with ⟨rfl, _⟩ | ⟨g, cap, cur, rfl, _⟩
    · exact .inl rfl
    · exact .inr (fun e => hs g rfl e.symm))
theorem DoRow.kept {w w' : World} {base : Nat} {v : Value} {n : Nat} {u : Option Nat} (h : DoRow base w v n) (hg : w.grownBy w' u) (hs : ∀ b, v.ownBlock = some b → u ≠ some b) : DoRow base w' v n := by
  obtain ⟨xs, hl, h⟩ := h
  exact ⟨xs, hl, kept_sep h hg hs⟩
theorem DoRow.alloc {w : World} {base : Nat} {v : Value} {n : Nat} (h : DoRow base w v n) (o : Obj) : DoRow base (w.alloc o) v n := by
  obtain ⟨xs, hl, h⟩ := h
  exact ⟨xs, hl, h.alloc o⟩
theorem DoRow.below {w w' : World} {base : Nat} {v : Value} {n : Nat} (h : DoRow base w v n) (hb : Below w.heap.size w w') : DoRow base w' v n := by
  obtain ⟨xs, hl, h⟩ := h
  exact ⟨xs, hl, owns_below h hb⟩
theorem DoRow.lt {w : World} {base : Nat} {v : Value} {n : Nat} (h : DoRow base w v n) {b : Nat} (e : v.ownBlock = some b) : base ≤ b ∧ b < w.heap.size := by
  obtain ⟨xs, hl, h⟩ := h
  exact h.lt b e
theorem info42 : (Try.prog.info? 42).map (fun i => (i.zero, i.size, i.bytes)) = some (some (.agg #[.int .i64 0, .int .i64 0]), 2, 16) := by kernel_rfl

/-- what the laws answer of such a list -/
theorem plays_row {base : Nat} {w : World} {v : Value} {n : Nat} (h : DoRow base w v n) (hn : n ≤ maxLen) : Calls Try.prog 9 #[v] w fun e w' => e = .returned (.bool true) ∧ Below w.heap.size w w' := by
  obtain ⟨a, cap, D, rfl, hD⟩ := h.at
  exact plays_walk a n cap D w hn hD
theorem paths_row {base : Nat} {w : World} {v : Value} {n : Nat} (h : DoRow base w v n) (hn : n ≤ maxLen) : Calls Try.prog 10 #[v] w fun e w' => e = .returned (.bool true) ∧ Below w.heap.size w w' := by
  obtain ⟨a, cap, D, rfl, hD⟩ := h.at
  exact paths_walk a n cap D w hn hD
theorem heirs_row {base : Nat} {w : World} {v : Value} {n : Nat} (h : DoRow base w v n) (hn : n ≤ maxLen) : Calls Try.prog 11 #[v] w fun e w' => e = .returned (.bool true) ∧ Below w.heap.size w w' := by
  obtain ⟨a, cap, D, rfl, hD⟩ := h.at
  exact heirs_walk a n cap D w hn hD

set_option maxRecDepth 100000 in
set_option maxHeartbeats 8000000 in
theorem tknown_walk (w : World) : Calls Try.prog 13 #[] w fun e w' => e = .returned (.bool true) ∧ Below w.heap.size w w' := by
  obtain ⟨i0, hi0, z1, z2, z3⟩ := info_parts info42
  go_enter Try.func13, Try.ntmps13
  go_wp2_with fail
  go_loopw [2, 1] (fun i v wr => ∃ k : Nat, k ≤ 2 ∧ i = .int .i64 k ∧ (∃ t, v = .pointer t ∧ EmptyT wr.heap.size wr t) ∧ Below w.heap.size w wr) (fun i _ _ => 2 - (intOf i).toNat)
  case atStart => exact ⟨0, by omega, rfl, ⟨none, rfl, .inl rfl⟩, Below.refl _ _⟩
  case round =>
    obtain ⟨k, hk, rfl, ⟨t, rfl, hE⟩, hB⟩ := hrel
    have HE := Lib.hid hE
    have HB := Lib.hid hB
    clear hE hB
    by_cases hlt : k < 2
    · go_wp2_with (first
        | (go_at_call 26; refine (add_e 1 HE.out).mono ?_; rintro e w' ⟨rfl, rfl⟩)
        | (go_at_call 28; refine (off_e 1 HE.out).mono ?_; rintro e w' ⟨rfl, rfl⟩)
        | (go_at_call 36; refine (parent_e 1 HE.out).mono ?_; rintro e w' ⟨rfl, rfl⟩)
        | (go_at_call 35; refine (depth_e 1 HE.out).mono ?_; rintro e w' ⟨rfl, rfl⟩))
      refine (heir_e 1 _ HE.out).mono ?_
      rintro e w1 ⟨rfl, hb⟩
      have HE1 := Lib.hid ((HE.out.below hb).low hb.size)
      have HB1 := Lib.hid (below_then HB.out (below_low hb HB.out.size))
      clear HE HB hb
      go_wp2_with (first
        | (go_at_call 33; refine (many_e HE1.out).mono ?_; rintro e w' ⟨rfl, rfl⟩))
      refine (path_e 1 _ HE1.out).mono ?_
      rintro e w2 ⟨a, cap, rfl, hb⟩
      have HE2 := Lib.hid ((HE1.out.below hb).low hb.size)
      have HB2 := Lib.hid (below_then HB1.out (below_low hb HB1.out.size))
      clear HE1 HB1 hb
      go_wp2_with (first
        | (go_at_call 39; refine (online_e 1 HE2.out).mono ?_; rintro e w' ⟨rfl, rfl⟩))
      refine (below_e 1 1 _ HE2.out).mono ?_
      rintro e w3 ⟨rfl, hb⟩
      have HE3 := Lib.hid ((HE2.out.below hb).low hb.size)
      have HB3 := Lib.hid (below_then HB2.out (below_low hb HB2.out.size))
      clear HE2 HB2 hb
      go_wp2
      go_roundw
      case rel => exact ⟨k + 1, by omega, by go_num, ⟨_, rfl, .inr ⟨w3.heap.size, rfl, by simp, cell_lit w3 _ _ 0⟩⟩, HB3.out.alloc HB3.out.size _⟩
      case measure => simp [intOf]; omega
    · have d1 : decide ((k : Int) < 2) = false := decide_eq_false (by omega)
      have hs0 := HB.out.size
      go_wp2_with fail
      clear d1
      go_loopw [7, 5, 6] (fun i v5 v6 wr => ∃ k : Nat, k ≤ 20 ∧ i = .int .i64 k ∧ (∃ s5 s6, s5 = v5 ∧ s6 = v6 ∧ DoRow w.heap.size wr s5 k ∧ DoRow w.heap.size wr s6 k ∧ (∀ b, s5.ownBlock = some b → s6.ownBlock ≠ some b)) ∧ Below w.heap.size w wr) (fun i _ _ _ => 20 - (intOf i).toNat)
      case atStart => exact ⟨0, by omega, rfl, ⟨_, _, rfl, rfl, DoRow.nil _ _, DoRow.nil _ _, fun b e => by cases e⟩, HB.out⟩
      case round =>
        clear HE HB hs0
        obtain ⟨k, hk, rfl, ⟨s5, s6, rfl, rfl, h5, h6, hsep⟩, hB⟩ := hrel
        by_cases hlt2 : k < 20
        · have HB := Lib.hid hB
          have H6 := Lib.hid h6
          have HSEP := Lib.hid hsep
          obtain ⟨xs, hxl, hrow⟩ := h5
          have HXL := Lib.hid hxl
          have hbs := hB.size
          clear hB h6 hsep hxl
          go_wp2_with (at_builtin; refine wpList_append_lies _ rfl _ _ 36 rfl w.heap.size 42 i0 (.agg #[.int .i64 0, .int .i64 0]) 2 16 Try.underlying36 hi0 z1 z2 z3 rfl (by decide) _ _ _ rfl (hrow.alloc _) ⟨wr.heap.size, 0, none⟩ 1 1 [.int .i64 0, .int .i64 (k : Int)] rfl rfl (World.news_of_block (cs := #[.int .i64 0, .int .i64 (k : Int)]) (t := 42) (fr := (0, 0)) (heap_alloc_new wr _)) (by simp [Value.oneCell']) (by omega) (by unfold maxLen; omega) (by omega) (by rw [World.size_alloc]; omega) (wr.heap.size + 1) (by simp) ?_)
          intro g cap1 w1 hown1 hgrow1 hat1 hlt1
          have hsz1 := hgrow1.size
          rw [World.size_alloc] at hsz1
          have H5 : Hid (DoRow w.heap.size w1 (.slice (some ⟨g, 0, none⟩) (k + 1) cap1) (k + 1)) := ⟨xs ++ [(0, (k : Int))], by rw [List.length_append, HXL.out]; rfl, by rw [cellsD_snoc]; exact hown1⟩
          have h6' : DoRow w.heap.size w1 s6 k := (H6.out.alloc _).kept hgrow1 (fun b e h => HSEP.out b h e)
          have HG6 : Hid (∀ b, s6.ownBlock = some b → g ≠ b) := fun b e => by
            have := (H6.out.lt e).2
            rcases hat1 with h | h
            · intro e2; subst e2; exact HSEP.out g h e
            · omega
          have HB1 : Hid (Below w.heap.size w w1) := (HB.out.alloc hbs _).grown hgrow1 (by rw [World.size_alloc]; omega) (fun j e => (hrow.lt j e).1)
          obtain ⟨ys, hyl, hrow6⟩ := h6'
          have HYL := Lib.hid hyl
          clear hown1 hgrow1 hat1 hrow hyl HXL H6 HSEP HB
          go_wp2_with (at_builtin; refine wpList_append_lies _ rfl _ _ 36 rfl w.heap.size 42 i0 (.agg #[.int .i64 0, .int .i64 0]) 2 16 Try.underlying36 hi0 z1 z2 z3 rfl (by decide) _ _ _ rfl (hrow6.alloc _) ⟨w1.heap.size, 0, none⟩ 1 1 [.int .i64 0, .int .i64 1] rfl rfl (World.news_of_block (cs := #[.int .i64 0, .int .i64 1]) (t := 42) (fr := (0, 0)) (heap_alloc_new w1 _)) (by simp [Value.oneCell']) (by omega) (by unfold maxLen; omega) (by omega) (by rw [World.size_alloc]; omega) (w1.heap.size + 1) (by simp) ?_)
          intro g2 cap2 w2 hown2 hgrow2 hat2 hlt2'
          have H6b : Hid (DoRow w.heap.size w2 (.slice (some ⟨g2, 0, none⟩) (k + 1) cap2) (k + 1)) := ⟨ys ++ [(0, 1)], by rw [List.length_append, HYL.out]; rfl, by rw [cellsD_snoc]; exact hown2⟩
          have H5b : Hid (DoRow w.heap.size w2 (.slice (some ⟨g, 0, none⟩) (k + 1) cap1) (k + 1)) := (H5.out.alloc _).kept hgrow2 (fun b e h => by cases e; exact HG6.out _ h rfl)
          have HS2 : Hid (g ≠ g2) := by
            unfold Hid
            rcases hat2 with h | h
            · exact HG6.out _ h
            · omega
          have HB2 : Hid (Below w.heap.size w w2) := (HB1.out.alloc HB1.out.size _).grown hgrow2 (by rw [World.size_alloc]; omega) (fun j e => (hrow6.lt j e).1)
          clear hown2 hgrow2 hat2 hrow6 HB1 H5 HG6 HYL
          go_wp2
          go_roundw
          case rel => exact ⟨k + 1, by omega, by go_num, ⟨_, _, rfl, rfl, H5b.out, H6b.out, fun b e h => by cases e; cases h; exact HS2.out rfl⟩, HB2.out⟩
          case measure => simp [intOf]; omega
        · obtain rfl : k = 20 := by omega
          have HB := Lib.hid hB
          have H6 := Lib.hid h6
          have H5 := Lib.hid h5
          obtain ⟨xs, hxl, hrow⟩ := h5
          obtain ⟨g5, cap5, rfl, _, hg5⟩ := hrow.form (by omega)
          have hbs := hB.size
          have HSRC : Hid (∀ j u, (cellsD xs)[j]? = some u → (wr.alloc (.cells #[] 42)).cell? ((⟨g5, 0, none⟩ : Addr).add j) = some u) := fun j u hu => by
            rw [add_plain0, Nat.zero_add]
            have hj : j < (cellsD xs).length := (List.getElem?_eq_some_iff.1 hu).1
            rw [cellsD_length, hxl] at hj
            exact ((hrow.alloc (.cells #[] 42)).cellAt j hj).trans hu
          have HXL := Lib.hid hxl
          have HXL2 : Hid ((cellsD xs).length = 20 * 2) := by unfold Hid; rw [cellsD_length, hxl]
          clear hB h6 hxl hsep hrow
          have hlit := World.ownsRow_lit (base := w.heap.size) (e := 42) (size := 2) wr #[] 0 hbs (by unfold maxLen; omega) rfl
          go_wp2_with (at_builtin; refine wpList_append_lies _ rfl _ _ 36 rfl w.heap.size 42 i0 (.agg #[.int .i64 0, .int .i64 0]) 2 16 Try.underlying36 hi0 z1 z2 z3 rfl (by decide) _ _ _ rfl hlit ⟨g5, 0, none⟩ 20 cap5 (cellsD xs) rfl HXL2.out HSRC.out (cellsD_one xs) (by omega) (by unfold maxLen; omega) (by omega) (by rw [World.size_alloc]; omega) (wr.heap.size + 1) (by simp) ?_)
          intro g7 cap7 w7 hown7 hgrow7 hat7 hlt7
          have hsz7 := hgrow7.size
          rw [World.size_alloc] at hsz7
          have H7 : w7.ownsRow w.heap.size 42 2 (.slice (some ⟨g7, 0, none⟩) 20 cap7) 20 (cellsD xs) := hown7
          have H5b : Hid (DoRow w.heap.size w7 (.slice (some ⟨g5, 0, none⟩) 20 cap5) 20) := (H5.out.alloc _).kept hgrow7 (fun b e h => by have h1 : g5 = b := Option.some.inj e; have h2 : wr.heap.size = b := Option.some.inj h; omega)
          have H6b : Hid (DoRow w.heap.size w7 s6 20) := (H6.out.alloc _).kept hgrow7 (fun b e h => by have h1 := (H6.out.lt e).2; have h2 : wr.heap.size = b := Option.some.inj h; omega)
          have HB7 : Hid (Below w.heap.size w w7) := (HB.out.alloc hbs _).grown hgrow7 (by rw [World.size_alloc]; omega) (fun j e => by have h2 : wr.heap.size = j := Option.some.inj e; omega)
          have hg7 : wr.heap.size ≤ g7 := by
            rcases hat7 with h | h
            · have h2 : wr.heap.size = g7 := Option.some.inj h; omega
            · omega
          have HG6 : Hid (∀ b, s6.ownBlock = some b → b < wr.heap.size) := fun b e => (H6.out.lt e).2
          clear hown7 hgrow7 hat7 H5 H6 HB HSRC hlit
          go_wp2_with (at_builtin; refine wpList_append_lies _ rfl _ _ 36 rfl w.heap.size 42 i0 (.agg #[.int .i64 0, .int .i64 0]) 2 16 Try.underlying36 hi0 z1 z2 z3 rfl (by decide) _ _ _ rfl (H7.alloc _) ⟨w7.heap.size, 0, none⟩ 11 11 [.int .i64 1, .int .i64 4, .int .i64 1, .int .i64 4, .int .i64 1, .int .i64 8, .int .i64 1, .int .i64 7, .int .i64 0, .int .i64 7, .int .i64 0, .int .i64 4, .int .i64 0, .int .i64 5, .int .i64 1, .int .i64 0, .int .i64 1, .int .i64 1, .int .i64 1, .int .i64 17, .int .i64 1, .int .i64 (-1)] rfl rfl (World.news_of_block (cs := #[.int .i64 1, .int .i64 4, .int .i64 1, .int .i64 4, .int .i64 1, .int .i64 8, .int .i64 1, .int .i64 7, .int .i64 0, .int .i64 7, .int .i64 0, .int .i64 4, .int .i64 0, .int .i64 5, .int .i64 1, .int .i64 0, .int .i64 1, .int .i64 1, .int .i64 1, .int .i64 17, .int .i64 1, .int .i64 (-1)]) (t := 42) (fr := (0, 0)) (heap_alloc_new w7 _)) (by simp [Value.oneCell']) (by omega) (by unfold maxLen; omega) (by omega) (by rw [World.size_alloc]; omega) (w7.heap.size + 1) (by simp) ?_)
          intro g8 cap8 w8 hown8 hgrow8 hat8 hlt8
          have H8 : Hid (DoRow w.heap.size w8 (.slice (some ⟨g8, 0, none⟩) (20 + 11) cap8) (20 + 11)) := ⟨xs ++ [(1, 4), (1, 4), (1, 8), (1, 7), (0, 7), (0, 4), (0, 5), (1, 0), (1, 1), (1, 17), (1, -1)], by rw [List.length_append, HXL.out]; rfl, by rw [cellsD_append]; exact hown8⟩
          have H5c : Hid (DoRow w.heap.size w8 (.slice (some ⟨g5, 0, none⟩) 20 cap5) 20) := (H5b.out.alloc _).kept hgrow8 (fun b e h => by have h1 : g5 = b := Option.some.inj e; have h2 : g7 = b := Option.some.inj h; omega)
          have H6c : Hid (DoRow w.heap.size w8 s6 20) := (H6b.out.alloc _).kept hgrow8 (fun b e h => by have h1 := HG6.out b e; have h2 : g7 = b := Option.some.inj h; omega)
          have HB8 : Hid (Below w.heap.size w w8) := (HB7.out.alloc HB7.out.size _).grown hgrow8 (by rw [World.size_alloc]; have := HB7.out.size; omega) (fun j e => by have h2 : g7 = j := Option.some.inj e; omega)
          clear hown8 hgrow8 hat8 H5b H6b HB7 HG6 H7
          go_wp2_with fail
          refine (tworks_c _).mono ?_
          rintro e wa ⟨rfl, hb⟩
          have A5 := Lib.hid (H5c.out.below hb)
          have A6 := Lib.hid (H6c.out.below hb)
          have A8 := Lib.hid (H8.out.below hb)
          have AB := Lib.hid (below_then HB8.out (below_low hb HB8.out.size))
          clear hb H5c H6c H8 HB8
          go_wp2_with fail
          refine (plays_row (DoRow.nil w.heap.size _) (Nat.zero_le _)).mono ?_
          rintro e wb ⟨rfl, hb⟩
          have B5 := Lib.hid (A5.out.below hb)
          have B6 := Lib.hid (A6.out.below hb)
          have B8 := Lib.hid (A8.out.below hb)
          have BB := Lib.hid (below_then AB.out (below_low hb AB.out.size))
          clear hb A5 A6 A8 AB
          go_wp2_with fail
          refine (plays_row B5.out (by unfold maxLen; omega)).mono ?_
          rintro e wc ⟨rfl, hb⟩
          have C5 := Lib.hid (B5.out.below hb)
          have C6 := Lib.hid (B6.out.below hb)
          have C8 := Lib.hid (B8.out.below hb)
          have CB := Lib.hid (below_then BB.out (below_low hb BB.out.size))
          clear hb B5 B6 B8 BB
          go_wp2_with fail
          refine (plays_row C6.out (by unfold maxLen; omega)).mono ?_
          rintro e wd ⟨rfl, hb⟩
          have D5 := Lib.hid (C5.out.below hb)
          have D8 := Lib.hid (C8.out.below hb)
          have DB := Lib.hid (below_then CB.out (below_low hb CB.out.size))
          clear hb C5 C6 C8 CB
          go_wp2_with fail
          refine (plays_row D8.out (by unfold maxLen; omega)).mono ?_
          rintro e we ⟨rfl, hb⟩
          have E5 := Lib.hid (D5.out.below hb)
          have E8 := Lib.hid (D8.out.below hb)
          have EB := Lib.hid (below_then DB.out (below_low hb DB.out.size))
          clear hb D5 D8 DB
          go_wp2_with fail
          refine (paths_row E5.out (by unfold maxLen; omega)).mono ?_
          rintro e wf ⟨rfl, hb⟩
          have F8 := Lib.hid (E8.out.below hb)
          have FB := Lib.hid (below_then EB.out (below_low hb EB.out.size))
          clear hb E5 E8 EB
          go_wp2_with fail
          refine (heirs_row F8.out (by unfold maxLen; omega)).mono ?_
          rintro e wg ⟨rfl, hb⟩
          have GB := Lib.hid (below_then FB.out (below_low hb FB.out.size))
          clear hb F8 FB
          go_wp2_with fail
          go_ret
          exact ⟨rfl, GB.out⟩
end Go.Proofs.Ytooonjoiidcmgaa
