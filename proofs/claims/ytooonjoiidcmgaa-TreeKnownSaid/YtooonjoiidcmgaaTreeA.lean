/- A tree in memory; what its small calls answer: none, of, Parent, Depth, Online, Many. -/
import Derived.Test.YtooonjoiidcmgaaRange
import Derived.Test.YtooonjoiidcmgaaTreeP
import Derived.Test.YtooonjoiidcmgaaPickB
import Derived.WalkSpells
import Derived.Laws.Pointers
import Derived.Laws.OwnMore
import Derived.Deep.AppendLies
namespace Go.Proofs.Ytooonjoiidcmgaa
open Go.RowKit Go.Shelf

def cellsT (st : List Nd) : List Value := st.flatMap fun d => [.int .i64 (d.parent : Int), .int .i64 (d.depth : Int), .bool d.off]
theorem cellsT_length (st : List Nd) : (cellsT st).length = st.length * 3 := by
  induction st with
  | nil => rfl
  | cons d st ih => simp only [cellsT, List.flatMap_cons, List.length_append, List.length_cons, List.length_nil] at ih ⊢; omega
theorem cellsT_get (st : List Nd) : ∀ i (h : i < st.length), (cellsT st)[i * 3]? = some (.int .i64 (st[i].parent : Int)) ∧ (cellsT st)[i * 3 + 1]? = some (.int .i64 (st[i].depth : Int)) ∧ (cellsT st)[i * 3 + 2]? = some (.bool st[i].off) := by
  induction st with
  | nil => intro i h; simp at h
  | cons d st ih =>
    intro i h
    cases i with
    | zero => exact ⟨rfl, rfl, rfl⟩
    | succ i =>
      have h' : i < st.length := by simpa using h
      obtain ⟨h1, h2, h3⟩ := ih i h'
      have e : ∀ j, (cellsT (d :: st))[(i + 1) * 3 + j]? = (cellsT st)[i * 3 + j]? := fun j => by
        rw [show (i + 1) * 3 + j = i * 3 + j + 3 by omega]; rfl
      exact ⟨(e 0).trans h1, (e 1).trans h2, (e 2).trans h3⟩

/-- the tree at block B, its groups in block R -/
def TAt (W : World) (B R : Nat) (st : List Nd) : Prop :=
  ∃ cap, Boxed W B 60 (.slice (some ⟨R, 0, none⟩) st.length cap) ∧ W.ownsRow 0 67 3 (.slice (some ⟨R, 0, none⟩) st.length cap) st.length (cellsT st)
/-- what a read of it needs -/
structure TRd (W : World) (B R n : Nat) (st : List Nd) : Prop where
  len : st.length = n
  box : ∃ cap, W.cell? ⟨B, 0, none⟩ = some (.slice (some ⟨R, 0, none⟩) n cap)
  cell : ∀ g, 1 ≤ g → g ≤ n → W.cell? ⟨R, (g - 1) * 3, none⟩ = some (.int .i64 ((nd st g).parent : Int)) ∧ W.cell? ⟨R, (g - 1) * 3 + 1, none⟩ = some (.int .i64 ((nd st g).depth : Int)) ∧ W.cell? ⟨R, (g - 1) * 3 + 2, none⟩ = some (.bool (nd st g).off)
  ltB : B < W.heap.size
  ltR : R < W.heap.size
theorem TAt.rd {W : World} {B R : Nat} {st : List Nd} (h : TAt W B R st) : TRd W B R st.length st := by
  obtain ⟨cap, hb, ho⟩ := h
  refine ⟨rfl, ⟨cap, hb.cell⟩, fun g h1 h2 => ?_, hb.lt, (ho.lt R rfl).2⟩
  obtain ⟨c1, c2, c3⟩ := cellsT_get st (g - 1) (by omega)
  have e : st[g - 1] = nd st g := by have := nd_in h1 h2; rw [List.getElem?_eq_getElem (by omega)] at this; exact Option.some.inj this
  rw [e] at c1 c2 c3
  exact ⟨(ho.cellAt _ (by omega)).trans c1, (ho.cellAt _ (by omega)).trans c2, (ho.cellAt _ (by omega)).trans c3⟩
theorem TRd.below {W W' : World} {B R n : Nat} {st : List Nd} (h : TRd W B R n st) (hb : Below W.heap.size W W') : TRd W' B R n st :=
  ⟨h.len, let ⟨c, e⟩ := h.box; ⟨c, (hb.cell (p := ⟨B, 0, none⟩) h.ltB).trans e⟩,
   fun g h1 h2 => let ⟨c1, c2, c3⟩ := h.cell g h1 h2; ⟨(hb.cell (p := ⟨R, _, none⟩) h.ltR).trans c1, (hb.cell (p := ⟨R, _, none⟩) h.ltR).trans c2, (hb.cell (p := ⟨R, _, none⟩) h.ltR).trans c3⟩,
   Nat.lt_of_lt_of_le h.ltB hb.size, Nat.lt_of_lt_of_le h.ltR hb.size⟩

set_option maxHeartbeats 400000 in
theorem none_c (B R n cap : Nat) (w : World) (hc : w.cell? ⟨B, 0, none⟩ = some (.slice (some ⟨R, 0, none⟩) n cap)) (hn : 1 ≤ n) :
    Calls Try.prog 43 #[.pointer (some ⟨B, 0, none⟩)] w fun e w' => e = .returned (.bool false) ∧ w = w' := by
  have h0 : ((n : Int) == 0) = false := by simp; omega
  go_enter Try.func43, Try.ntmps43
  go_wp2
  go_ret
  exact ⟨rfl, rfl⟩

set_option maxHeartbeats 400000 in
theorem of_in (B R n cap : Nat) (g : Nat) (w : World) (hc : w.cell? ⟨B, 0, none⟩ = some (.slice (some ⟨R, 0, none⟩) n cap)) (h1 : 1 ≤ g) (h2 : g ≤ n) (hn : n ≤ 16) :
    Calls Try.prog 44 #[.pointer (some ⟨B, 0, none⟩), .int .i64 (g : Int)] w fun e w' => e = .returned (.pointer (some ⟨R, (g - 1) * 3, none⟩)) ∧ w = w' := by
  go_enter Try.func44, Try.ntmps44
  go_wp2_with (go_at_call 43; refine (none_c B R n cap _ hc (by omega)).mono ?_; rintro e w' ⟨rfl, rfl⟩)
  go_ret
  exact ⟨rfl, rfl⟩

set_option maxHeartbeats 400000 in
theorem of_out (B R n cap : Nat) (g : Int) (w : World) (hc : w.cell? ⟨B, 0, none⟩ = some (.slice (some ⟨R, 0, none⟩) n cap)) (hg : g < 1 ∨ (n : Int) < g) (h1 : 1 ≤ n) (_hn : n ≤ 16) :
    Calls Try.prog 44 #[.pointer (some ⟨B, 0, none⟩), .int .i64 g] w fun e w' => e = .returned (.pointer none) ∧ w = w' := by
  go_enter Try.func44, Try.ntmps44
  by_cases hl : g < 1
  · clear hg
    go_wp2_with (go_at_call 43; refine (none_c B R n cap _ hc (by omega)).mono ?_; rintro e w' ⟨rfl, rfl⟩)
    go_ret
    exact ⟨rfl, rfl⟩
  · have hh : (n : Int) < g := by omega
    clear hg
    go_wp2_with (go_at_call 43; refine (none_c B R n cap _ hc (by omega)).mono ?_; rintro e w' ⟨rfl, rfl⟩)
    go_ret
    exact ⟨rfl, rfl⟩

set_option maxHeartbeats 400000 in
theorem parent_c (B R n : Nat) (st : List Nd) (g : Int) (w : World) (h : TRd w B R n st) (hi : Inv st) :
    Calls Try.prog 36 #[.pointer (some ⟨B, 0, none⟩), .int .i64 g] w fun e w' => e = .returned (.int .i64 ((nd st g.toNat).parent : Int)) ∧ w = w' := by
  have hn1 : 1 ≤ n := by rw [← h.len]; exact hi.some
  have hn2 : n ≤ 16 := by rw [← h.len]; exact hi.few
  obtain ⟨cap, hc⟩ := h.box
  by_cases hg : 1 ≤ g ∧ g ≤ n
  · obtain ⟨k, rfl⟩ := Int.eq_ofNat_of_zero_le (show 0 ≤ g by omega)
    obtain ⟨c0, c1, c2⟩ := h.cell k (by omega) (by omega)
    rw [Int.toNat_natCast]
    clear h hi
    have hk1 : 1 ≤ k := by omega
    have hk2 : k ≤ n := by omega
    generalize nd st k = d at *
    go_enter Try.func36, Try.ntmps36
    go_wp2_with (go_at_call 44; refine (of_in B R n cap k _ hc hk1 hk2 hn2).mono ?_; rintro e w' ⟨rfl, rfl⟩)
    go_ret
    exact ⟨rfl, rfl⟩
  · have E := Lib.hid (nd_out (st := st) (g := g.toNat) (by rw [h.len]; omega))
    have hg' : g < 1 ∨ (n : Int) < g := by omega
    clear hg h hi
    go_enter Try.func36, Try.ntmps36
    go_wp2_with (go_at_call 44; refine (of_out B R n cap g _ hc hg' hn1 hn2).mono ?_; rintro e w' ⟨rfl, rfl⟩)
    go_ret
    exact ⟨by rw [E.out]; rfl, rfl⟩

set_option maxHeartbeats 400000 in
theorem depth_c (B R n : Nat) (st : List Nd) (g : Int) (w : World) (h : TRd w B R n st) (hi : Inv st) :
    Calls Try.prog 35 #[.pointer (some ⟨B, 0, none⟩), .int .i64 g] w fun e w' => e = .returned (.int .i64 ((nd st g.toNat).depth : Int)) ∧ w = w' := by
  have hn1 : 1 ≤ n := by rw [← h.len]; exact hi.some
  have hn2 : n ≤ 16 := by rw [← h.len]; exact hi.few
  obtain ⟨cap, hc⟩ := h.box
  by_cases hg : 1 ≤ g ∧ g ≤ n
  · obtain ⟨k, rfl⟩ := Int.eq_ofNat_of_zero_le (show 0 ≤ g by omega)
    obtain ⟨c0, c1, c2⟩ := h.cell k (by omega) (by omega)
    rw [Int.toNat_natCast]
    clear h hi
    have hk1 : 1 ≤ k := by omega
    have hk2 : k ≤ n := by omega
    generalize nd st k = d at *
    go_enter Try.func35, Try.ntmps35
    go_wp2_with (go_at_call 44; refine (of_in B R n cap k _ hc hk1 hk2 hn2).mono ?_; rintro e w' ⟨rfl, rfl⟩)
    go_ret
    exact ⟨rfl, rfl⟩
  · have E := Lib.hid (nd_out (st := st) (g := g.toNat) (by rw [h.len]; omega))
    have hg' : g < 1 ∨ (n : Int) < g := by omega
    clear hg h hi
    go_enter Try.func35, Try.ntmps35
    go_wp2_with (go_at_call 44; refine (of_out B R n cap g _ hc hg' hn1 hn2).mono ?_; rintro e w' ⟨rfl, rfl⟩)
    go_ret
    exact ⟨by rw [E.out]; rfl, rfl⟩

set_option maxHeartbeats 400000 in
theorem online_c (B R n : Nat) (st : List Nd) (g : Int) (w : World) (h : TRd w B R n st) (hi : Inv st) :
    Calls Try.prog 39 #[.pointer (some ⟨B, 0, none⟩), .int .i64 g] w fun e w' => e = .returned (.bool (!(nd st g.toNat).off)) ∧ w = w' := by
  have hn1 : 1 ≤ n := by rw [← h.len]; exact hi.some
  have hn2 : n ≤ 16 := by rw [← h.len]; exact hi.few
  obtain ⟨cap, hc⟩ := h.box
  by_cases hg : 1 ≤ g ∧ g ≤ n
  · obtain ⟨k, rfl⟩ := Int.eq_ofNat_of_zero_le (show 0 ≤ g by omega)
    obtain ⟨c0, c1, c2⟩ := h.cell k (by omega) (by omega)
    rw [Int.toNat_natCast]
    clear h hi
    have hk1 : 1 ≤ k := by omega
    have hk2 : k ≤ n := by omega
    generalize nd st k = d at *
    go_enter Try.func39, Try.ntmps39
    go_wp2_with (go_at_call 44; refine (of_in B R n cap k _ hc hk1 hk2 hn2).mono ?_; rintro e w' ⟨rfl, rfl⟩)
    go_ret
    exact ⟨rfl, rfl⟩
  · have E := Lib.hid (nd_out (st := st) (g := g.toNat) (by rw [h.len]; omega))
    have hg' : g < 1 ∨ (n : Int) < g := by omega
    clear hg h hi
    go_enter Try.func39, Try.ntmps39
    go_wp2_with (go_at_call 44; refine (of_out B R n cap g _ hc hg' hn1 hn2).mono ?_; rintro e w' ⟨rfl, rfl⟩)
    go_ret
    exact ⟨by rw [E.out]; rfl, rfl⟩

set_option maxHeartbeats 400000 in
theorem many_c (B R n : Nat) (st : List Nd) (w : World) (h : TRd w B R n st) (hi : Inv st) :
    Calls Try.prog 33 #[.pointer (some ⟨B, 0, none⟩)] w fun e w' => e = .returned (.int .i64 (st.length : Int)) ∧ w = w' := by
  have hn1 : 1 ≤ n := by rw [← h.len]; exact hi.some
  have E := Lib.hid h.len
  obtain ⟨cap, hc⟩ := h.box
  clear h hi
  go_enter Try.func33, Try.ntmps33
  go_wp2_with (go_at_call 43; refine (none_c B R n cap _ hc hn1).mono ?_; rintro e w' ⟨rfl, rfl⟩)
  go_ret
  exact ⟨by rw [E.out]; rfl, rfl⟩
end Go.Proofs.Ytooonjoiidcmgaa
