/- Plain: groups as a list of nodes; what a tree's calls make of it, and what they answer. -/
namespace Go.Proofs.Ytooonjoiidcmgaa

/-- a group: its parent, its depth, whether it is off -/
structure Nd where
  parent : Nat
  depth : Nat
  off : Bool
/-- the node of group g; none: a node that is off, of no depth -/
def nd (st : List Nd) (g : Nat) : Nd := if g = 0 then ⟨0, 0, true⟩ else st[g - 1]?.getD ⟨0, 0, true⟩
/-- how groups stand: at most 16, each one's parent ahead of it, depths at most 8 -/
structure Inv (st : List Nd) : Prop where
  some : 1 ≤ st.length
  few : st.length ≤ 16
  root : nd st 1 = ⟨0, 1, false⟩
  up : ∀ g, 2 ≤ g → g ≤ st.length → 1 ≤ (nd st g).parent ∧ (nd st g).parent < g ∧ (nd st g).depth = (nd st (nd st g).parent).depth + 1 ∧ (nd st g).depth ≤ 8

theorem nd_out {st : List Nd} {g : Nat} (h : g = 0 ∨ st.length < g) : nd st g = ⟨0, 0, true⟩ := by
  unfold nd
  by_cases h0 : g = 0
  · rw [if_pos h0]
  · rw [if_neg h0, List.getElem?_eq_none (by omega)]; rfl
theorem nd_in {st : List Nd} {g : Nat} (h1 : 1 ≤ g) (h2 : g ≤ st.length) : st[g - 1]? = some (nd st g) := by
  unfold nd
  rw [if_neg (by omega), List.getElem?_eq_getElem (by omega)]; rfl
theorem nd_append_old (st : List Nd) (x : Nd) {g : Nat} (h : g ≤ st.length) : nd (st ++ [x]) g = nd st g := by
  unfold nd
  by_cases h0 : g = 0
  · rw [if_pos h0, if_pos h0]
  · rw [if_neg h0, if_neg h0, List.getElem?_append_left (by omega)]
theorem nd_append_new (st : List Nd) (x : Nd) : nd (st ++ [x]) (st.length + 1) = x := by
  unfold nd
  rw [if_neg (by omega), Nat.add_sub_cancel, List.getElem?_append_right (Nat.le_refl _)]; simp

theorem Inv.parent_lt {st : List Nd} (h : Inv st) {g : Nat} (hg : 1 ≤ g) : (nd st g).parent < g := by
  by_cases h1 : g = 1
  · subst h1; rw [h.root]; show 0 < 1; omega
  · by_cases h2 : g ≤ st.length
    · exact (h.up g (by omega) h2).2.1
    · rw [nd_out (by omega)]; show 0 < g; omega
theorem Inv.depth_le {st : List Nd} (h : Inv st) (g : Nat) : (nd st g).depth ≤ 8 := by
  by_cases h0 : g = 0 ∨ st.length < g
  · rw [nd_out h0]; show 0 ≤ 8; omega
  · by_cases h1 : g = 1
    · subst h1; rw [h.root]; show 1 ≤ 8; omega
    · exact (h.up g (by omega) (by omega)).2.2.2
theorem Inv.parent_le {st : List Nd} (h : Inv st) (g : Nat) : (nd st g).parent ≤ 16 := by
  by_cases h0 : g = 0 ∨ st.length < g
  · rw [nd_out h0]; show 0 ≤ 16; omega
  · have := h.parent_lt (g := g) (by omega)
    have := h.few
    omega

/-- a group, its parent, and so on; f: how many at most -/
def upL (st : List Nd) : Nat → Nat → List Nat
  | 0, _ => []
  | f + 1, g => if 1 ≤ g ∧ g ≤ st.length then g :: upL st f (nd st g).parent else []
def path (st : List Nd) (g : Nat) : List Nat := upL st (g + 1) g
theorem upL_more {st : List Nd} (h : Inv st) : ∀ f g, g < f → upL st f g = upL st (g + 1) g := by
  intro f
  induction f using Nat.strongRecOn with
  | ind f ih =>
    intro g hg
    cases f with
    | zero => omega
    | succ f =>
      simp only [upL]
      by_cases hh : 1 ≤ g ∧ g ≤ st.length
      · rw [if_pos hh, if_pos hh]
        have hp := h.parent_lt (g := g) hh.1
        rw [ih f (by omega) _ (by omega)]
        by_cases e : g = f
        · subst e; rw [ih g (by omega) _ hp]
        · rw [ih g (by omega) _ hp]
      · rw [if_neg hh, if_neg hh]
theorem path_in {st : List Nd} (h : Inv st) {g : Nat} (h1 : 1 ≤ g) (h2 : g ≤ st.length) : path st g = g :: path st (nd st g).parent := by
  unfold path
  conv => lhs; unfold upL
  rw [if_pos ⟨h1, h2⟩, upL_more h g _ (h.parent_lt h1)]
theorem path_out {st : List Nd} {g : Nat} (h : g = 0 ∨ st.length < g) : path st g = [] := by
  unfold path upL
  rw [if_neg (by omega)]
theorem path_length {st : List Nd} (h : Inv st) (g : Nat) : (path st g).length = (nd st g).depth := by
  induction g using Nat.strongRecOn with
  | ind g ih =>
    by_cases h0 : g = 0 ∨ st.length < g
    · rw [path_out h0, nd_out h0]; rfl
    · rw [path_in h (by omega) (by omega), List.length_cons, ih _ (h.parent_lt (by omega))]
      by_cases h1 : g = 1
      · subst h1; rw [h.root]; rfl
      · exact (h.up g (by omega) (by omega)).2.2.1.symm
theorem path_mem {st : List Nd} (h : Inv st) (g : Nat) : ∀ x ∈ path st g, 1 ≤ x ∧ x ≤ g ∧ x ≤ st.length := by
  induction g using Nat.strongRecOn with
  | ind g ih =>
    by_cases h0 : g = 0 ∨ st.length < g
    · rw [path_out h0]; intro x hx; cases hx
    · rw [path_in h (by omega) (by omega)]
      intro x hx
      have hp := h.parent_lt (g := g) (by omega)
      rcases List.mem_cons.1 hx with rfl | hx
      · omega
      · have := ih _ hp x hx; omega

def heirF (st : List Nd) (g : Nat) : Nat := ((path st g).find? fun h => !(nd st h).off).getD 0
def belowF (st : List Nd) (g : Nat) (top : Int) : Bool := (path st g).any fun h => (h : Int) == top

/-- what Add makes: the groups, the answer, the error's number -/
def addF (st : List Nd) (p : Nat) : List Nd × Nat × Nat :=
  if (nd st p).off = true then (st, 0, 110) else if st.length = 16 ∨ (nd st p).depth = 8 then (st, 0, 5) else (st ++ [⟨p, (nd st p).depth + 1, false⟩], st.length + 1, 0)
def offF (st : List Nd) (g : Nat) : List Nd × Nat :=
  if g = 0 ∨ st.length < g then (st, 110) else if g = 1 ∨ (nd st g).off = true then (st, 292) else (st.set (g - 1) { nd st g with off := true }, 0)

theorem Inv.off_out {st : List Nd} {g : Nat} (h : (nd st g).off = false) : 1 ≤ g ∧ g ≤ st.length := by
  refine Classical.byContradiction fun hn => ?_
  rw [nd_out (by omega)] at h; cases h
theorem nd_set {st : List Nd} {g : Nat} (h1 : 1 ≤ g) (h2 : g ≤ st.length) (x : Nd) (k : Nat) : nd (st.set (g - 1) x) k = if k = g then x else nd st k := by
  unfold nd
  by_cases h0 : k = 0
  · rw [if_pos h0, if_neg (by omega), if_pos h0]
  · rw [if_neg h0, if_neg h0, List.getElem?_set]
    by_cases e : k = g
    · subst e; rw [if_pos rfl, if_pos (by omega), if_pos rfl]; rfl
    · rw [if_neg (by omega), if_neg e]
theorem inv_new : Inv [⟨0, 1, false⟩] := ⟨by simp, by simp, rfl, fun g h1 h2 => by simp at h2; omega⟩
theorem inv_add {st : List Nd} (h : Inv st) (p : Nat) : Inv (addF st p).1 := by
  unfold addF
  by_cases h1 : (nd st p).off = true
  · rw [if_pos h1]; exact h
  · rw [if_neg h1]
    by_cases h2 : st.length = 16 ∨ (nd st p).depth = 8
    · rw [if_pos h2]; exact h
    · rw [if_neg h2]
      have hp := Inv.off_out (st := st) (g := p) (by simpa using h1)
      have hd := h.depth_le p
      have hf := h.few
      have hs := h.some
      refine ⟨by simp, by simp; omega, by rw [nd_append_old _ _ hs]; exact h.root, fun g hg1 hg2 => ?_⟩
      simp at hg2
      by_cases e : g = st.length + 1
      · subst e
        rw [nd_append_new]
        dsimp only
        rw [nd_append_old _ _ hp.2]
        omega
      · have := h.up g hg1 (by omega)
        rw [nd_append_old _ _ (by omega), nd_append_old _ _ (by omega)]
        exact this
theorem inv_off {st : List Nd} (h : Inv st) (g : Nat) : Inv (offF st g).1 := by
  unfold offF
  by_cases h1 : g = 0 ∨ st.length < g
  · rw [if_pos h1]; exact h
  · rw [if_neg h1]
    by_cases h2 : g = 1 ∨ (nd st g).off = true
    · rw [if_pos h2]; exact h
    · rw [if_neg h2]
      have hk := fun k => nd_set (st := st) (g := g) (by omega) (by omega) { nd st g with off := true } k
      have kp : ∀ k, (nd (st.set (g - 1) { nd st g with off := true }) k).parent = (nd st k).parent := fun k => by
        rw [hk]; by_cases e : k = g
        · rw [if_pos e, e]
        · rw [if_neg e]
      have kd : ∀ k, (nd (st.set (g - 1) { nd st g with off := true }) k).depth = (nd st k).depth := fun k => by
        rw [hk]; by_cases e : k = g
        · rw [if_pos e, e]
        · rw [if_neg e]
      refine ⟨by simpa using h.some, by simpa using h.few, by rw [hk, if_neg (by omega)]; exact h.root, fun k h3 h4 => ?_⟩
      rw [List.length_set] at h4
      have := h.up k h3 h4
      rw [kp, kd, kd]
      exact this
theorem add_length {st : List Nd} (p : Nat) : st.length ≤ (addF st p).1.length ∧ (addF st p).1.length ≤ st.length + 1 := by
  unfold addF
  split
  · exact ⟨Nat.le_refl _, Nat.le_succ _⟩
  · split
    · exact ⟨Nat.le_refl _, Nat.le_succ _⟩
    · simp
theorem off_length {st : List Nd} (g : Nat) : (offF st g).1.length = st.length := by
  unfold offF
  split
  · rfl
  · split
    · rfl
    · simp
end Go.Proofs.Ytooonjoiidcmgaa
