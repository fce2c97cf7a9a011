/- Rows of elements that have lists of numbers of their own. Conditions: what lies in memory. -/
import Derived.Test.YtcpafphgkbfahaaGreatJuQ
namespace Go.Proofs.YtcpafphgkbfahaaGreat
open Go.RowKit Go.Shelf
set_option linter.unusedVariables false
set_option linter.unusedSimpArgs false

/-- a row that the call made, of k elements of sz cells, each with a list of numbers of its own -/
structure Nest (n : Nat) (W : World) (t sz : Nat) (v : Value) (k : Nat) (pv : Nat → Value) (F : Nat → Value → List Value) (L : Nat → List Int) : Prop where
  row : W.ownsRow n t sz v k ((List.range k).flatMap fun j => F j (pv j))
  inn : ∀ j, j < k → W.ownsRow n 3 1 (pv j) (L j).length ((L j).map (Value.int .i64))
theorem owns_apart {w : World} {b b' : Nat} {e e' : TypeId} {s s' n n' : Nat} {v v' : Value} {xs xs' : List Value} (h : w.ownsRow b e s v n xs) (h' : w.ownsRow b' e' s' v' n' xs') (he : e ≠ e') : v.ownBlock = none ∨ v.ownBlock ≠ v'.ownBlock := by
  rcases h.2 with ⟨rfl, _⟩ | ⟨g, cap, cur, rfl, _, hg, _⟩
  · exact .inl rfl
  · rcases h'.2 with ⟨rfl, _⟩ | ⟨g', cap', cur', rfl, _, hg', _⟩
    · exact .inr (by simp [Value.ownBlock])
    · refine .inr fun e2 => ?_
      simp only [Value.ownBlock, Option.some.injEq] at e2
      subst e2
      rw [hg] at hg'
      simp only [Option.some.injEq, Obj.cells.injEq] at hg'
      exact he hg'.2.1
section
variable {n : Nat} {W W' : World} {t sz : Nat} {v : Value} {k : Nat} {pv : Nat → Value} {F : Nat → Value → List Value} {L : Nat → List Int}
theorem Nest.nil : Nest n W t sz (.slice none 0 0) 0 pv F L := ⟨World.ownsRow_nil _ _ _ _, fun j hj => absurd hj (Nat.not_lt_zero _)⟩
theorem Nest.below (h : Nest n W t sz v k pv F L) (hb : Below W.heap.size W W') : Nest n W' t sz v k pv F L := ⟨owns_below h.row hb, fun j hj => owns_below (h.inn j hj) hb⟩
theorem Nest.alloc (h : Nest n W t sz v k pv F L) (o : Obj) : Nest n (W.alloc o) t sz v k pv F L := h.below (below_alloc W o)
theorem grown_setCell (W : World) (X o : Nat) (u : Value) : W.grownBy (W.setCell ⟨X, o, none⟩ u) (some X) :=
  ⟨rfl, rfl, rfl, by rw [World.size_setCell]; exact Nat.le_refl _, fun k _ hk => heap_setCell_other W ⟨X, o, none⟩ k u (fun e => hk (by simp [e]))⟩
theorem owns_setCell {X base : Nat} {e : TypeId} {size m : Nat} {v : Value} {xs : List Value} (h : W.ownsRow base e size v m xs) (hX : X < base) (o : Nat) (u : Value) : (W.setCell ⟨X, o, none⟩ u).ownsRow base e size v m xs := by
  refine h.kept (grown_setCell W X o u) (.inr fun e2 => ?_)
  have := h.lt X e2
  omega
theorem Nest.setCell {X : Nat} (h : Nest n W t sz v k pv F L) (hX : X < n) (o : Nat) (u : Value) : Nest n (W.setCell ⟨X, o, none⟩ u) t sz v k pv F L := ⟨owns_setCell h.row hX o u, fun j hj => owns_setCell (h.inn j hj) hX o u⟩
theorem Nest.push {v' vp : Value} (h : Nest n W t sz v k pv F L) (ht : t ≠ 3) (hp : W.ownsRow n 3 1 vp (L k).length ((L k).map (Value.int .i64))) (hgrow : W.grownBy W' v.ownBlock) (hown : W'.ownsRow n t sz v' (k + 1) (((List.range k).flatMap fun j => F j (pv j)) ++ F k vp)) :
    Nest n W' t sz v' (k + 1) (fun j => if j = k then vp else pv j) F L := by
  refine ⟨?_, fun j hj => ?_⟩
  · have e : ((List.range (k + 1)).flatMap fun j => F j (if j = k then vp else pv j)) = ((List.range k).flatMap fun j => F j (pv j)) ++ F k vp := by
      rw [List.range_succ, List.flatMap_append]
      congr 1
      · rw [List.flatMap_def, List.flatMap_def]
        congr 1
        exact List.map_congr_left fun j hj => by rw [if_neg (by have := List.mem_range.1 hj; omega)]
      · simp
    rw [e]; exact hown
  · by_cases hk : j = k
    · subst hk; rw [if_pos rfl]; exact hp.kept hgrow (owns_apart hp h.row (Ne.symm ht))
    · rw [if_neg hk]; exact (h.inn j (by omega)).kept hgrow (owns_apart (h.inn j (by omega)) h.row (Ne.symm ht))
theorem flat_length (g : Nat → List Value) (hg : ∀ j, (g j).length = sz) : ∀ k, ((List.range k).flatMap g).length = k * sz
  | 0 => by simp
  | k + 1 => by rw [List.range_succ, List.flatMap_append, List.length_append, flat_length g hg k]; simp [hg, Nat.succ_mul]
theorem flat_get (g : Nat → List Value) (hg : ∀ j, (g j).length = sz) : ∀ k j i, j < k → i < sz → ((List.range k).flatMap g)[j * sz + i]? = (g j)[i]?
  | 0, j, i, hj, _ => absurd hj (Nat.not_lt_zero _)
  | k + 1, j, i, hj, hi => by
    rw [List.range_succ, List.flatMap_append]
    have hl := flat_length g hg k
    by_cases hk : j < k
    · rw [List.getElem?_append_left (by rw [hl]; exact (by have := Nat.mul_le_mul_right sz (show j + 1 ≤ k by omega); rw [Nat.succ_mul] at this; omega)), flat_get g hg k j i hk hi]
    · obtain rfl : j = k := by omega
      rw [List.getElem?_append_right (by rw [hl]; omega), hl]
      simp
theorem Nest.lies {P : Nat → Prop} {f : Nat → Nat → Value} (h : Nest n W t sz v k pv F L) (hsz : 0 < sz) (hF : ∀ j, (F j (pv j)).length = sz) (hf : ∀ j i, i < sz → (F j (pv j))[i]? = some (f j i)) (hP : ∀ g, n ≤ g → P g) : Lies P W v sz k f := by
  rcases h.row.2 with ⟨rfl, h0⟩ | ⟨g, cap, cur, rfl, hb, hg, hc, hm, hz, ht⟩
  · exact ⟨none, 0, by rw [h0], by omega, Nat.zero_le _, fun j hj => by omega⟩
  · refine ⟨_, cap, rfl, hc, hm, fun j hj => ⟨g, 0, rfl, hP g hb, fun i hi => ?_⟩⟩
    have hlt : j * sz + i < k * sz := by have := Nat.mul_le_mul_right sz (show j + 1 ≤ k by omega); rw [Nat.succ_mul] at this; omega
    rw [Nat.zero_add, h.row.cellAt _ hlt, flat_get _ hF k j i hj hi, hf j i hi]
theorem Nest.ints {P : Nat → Prop} (h : Nest n W t sz v k pv F L) (hP : ∀ g, n ≤ g → P g) {j : Nat} (hj : j < k) : IntsP P W (pv j) (L j) :=
  (ints_of_row (h.inn j hj) (fun g e => hP g ((h.inn j hj).lt g e).1)).2
end
def pathC (_j : Nat) (v : Value) : List Value := [v]
theorem Nest.paths {P : Nat → Prop} {n : Nat} {W : World} {v : Value} {pv : Nat → Value} {l : List (List Int)} (h : Nest n W 22 1 v l.length pv pathC (gp l)) (hP : ∀ g, n ≤ g → P g) : PathsP P W v l :=
  ⟨pv, h.lies (by decide) (fun _ => rfl) (fun j i hi => by obtain rfl : i = 0 := (by omega); rfl) hP, fun j hj => h.ints hP hj⟩
def ddC (ds : List Dd) (j : Nat) (v : Value) : List Value := [.int .i64 (gd ds j).cpu, .int .i64 (gd ds j).op, .int .i64 (gd ds j).frm, .int .i64 (gd ds j).to, .int .i64 (gd ds j).e, v]
theorem Nest.dids {P : Nat → Prop} {n : Nat} {W : World} {v : Value} {pv : Nat → Value} {l : List Dd} (h : Nest n W 73 6 v l.length pv (ddC l) (fun j => (gd l j).hs)) (hP : ∀ g, n ≤ g → P g) : DdsP P W v l :=
  ⟨pv, h.lies (by decide) (fun _ => rfl) (fun j i hi => by obtain rfl | rfl | rfl | rfl | rfl | rfl : i = 0 ∨ i = 1 ∨ i = 2 ∨ i = 3 ∨ i = 4 ∨ i = 5 := (by omega) <;> rfl) hP, fun j hj => h.ints hP hj⟩
def caC (cs : List Ca) (j : Nat) (v : Value) : List Value := [.int .i64 (gc cs j).size, .int .i64 (gc cs j).align, .int .i64 (gc cs j).flags, .int .i64 (gc cs j).refs, .bool (gc cs j).live, .int .i64 (gc cs j).waits, v, .int .i64 (gc cs j).l0, .int .i64 (gc cs j).l1, .int .i64 (gc cs j).l2, .int .i64 (gc cs j).l3, .int .i64 (gc cs j).order, .int .i64 (gc cs j).objects, .int .i64 (gc cs j).l6]
theorem Nest.caches {P : Nat → Prop} {n : Nat} {W : World} {v : Value} {pv : Nat → Value} {l : List Ca} (h : Nest n W 47 14 v l.length pv (caC l) (fun j => (gc l j).pages)) (hP : ∀ g, n ≤ g → P g) : CasP P W v l :=
  ⟨pv, h.lies (by decide) (fun _ => rfl) (fun j i hi => by obtain rfl | rfl | rfl | rfl | rfl | rfl | rfl | rfl | rfl | rfl | rfl | rfl | rfl | rfl : i = 0 ∨ i = 1 ∨ i = 2 ∨ i = 3 ∨ i = 4 ∨ i = 5 ∨ i = 6 ∨ i = 7 ∨ i = 8 ∨ i = 9 ∨ i = 10 ∨ i = 11 ∨ i = 12 ∨ i = 13 := (by omega) <;> rfl) hP, fun j hj => h.ints hP hj⟩
theorem CasP.at {P : Nat → Prop} {W : World} {a : Option Addr} {n c : Nat} {xs : List Ca} (h : CasP P W (.slice a n c) xs) {j : Nat} (hj : j < xs.length) : ∃ b off v, a = some ⟨b, off, none⟩ ∧ W.cell? ⟨b, off + j * 14, none⟩ = some (.int .i64 (gc xs j).size) ∧
    (∀ i, 0 < i → i < 14 → W.cell? ⟨b, off + j * 14 + i, none⟩ = some (caF (gc xs j) v i)) ∧ IntsP P W v (gc xs j).pages := by
  obtain ⟨pv, ⟨a', cap, e, _, _, h3⟩, h4⟩ := h
  simp only [Value.slice.injEq] at e
  obtain ⟨rfl, _, _⟩ := e
  obtain ⟨b, off, e1, _, hc⟩ := h3 j hj
  exact ⟨b, off, pv j, e1, hc 0 (by decide), fun i _ hi => hc i hi, h4 j hj⟩
theorem HdsP.src {P : Nat → Prop} {W : World} {b off n c : Nat} {xs : List Hd} (h : HdsP P W (.slice (some ⟨b, off, none⟩) n c) xs) : ∀ j u, ((List.range xs.length).flatMap fun j => [Value.int .i64 (gh xs j).cache, .int .i64 (gh xs j).slab, .int .i64 (gh xs j).obj, .int .i64 (gh xs j).group, .bool (gh xs j).out])[j]? = some u → W.cell? ((⟨b, off, none⟩ : Addr).add j) = some u := by
  intro j u hu
  obtain ⟨a', cap, e, _, _, h3⟩ := h
  simp only [Value.slice.injEq] at e
  obtain ⟨rfl, _, _⟩ := e
  have hl := flat_length (sz := 5) (fun j => [Value.int .i64 (gh xs j).cache, .int .i64 (gh xs j).slab, .int .i64 (gh xs j).obj, .int .i64 (gh xs j).group, .bool (gh xs j).out]) (fun _ => rfl) xs.length
  have hj : j < xs.length * 5 := by rw [← hl]; exact (List.getElem?_eq_some_iff.1 hu).1
  have hg := flat_get (sz := 5) (fun j => [Value.int .i64 (gh xs j).cache, .int .i64 (gh xs j).slab, .int .i64 (gh xs j).obj, .int .i64 (gh xs j).group, .bool (gh xs j).out]) (fun _ => rfl) xs.length (j / 5) (j % 5) (by omega) (Nat.mod_lt _ (by decide))
  rw [show j / 5 * 5 + j % 5 = j by omega, hu] at hg
  obtain ⟨b', off', e1, _, hc⟩ := h3 (j / 5) (by omega)
  simp only [Option.some.injEq, Addr.mk.injEq, and_true] at e1
  obtain ⟨rfl, rfl⟩ := e1
  have h5 := hc (j % 5) (Nat.mod_lt _ (by decide))
  rw [show off + j / 5 * 5 + j % 5 = off + j by omega] at h5
  rw [add_plain, h5, hg]
  have hm : j % 5 < 5 := Nat.mod_lt _ (by decide)
  obtain e | e | e | e | e : j % 5 = 0 ∨ j % 5 = 1 ∨ j % 5 = 2 ∨ j % 5 = 3 ∨ j % 5 = 4 := by omega
  all_goals rw [e]; rfl
end Go.Proofs.YtcpafphgkbfahaaGreat
