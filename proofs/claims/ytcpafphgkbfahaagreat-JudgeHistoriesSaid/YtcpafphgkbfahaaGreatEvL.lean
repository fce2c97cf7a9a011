/- An evaluator of closed runs: append. -/
import Derived.Test.YtcpafphgkbfahaaGreatEvK
namespace Go.Proofs.YtcpafphgkbfahaaGreat
open Go Go.RowKit

variable {P : Program} {φ : Emb}
theorem growBy_le (n : Nat) : ∀ (r c : Nat), Builtin.growBy n r c ≤ Nat.max c (n + (n + 768) / 4)
  | 0, c => by rw [Builtin.growBy]; exact Nat.le_max_left _ _
  | r + 1, c => by
    rw [Builtin.growBy]
    split
    · exact Nat.le_max_left _ _
    · rename_i h
      refine Nat.le_trans (growBy_le n r _) ?_
      refine Nat.max_le.2 ⟨Nat.le_trans ?_ (Nat.le_max_right _ _), Nat.le_max_right _ _⟩
      have h : c < n := by omega
      have : (c + 768) / 4 ≤ (n + 768) / 4 := Nat.div_le_div_right (by omega)
      omega
theorem nextcap_le {need cap : Nat} (h : cap < need) (hs : need ≤ 1000000) : Builtin.nextslicecap need cap ≤ 3000000 := by
  unfold Builtin.nextslicecap
  split
  · omega
  · split
    · omega
    · refine Nat.le_trans (growBy_le _ _ _) (Nat.max_le.2 ⟨by omega, by omega⟩)
/-- what is appended: by its type either so many zeros, or the cells of a slice or a string -/
def AppArg (P : Program) (w : World) (xd : TypeDesc) (x : Value) (n : Nat) (arr : Array Value) (size : Nat) (z : Value) : Prop :=
  (∃ k0 k, xd = .int k0 ∧ x = .int k (n : Int) ∧ n ≤ 1000000 ∧ arr = (zerosN z.cells.toList n).toArray) ∨
  (rowDesc xd = true ∧ (Builtin.lenOf x).run P w = .ok n w ∧ (Builtin.firstCells size n x).run P w = .ok arr w)
theorem zeroCells_eq (z : Array Value) (n : Nat) : Builtin.zeroCells z n = (zerosN z.toList n).toArray := Array.ext' (range_zeros z n _ rfl)
theorem rowDesc_is {xd : TypeDesc} (h : rowDesc xd = true) : (∃ e, xd = .slice e) ∨ xd = .string := by
  cases xd <;> first | (exact .inl ⟨_, rfl⟩) | (exact .inr rfl) | (simp [rowDesc] at h)
section
variable {w : World} {argTypes : Array TypeId} {ty st xt elem : TypeId} {xd : TypeDesc} {i : TypeInfo} {z : Value} {x : Value} {n : Nat} {arr : Array Value}
theorem append_in (h0 : argTypes[0]? = some st) (h1 : argTypes[1]? = some xt) (hst : P.underlying st = some (.slice elem)) (hxt : P.underlying xt = some xd) (hi : P.info? elem = some i) (hzr : (zeroValue elem).run P w = .ok z w)
    (hzs : z.cells.size = i.size) (hby : i.bytes ≤ 1000000) (hx : AppArg P w xd x n arr i.size z) {a : Addr} {len cap : Nat} (hc : len + n ≤ cap) {w1 : World} (hs : (storeCells (a.add (len * i.size)) arr.toList).run P w = .ok () w1) :
    (Builtin.append_ argTypes ty #[.slice (some a) len cap, x]).run P w = .ok (.slice (some a) (len + n) cap) w1 := by
  rcases hx with ⟨k0, k, rfl, rfl, hn, rfl⟩ | ⟨hd, hl, hf⟩
  · have hw : IntKind.i64.wrap (n : Int) = n := IntWalk.i64_in _ ⟨by omega, by omega⟩
    have t1 : ¬ ((n : Int) < 0) := by omega
    have hb : (n : Int) * i.bytes ≤ 1000000 * 1000000 := Int.mul_le_mul (by omega) (by omega) (by omega) (by omega)
    have t2 : ¬ (281474976710656 < (n : Int) * i.bytes) := by omega
    by_cases hz0 : n * i.size = 0
    · have e0 : zerosN z.cells.toList n = [] := List.eq_nil_of_length_eq_zero (by rw [zerosN_length]; simp [hzs, hz0])
      rw [e0] at hs
      have e1 : w1 = w := by simp [storeCells] at hs; exact hs.symm
      subst e1
      simp [Builtin.append_, h0, h1, run_underlying hst, run_underlying hxt, run_sz hi, run_ti hi, asInt, asIntOf, hw, t1, t2, hc, hz0, storeCells]
    · simp [Builtin.append_, h0, h1, run_underlying hst, run_underlying hxt, run_sz hi, run_ti hi, asInt, asIntOf, hw, t1, t2, hc, if_neg hz0, hzr, zeroCells_eq, hs]
  · rcases rowDesc_is hd with ⟨e, rfl⟩ | rfl
    · simp [Builtin.append_, h0, h1, run_underlying hst, run_underlying hxt, run_sz hi, hl, hf, hc, hs]
    · simp [Builtin.append_, h0, h1, run_underlying hst, run_underlying hxt, run_sz hi, hl, hf, hc, hs]
theorem append_nil (h0 : argTypes[0]? = some st) (h1 : argTypes[1]? = some xt) (hst : P.underlying st = some (.slice elem)) (hxt : P.underlying xt = some xd) (hi : P.info? elem = some i) (hzr : (zeroValue elem).run P w = .ok z w)
    (hby : i.bytes ≤ 1000000) (hx : AppArg P w xd x n arr i.size z) {len cap : Nat} (hc : len + n ≤ cap) :
    (Builtin.append_ argTypes ty #[.slice none len cap, x]).run P w = .ok (.slice none (len + n) cap) w := by
  rcases hx with ⟨k0, k, rfl, rfl, hn, rfl⟩ | ⟨hd, hl, hf⟩
  · have hw : IntKind.i64.wrap (n : Int) = n := IntWalk.i64_in _ ⟨by omega, by omega⟩
    have t1 : ¬ ((n : Int) < 0) := by omega
    have hb : (n : Int) * i.bytes ≤ 1000000 * 1000000 := Int.mul_le_mul (by omega) (by omega) (by omega) (by omega)
    have t2 : ¬ (281474976710656 < (n : Int) * i.bytes) := by omega
    by_cases hz0 : n * i.size = 0
    · simp [Builtin.append_, h0, h1, run_underlying hst, run_underlying hxt, run_sz hi, run_ti hi, asInt, asIntOf, hw, t1, t2, hc, hz0]
    · simp [Builtin.append_, h0, h1, run_underlying hst, run_underlying hxt, run_sz hi, run_ti hi, asInt, asIntOf, hw, t1, t2, hc, hz0, hzr]
  · rcases rowDesc_is hd with ⟨e, rfl⟩ | rfl
    · simp [Builtin.append_, h0, h1, run_underlying hst, run_underlying hxt, run_sz hi, hl, hf, hc]
    · simp [Builtin.append_, h0, h1, run_underlying hst, run_underlying hxt, run_sz hi, hl, hf, hc]
theorem append_grows (h0 : argTypes[0]? = some st) (h1 : argTypes[1]? = some xt) (hst : P.underlying st = some (.slice elem)) (hxt : P.underlying xt = some xd) (hi : P.info? elem = some i) (hzr : ∀ w, (zeroValue elem).run P w = .ok z w)
    (hzs : z.cells.size = i.size) (hby : i.bytes ≤ 1000000) (hx : ∀ w', w'.heap = w.heap → AppArg P w' xd x n arr i.size z) {base : Option Addr} {len cap : Nat} (hc : cap < len + n) (hs : len + n ≤ 1000000) {old : Array Value}
    (ho : ∀ w', w'.heap = w.heap → (Builtin.firstCells i.size len (.slice base len cap)).run P w' = .ok old w') :
    ∃ c, len + n ≤ c ∧ (Builtin.append_ argTypes ty #[.slice base len cap, x]).run P w = .ok (.slice (some ⟨w.heap.size, 0, none⟩) (len + n) c) (w.drew.alloc (.cells (old ++ arr ++ (zerosN z.cells.toList (c - (len + n))).toArray) elem)) := by
  have hnc : ¬ (len + n ≤ cap) := by omega
  have h64 : IntKind.i64.max = 9223372036854775807 := by decide
  have k1 : ¬ ((9223372036854775807 : Int) < (len : Int) + (n : Int)) := by omega
  have hb0 : Builtin.nextslicecap (len + n) cap * i.bytes ≤ 3000000 * 1000000 := Nat.mul_le_mul (nextcap_le hc hs) hby
  have k2 : ¬ (281474976710656 < Builtin.nextslicecap (len + n) cap * i.bytes) := by omega
  have hfo : (Question.appendCap (len + n) cap elem).forced = false := rfl
  refine ⟨(Question.appendCap (len + n) cap elem).cut (w.tape w.drawn (Question.appendCap (len + n) cap elem)), by simp [Question.cut], ?_⟩
  have ho1 := ho w.drew rfl
  rcases hx w.drew rfl with ⟨k0, k, rfl, rfl, hn, rfl⟩ | ⟨hd', hl, hf⟩
  · have hw : IntKind.i64.wrap (n : Int) = n := IntWalk.i64_in _ ⟨by omega, by omega⟩
    have t1 : ¬ ((n : Int) < 0) := by omega
    have hb : (n : Int) * i.bytes ≤ 1000000 * 1000000 := Int.mul_le_mul (by omega) (by omega) (by omega) (by omega)
    have t2 : ¬ (281474976710656 < (n : Int) * i.bytes) := by omega
    by_cases hz0 : n * i.size = 0
    · have e0 : zerosN z.cells.toList n = [] := List.eq_nil_of_length_eq_zero (by rw [zerosN_length]; simp [hzs, hz0])
      simp [Builtin.append_, h0, h1, run_underlying hst, run_underlying hxt, run_sz hi, run_ti hi, asInt, asIntOf, hw, t1, t2, hnc, hzr, zeroCells_eq, h64, k1, k2, hfo, ho1, run_newRow, e0]
    · simp [Builtin.append_, h0, h1, run_underlying hst, run_underlying hxt, run_sz hi, run_ti hi, asInt, asIntOf, hw, t1, t2, hnc, if_neg hz0, hzr, zeroCells_eq, h64, k1, k2, hfo, ho1, run_newRow]
  · have hl0 : (Builtin.lenOf x).run P w = .ok n w := by
      rcases hx w rfl with ⟨k0, k, rfl, _⟩ | ⟨_, h, _⟩
      · simp [rowDesc] at hd'
      · exact h
    rcases rowDesc_is hd' with ⟨e, rfl⟩ | rfl
    · simp [Builtin.append_, h0, h1, run_underlying hst, run_underlying hxt, run_sz hi, run_ti hi, hl0, hf, hnc, hzr, zeroCells_eq, h64, k1, k2, hfo, ho1, run_newRow]
    · simp [Builtin.append_, h0, h1, run_underlying hst, run_underlying hxt, run_sz hi, run_ti hi, hl0, hf, hnc, hzr, zeroCells_eq, h64, k1, k2, hfo, ho1, run_newRow]
end

/-- a block is joined by a new name: in its place, or in a new place -/
theorem join_rel {A B : AW} {w w' : World} (h : WRel φ A w) {b : Nat} {i : BI} (hi : φ b = some i) (hBs : B.size = A.size) (hBg : ∀ x o, B.heap.get x = some o → A.heap.get x = some o)
    (hone : ∀ x o ix, B.heap.get x = some o → φ x = some ix → x ≠ b → ix.r ≠ i.r) {X : Option AObj} {N : AObj} {j : BI} (hX : ∀ o, X = some o → o.mate = some A.size ∧ N.mate = some b)
    (hj : j.r = i.r ∨ j.r = w.heap.size) (hjl : j.r < w'.heap.size) (hs : w.heap.size ≤ w'.heap.size) (hw : ∀ r, r < w.heap.size → r ≠ i.r → w'.heap[r]? = w.heap[r]?)
    (h1 : w'.os = w.os) (h2 : w'.tape = w.tape) (h3 : w'.output = w.output)
    (hXo : ∀ o, X = some o → ObjAt (φ.put A.size j) w' i o) (hN : ObjAt (φ.put A.size j) w' j N) :
    WRel (φ.put A.size j) ((B.set b X).alloc N) w' ∧ WStep φ w (φ.put A.size j) w' := by
  have hx : Ext φ (φ.put A.size j) := Emb.put_ext _ h.noNew
  have hsz : (B.set b X).size = A.size := hBs
  have hbA : b ≠ A.size := fun e => by have := h.dom b i hi; omega
  have get : ∀ x o, ((B.set b X).alloc N).heap.get x = some o → (x = A.size ∧ o = N) ∨ (x = b ∧ X = some o) ∨ (x ≠ A.size ∧ x ≠ b ∧ B.heap.get x = some o) := by
    intro x o e
    rw [alloc_get, hsz] at e
    split at e
    · rename_i hx'; cases e; exact .inl ⟨hx', rfl⟩
    · rename_i hx'
      rw [set_get] at e
      split at e
      · rename_i hx2; exact .inr (.inl ⟨hx2, e⟩)
      · rename_i hx2; exact .inr (.inr ⟨hx', hx2, e⟩)
  have pold : ∀ x ix, x ≠ A.size → (φ.put A.size j) x = some ix → φ x = some ix := fun x ix hne e => by unfold Emb.put at e; rwa [if_neg hne] at e
  refine ⟨⟨fun x ix e => ?_, fun x ix e => ?_, fun x o e => ?_, fun x1 x2 o1 o2 i1 i2 e1 e2 p1 p2 hr hne => ?_⟩, ⟨h1, h2, h3, hs, hx, fun x ix e => ?_, fun r hr hn => hw r hr (fun e => hn b i hi e.symm)⟩⟩
  · show x < (B.set b X).size + 1
    rw [hsz]
    unfold Emb.put at e
    split at e
    · omega
    · have := h.dom x ix e; omega
  · unfold Emb.put at e
    split at e
    · cases e; exact hjl
    · have := h.real x ix e; omega
  · rcases get x o e with ⟨rfl, rfl⟩ | ⟨rfl, hX'⟩ | ⟨n1, n2, e'⟩
    · exact ⟨j, Emb.put_same _ _ _, hN⟩
    · exact ⟨i, hx _ _ hi, hXo o hX'⟩
    · obtain ⟨ix, p, q⟩ := h.live x o (hBg x o e')
      exact ⟨ix, hx _ _ p, q.mono hx (hw _ (h.real _ _ p) (hone x o ix e' p n2))⟩
  · rcases get x1 o1 e1 with ⟨rfl, rfl⟩ | ⟨rfl, hX1⟩ | ⟨n1, m1, e1'⟩
    · have hj1 : i1 = j := by rw [Emb.put_same] at p1; exact (Option.some.inj p1).symm
      subst hj1
      rcases get x2 o2 e2 with ⟨rfl, rfl⟩ | ⟨rfl, hX2⟩ | ⟨n2, m2, e2'⟩
      · exact absurd rfl hne
      · exact (hX o2 hX2).2
      · exfalso
        have p2' := pold _ _ n2 p2
        rcases hj with hj | hj
        · exact hone x2 o2 i2 e2' p2' m2 (hr.symm.trans hj)
        · have := h.real _ _ p2'; omega
    · have hi1 : i1 = i := Option.some.inj ((pold _ _ hbA p1).symm.trans hi)
      subst hi1
      rcases get x2 o2 e2 with ⟨rfl, rfl⟩ | ⟨rfl, hX2⟩ | ⟨n2, m2, e2'⟩
      · exact (hX o1 hX1).1
      · exact absurd rfl hne
      · exact absurd hr.symm (hone x2 o2 i2 e2' (pold _ _ n2 p2) m2)
    · have p1' := pold _ _ n1 p1
      rcases get x2 o2 e2 with ⟨rfl, rfl⟩ | ⟨rfl, hX2⟩ | ⟨n2, m2, e2'⟩
      · exfalso
        have hj1 : i2 = j := by rw [Emb.put_same] at p2; exact (Option.some.inj p2).symm
        subst hj1
        rcases hj with hj | hj
        · exact hone x1 o1 i1 e1' p1' m1 (hr.trans hj)
        · have := h.real _ _ p1'; omega
      · have hi1 : i2 = i := Option.some.inj ((pold _ _ hbA p2).symm.trans hi)
        subst hi1
        exact absurd hr (hone x1 o1 i1 e1' p1' m1)
      · exact h.sep x1 x2 o1 o2 i1 i2 (hBg _ _ e1') (hBg _ _ e2') p1' (pold _ _ n2 p2) hr hne
  · unfold Emb.put at e
    split at e
    · cases e
      rcases hj with hj | hj
      · exact .inr (.inr ⟨b, i, hi, hj.symm⟩)
      · exact .inr (.inl (by omega))
    · exact .inl e
end Go.Proofs.YtcpafphgkbfahaaGreat
