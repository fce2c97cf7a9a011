/- An evaluator of closed runs: append, as the evaluator has it. -/
import Derived.Test.YtcpafphgkbfahaaGreatEvL
namespace Go.Proofs.YtcpafphgkbfahaaGreat
open Go Go.RowKit

variable {P : Program} {φ : Emb}
theorem WRel.drew {A : AW} {w : World} (h : WRel φ A w) : WRel φ A w.drew := h.heap rfl
theorem WStep.drew (φ : Emb) (w : World) : WStep φ w φ w.drew := WStep.heap φ rfl rfl rfl rfl
theorem zeros_rows (z : Value) (size n : Nat) (h : z.cells.size = size) : (zerosN z.cells.toList n).length = n * size := by rw [zerosN_length]; simp [h]
/-- the old cells and the new ones, in a block of their own -/
theorem pre_append {old new : List Value} {o n r : Array Value} (h1 : LRel φ old o.toList) (h2 : LRel φ new n.toList) : ∀ (j : Nat) (v : Value), (old ++ new)[j]? = some v → ∃ v', (o ++ n ++ r)[j]? = some v' ∧ VRel φ v v' := by
  intro j v e
  have h := h1.append h2
  obtain ⟨y, p, q⟩ := h.get e
  have hj : j < (o ++ n).size := by
    have := (List.getElem?_eq_some_iff.1 p).1
    simpa using this
  refine ⟨y, ?_, q⟩
  rw [Array.getElem?_append_left hj, ← Array.getElem?_toList, Array.toList_append]
  exact p
theorem grown_rel {b r δ sz es l c : Nat} {ψ : Emb} (h : ψ b = some ⟨r, δ, sz, es⟩) (hc : l ≤ c) (hr : δ + c * es ≤ sz) : VRel ψ (grown' b l es) (.slice (some ⟨r, δ, none⟩) l c) := by
  have := VRel.sliceG (φ := ψ) (b := b) (o := 0) (l := l) (c := l) (c' := c) (es := es) h hc rfl (by simpa using hr)
  simpa [grown'] using this
theorem first_load {A : AW} {w : World} (hW : WRel φ A w) {b o len cap es : Nat} {i : BI} (hi : φ b = some i) {sp : Option Nat} {old : List Value} (h : (bif Nat.beq (len * es) 0 then some [] else A.load ⟨b, o, sp⟩ (len * es)) = some old) :
    ∃ old', LRel φ old old' ∧ old.length = len * es ∧ ∀ w' : World, w'.heap = w.heap → (Builtin.firstCells es len (.slice (some ⟨i.r, i.δ + o, none⟩) len cap)).run P w' = .ok old'.toArray w' := by
  cases hz : Nat.beq (len * es) 0 with
  | true =>
    rw [hz] at h; simp only [cond_true, Option.some.injEq] at h; subst h
    rw [nat_beq_eq, decide_eq_true_iff] at hz
    exact ⟨[], LRel.nil _, by simp [hz], fun w' _ => by simp [Builtin.firstCells, hz, loadCells, loadCellsFrom]⟩
  | false =>
    rw [hz] at h; simp only [cond_false] at h
    obtain ⟨vs', q1, q2, q3⟩ := load_rel (P := P) hW hi h
    refine ⟨vs', q2, q3, fun w' hw' => ?_⟩
    -- the same cells in both
    unfold AW.load at h
    split at h
    · rename_i cs hcs
      obtain ⟨_, u, u1, u2⟩ := loadN_rel hW hcs hi h
      have u3 : ∀ j v, u[j]? = some v → w'.cell? ((⟨i.r, i.δ + o, none⟩ : Addr).add j) = some v := fun j v e => by
        rw [← u2 j v e]; exact World.cell?_of_block (w := w) (by rw [hw'])
      have a1 := run_loadCells_list (P := P) w' ⟨i.r, i.δ + o, none⟩ u u3
      have a2 := run_loadCells_list (P := P) w ⟨i.r, i.δ + o, none⟩ u u2
      rw [← u1.1, q3] at a1 a2
      have e1 := a2.symm.trans q1
      injection e1 with e2 _
      rw [Builtin.firstCells, a1, e2]
    · cases h
theorem noneFrom_spec : ∀ {cs : Tr Value} {o n : Nat}, noneFrom cs o n = true → ∀ k, o ≤ k → k < o + n → cs.get k = none
  | cs, o, 0, _, k, h1, h2 => by omega
  | cs, o, n + 1, h, k, h1, h2 => by
    simp only [noneFrom, Bool.and_eq_true] at h
    by_cases e : k = o
    · subst e; simpa using h.1
    · exact noneFrom_spec h.2 k (by omega) (by omega)
theorem loadN_spec : ∀ {cs : Tr Value} {o n : Nat} {vs : List Value}, loadN cs o n = some vs → vs.length = n ∧ ∀ k v, vs[k]? = some v → cs.get (o + k) = some v
  | cs, o, 0, vs, h => by simp [loadN] at h; subst h; exact ⟨rfl, fun k v e => by simp at e⟩
  | cs, o, n + 1, vs, h => by
    simp only [loadN] at h
    split at h
    · rename_i v ws h1 h2
      cases h
      obtain ⟨a, b⟩ := loadN_spec h2
      refine ⟨by simp [a], fun k u e => ?_⟩
      cases k with
      | zero => simp at e; subst e; exact h1
      | succ k => rw [show o + (k + 1) = o + 1 + k by omega]; exact b k u (by simpa using e)
    · cases h
theorem one_rel {vs vs' : List Value} (r : LRel φ vs vs') (h : vs.all Value.oneCell' = true) : ∀ v ∈ vs', v.oneCell' = true := by
  intro v hv
  obtain ⟨k, hk, rfl⟩ := List.getElem_of_mem hv
  have hk' : k < vs.length := by have := r.1; omega
  have := r.2 k vs[k] vs'[k] (by simp) (by simp)
  rw [this.one]
  rw [List.all_eq_true] at h
  exact h _ (by simp)
section
variable {w : World} {A A' : AW} {argTypes : Array TypeId} {ty st xt elem : TypeId} {xd : TypeDesc} {i : TypeInfo} {z : Value} {x : Value} {n : Nat} {arr : Array Value}
theorem aAppend_ok (hW : WRel φ A w) (h0 : argTypes[0]? = some st) (h1 : argTypes[1]? = some xt) (hst : P.underlying st = some (.slice elem)) (hxt : P.underlying xt = some xd) (hti : P.info? elem = some i) (hz : zeroOf P elem = some z)
    (hzs : z.cells.size = i.size) (hby : i.bytes ≤ 1000000) (hx : ∀ w' : World, w'.heap = w.heap → AppArg P w' xd x n arr i.size z) {new : List Value} (rn : LRel φ new arr.toList) (hnl : new.length = n * i.size)
    {base : Option Addr} {len cap : Nat} {bv : Value} (rb : VRel φ (.slice base len cap) bv) {v : Value} (h : aAppend A i.size base len cap n new = some (v, A')) : DoesV P φ w (Builtin.append_ argTypes ty #[bv, x]) v A' := by
  have hzr : ∀ w : World, (zeroValue elem).run P w = .ok z w := fun w => (zeroOf_run hz w).1
  have harr : arr.size = n * i.size := by have := rn.1; simp at this; omega
  -- a new block
  have fresh : ∀ (c : Nat) (old : List Value) (old' : Array Value) (A1 : AW), len + n ≤ c → A1.size = A.size → WRel φ A1 w → LRel φ old old'.toList → old.length = len * i.size →
      VRel (φ.put A.size ⟨w.heap.size, 0, (old' ++ arr ++ (zerosN z.cells.toList (c - (len + n))).toArray).size, i.size⟩) (grown' A.size (len + n) i.size) (.slice (some ⟨w.heap.size, 0, none⟩) (len + n) c) ∧
      WRel (φ.put A.size ⟨w.heap.size, 0, (old' ++ arr ++ (zerosN z.cells.toList (c - (len + n))).toArray).size, i.size⟩) (newCells A1 (old ++ new) none) (w.drew.alloc (.cells (old' ++ arr ++ (zerosN z.cells.toList (c - (len + n))).toArray) elem)) ∧
      WStep φ w (φ.put A.size ⟨w.heap.size, 0, (old' ++ arr ++ (zerosN z.cells.toList (c - (len + n))).toArray).size, i.size⟩) (w.drew.alloc (.cells (old' ++ arr ++ (zerosN z.cells.toList (c - (len + n))).toArray) elem)) := by
    intro c old old' A1 hc hs hW1 ho hl
    refine ⟨grown_rel (Emb.put_same _ _ _) hc ?_, ?_⟩
    · have e1 : old'.size = len * i.size := by have := ho.1; simp at this; omega
      simp only [Array.size_append, List.size_toArray, zeros_rows z i.size _ hzs, e1, harr]
      have : c * i.size = len * i.size + n * i.size + (c - (len + n)) * i.size := by rw [← Nat.add_mul, ← Nat.add_mul]; congr 1; omega
      omega
    · have := (hW1.drew).newCells (vs := old ++ new) (c := old' ++ arr ++ (zerosN z.cells.toList (c - (len + n))).toArray) elem i.size (pre_append ho rn)
      rw [hs] at this
      exact ⟨this.1, (WStep.drew φ w).trans this.2⟩
  unfold aAppend at h
  simp only [] at h
  cases hn : Nat.ble (len + n) cap with
  | true =>
    rw [hn] at h; simp only [cond_true] at h
    rw [nat_ble_eq, decide_eq_true_iff] at hn
    split at h
    · cases h
      cases rb
      exact ⟨w, φ, _, append_nil h0 h1 hst hxt hti (hzr w) hby (hx w rfl) hn, .nilSlice _ _, hW, WStep.refl _ _⟩
    · rename_i ad
      split at h
      · rename_i A1 hs
        cases h
        cases rb with
        | slice e =>
          obtain ⟨w1, p1, p2, p3⟩ := store_rel (P := P) hW e hs rn
          refine ⟨w1, φ, _, append_in h0 h1 hst hxt hti (hzr w) hzs hby (hx w rfl) hn ?_, .slice e, p2, p3⟩
          rw [add_at, Nat.add_assoc]; exact p1
        | sliceG e hc he hr =>
          obtain ⟨w1, p1, p2, p3⟩ := store_rel (P := P) hW e hs rn
          refine ⟨w1, φ, _, append_in h0 h1 hst hxt hti (hzr w) hzs hby (hx w rfl) (by omega) ?_, .sliceG e (by omega) he hr, p2, p3⟩
          rw [add_at, Nat.add_assoc]; exact p1
        | sliceE e he hr =>
          have hn0 : n = 0 := by omega
          subst hn0
          have e1 : new = [] := List.eq_nil_of_length_eq_zero (by rw [hnl]; simp)
          subst e1
          have e2 : arr.toList = [] := rn.nil_inv
          simp only [AW.store, Option.some.injEq] at hs; subst hs
          refine ⟨w, φ, _, append_in h0 h1 hst hxt hti (hzr w) hzs hby (hx w rfl) (by omega) ?_, .sliceE e he hr, hW, WStep.refl _ _⟩
          rw [e2]; rfl
      · cases h
  | false =>
    rw [hn] at h; simp only [cond_false] at h
    have hn' : cap < len + n := by
      rw [nat_ble_eq, decide_eq_false_iff_not] at hn; omega
    obtain ⟨hsm, h⟩ := bif_none h
    have hsm' : len + n ≤ 1000000 := by
      simp only [Bool.not_eq_false', nat_ble_eq, decide_eq_true_eq] at hsm
      exact hsm
    cases base with
    | none =>
      simp only [] at h
      obtain ⟨hl, h⟩ := bif_some h
      cases h
      rw [nat_beq_eq, decide_eq_true_iff] at hl
      subst hl
      cases rb
      obtain ⟨c, hc, run⟩ := append_grows (old := #[]) (ty := ty) h0 h1 hst hxt hti hzr hzs hby hx (base := none) hn' hsm' (fun w' _ => by simp [Builtin.firstCells])
      obtain ⟨f1, f2, f3⟩ := fresh c [] #[] A hc rfl hW (LRel.nil _) (by simp)
      exact ⟨_, _, _, run, f1, by simpa using f2, f3⟩
    | some ad =>
      simp only [] at h
      split at h
      · rename_i hsp
        split at h
        · rename_i old hold
          cases h
          cases rb with
          | slice e =>
            obtain ⟨old', q1, q2, q3⟩ := first_load (P := P) (cap := cap) hW e hold
            obtain ⟨c, hc, run⟩ := append_grows (ty := ty) h0 h1 hst hxt hti hzr hzs hby hx hn' hsm' q3
            obtain ⟨f1, f2, f3⟩ := fresh c old old'.toArray A hc rfl hW (by simpa using q1) q2
            exact ⟨_, _, _, run, f1, f2, f3⟩
          | sliceG e => cases hsp
          | sliceE e => cases hsp
        · cases h
      · rename_i es hsp
        obtain ⟨hes, h⟩ := bif_some h
        rw [Bool.and_eq_true, nat_beq_eq, decide_eq_true_iff] at hes
        obtain ⟨hes, hone1⟩ := hes
        have one := one_rel rn hone1
        split at h
        · rename_i cs mate hl
          -- the mate is given up
          obtain ⟨V, hV⟩ : ∃ V, V = A.unmate mate := ⟨_, rfl⟩
          rw [← hV] at h
          have hVs : V.size = A.size := by rw [hV]; cases mate <;> rfl
          have hVg : ∀ x o, V.heap.get x = some o → A.heap.get x = some o := by
            intro x o e
            rw [hV] at e
            cases mate with
            | none => exact e
            | some m =>
              simp only [AW.unmate] at e
              rw [set_get] at e
              split at e
              · cases e
              · exact e
          have hVW : WRel φ V w := by
            rw [hV]; cases mate with
            | none => exact hW
            | some m => exact hW.kill m
          have hVone : ∀ {j : BI}, φ ad.block = some j → ∀ x o ix, V.heap.get x = some o → φ x = some ix → x ≠ ad.block → ix.r ≠ j.r := by
            intro j hj x o ix e p hne
            rw [hV] at e
            cases mate with
            | none => exact hW.alone hl hj rfl x o ix e p hne
            | some m => exact hW.alone_kill hl hj rfl x o ix e p hne
          have arrl : arr.toList.length = n * i.size := by simpa using harr
          -- in place
          have place : ∀ {b o' c' : Nat} {j : BI} {N : AObj} {X : Option AObj}, ad.block = b → φ b = some j → j.es = i.size → o' + c' * i.size ≤ j.sz → len + n ≤ c' →
              (∀ o, X = some o → o.mate = some A.size ∧ N.mate = some b) →
              (∀ (cA : Array Value) (t : TypeId), w.heap[j.r]? = some (.cells cA t (0, 0)) → cA.size = j.sz → (∀ k v, cs.get k = some v → ∃ v', cA[j.δ + k]? = some v' ∧ VRel φ v v') → ∀ w1 : World,
                w1.heap[j.r]? = some (.cells (cA.toList.take (o' + len * i.size) ++ arr.toList ++ cA.toList.drop (o' + len * i.size + arr.toList.length)).toArray t (0, 0)) →
                (∀ o, X = some o → ObjAt (φ.put A.size ⟨j.r, o', j.sz, i.size⟩) w1 j o) ∧ ObjAt (φ.put A.size ⟨j.r, o', j.sz, i.size⟩) w1 ⟨j.r, o', j.sz, i.size⟩ N) →
              DoesV P φ w (Builtin.append_ argTypes ty #[.slice (some ⟨j.r, o', none⟩) len c', x]) (grown' A.size (len + n) i.size) ((V.set b X).alloc N) := by
            intro b o' c' j N X hb hj hje hroom hc hX hobj
            subst hb
            obtain ⟨j', p, cA, t, g1, g2, g3⟩ := hW.live _ _ hl
            have : j' = j := Option.some.inj (p.symm.trans hj)
            subst this
            have hmul : (len + n) * i.size ≤ c' * i.size := Nat.mul_le_mul_right _ hc
            rw [Nat.add_mul] at hmul
            have fit : o' + len * i.size + 0 + arr.toList.length ≤ cA.size := by rw [arrl, g2]; omega
            have run := run_storeCells_at (P := P) j'.r (o' + len * i.size) t arr.toList 0 cA w g1 fit one
            obtain ⟨k1, k2⟩ := hobj cA t g1 g2 g3 _ (setRow_heap w j'.r cA (cA.toList.take (o' + len * i.size + 0) ++ arr.toList ++ cA.toList.drop (o' + len * i.size + 0 + arr.toList.length)).toArray t _ g1)
            have jr := join_rel (A := A) (B := V) (w' := w.setRow j'.r (cA.toList.take (o' + len * i.size + 0) ++ arr.toList ++ cA.toList.drop (o' + len * i.size + 0 + arr.toList.length)).toArray) (X := X) (N := N) (j := ⟨j'.r, o', j'.sz, i.size⟩) hW hj hVs hVg (hVone hj) hX (.inl rfl)
              (by show j'.r < _; rw [setRow_size]; exact hW.real _ _ hj) (by rw [setRow_size]; exact Nat.le_refl _) (fun r _ hr => setRow_other _ _ _ _ hr) rfl rfl rfl k1 k2
            refine ⟨_, _, _, append_in h0 h1 hst hxt hti (hzr w) hzs hby (hx w rfl) hc (by rw [add_at]; exact run), ?_, jr.1, jr.2⟩
            exact grown_rel (Emb.put_same _ _ _) hc hroom
          cases hc0 : Nat.beq cap 0 with
          | true =>
            rw [hc0] at h; simp only [cond_true] at h
            rw [nat_beq_eq, decide_eq_true_iff] at hc0
            obtain ⟨hl0, h⟩ := bif_some h
            rw [nat_beq_eq, decide_eq_true_iff] at hl0
            cases h
            subst hl0
            -- where it lies, in either case
            obtain ⟨b, o', c', j, rfl, rfl, hj, hje, hroom⟩ : ∃ b o' c' j, ad.block = b ∧ bv = .slice (some ⟨j.r, o', none⟩) 0 c' ∧ φ b = some j ∧ j.es = i.size ∧ o' + c' * i.size ≤ j.sz := by
              cases rb with
              | slice e => cases hsp
              | sliceG e hc he hr => cases hsp; subst hes; exact ⟨_, _, _, _, rfl, rfl, e, he, hr⟩
              | sliceE e he hr => cases hsp; subst hes; exact ⟨_, _, _, _, rfl, rfl, e, he, hr⟩
            by_cases hfit : 0 + n ≤ c'
            · refine place rfl hj hje hroom hfit (fun o e => (by cases e)) (fun cA t g1 g2 g3 w1 hw1 => ⟨fun o e => (by cases e), _, t, hw1, ?_, fun k v e => ?_⟩)
              · have hmul : (0 + n) * i.size ≤ c' * i.size := Nat.mul_le_mul_right _ hfit
                rw [Nat.zero_add] at hmul
                simp [g2]; omega
              · have hmul : (0 + n) * i.size ≤ c' * i.size := Nat.mul_le_mul_right _ hfit
                rw [Nat.zero_add] at hmul
                rw [Tr.get_ofL0] at e
                have hk : k < new.length := (List.getElem?_eq_some_iff.1 e).1
                obtain ⟨y, y1, y2⟩ := rn.get e
                refine ⟨y, ?_, y2.mono (Emb.put_ext _ hW.noNew)⟩
                show (List.toArray _)[o' + k]? = some y
                rw [List.getElem?_toArray, seg_get _ _ _ (by rw [arrl]; simp [g2]; omega), if_pos (by rw [arrl]; omega)]
                rw [← y1]; congr 1; omega
            · obtain ⟨c, hc, run⟩ := append_grows (old := #[]) (ty := ty) h0 h1 hst hxt hti hzr hzs hby hx (base := some ⟨j.r, o', none⟩) (len := 0) (cap := c') (by omega) hsm' (fun w' _ => by simp [Builtin.firstCells, loadCells, loadCellsFrom])
              obtain ⟨f1, f2, f3⟩ := fresh c [] #[] (V.set ad.block none) hc hVs (hVW.kill _) (LRel.nil _) (by simp)
              exact ⟨_, _, _, run, f1, by simpa using f2, f3⟩
          | false =>
            rw [hc0] at h; simp only [cond_false] at h
            rw [nat_beq_eq, decide_eq_false_iff_not] at hc0
            obtain ⟨hnf, h⟩ := bif_some h
            split at h
            · rename_i old hold
              cases h
              cases rb with
              | slice e => cases hsp
              | sliceE e => exact absurd rfl hc0
              | @sliceG b o _ _ c' es' j e hcc he hr =>
                cases hsp
                subst hes
                have hnone := noneFrom_spec hnf
                obtain ⟨ol, og⟩ := loadN_spec hold
                simp only [] at hold og hnone
                by_cases hfit : len + n ≤ c'
                · refine place rfl e he hr hfit (fun o e => (by cases e; exact ⟨rfl, rfl⟩)) (fun cA t g1 g2 g3 w1 hw1 => ⟨fun o' e' => ?_, ?_⟩)
                  · cases e'
                    have hmul : (len + n) * i.size ≤ c' * i.size := Nat.mul_le_mul_right _ hfit
                    rw [Nat.add_mul] at hmul
                    refine ⟨_, t, hw1, by simp [g2]; omega, fun k v ek => ?_⟩
                    obtain ⟨v', y1, y2⟩ := g3 k v ek
                    refine ⟨v', ?_, y2.mono (Emb.put_ext _ hW.noNew)⟩
                    rw [List.getElem?_toArray, seg_get _ _ _ (by rw [arrl]; simp [g2]; omega), if_neg (by
                      intro hh
                      rw [arrl] at hh
                      have := hnone k (by omega) (by omega)
                      rw [ek] at this; cases this)]
                    simpa using y1
                  · have hmul : (len + n) * i.size ≤ c' * i.size := Nat.mul_le_mul_right _ hfit
                    rw [Nat.add_mul] at hmul
                    refine ⟨_, t, hw1, by simp [g2]; omega, fun k v ek => ?_⟩
                    rw [Tr.get_ofL0] at ek
                    rw [List.getElem?_toArray, seg_get _ _ _ (by rw [arrl]; simp [g2]; omega)]
                    by_cases hk : k < old.length
                    · rw [List.getElem?_append_left hk] at ek
                      obtain ⟨v', y1, y2⟩ := g3 _ v (og k v ek)
                      refine ⟨v', ?_, y2.mono (Emb.put_ext _ hW.noNew)⟩
                      rw [if_neg (by simp only []; omega), Array.getElem?_toList, ← y1]
                      congr 1; simp only []; omega
                    · rw [List.getElem?_append_right (by omega)] at ek
                      have hk2 : k - old.length < new.length := (List.getElem?_eq_some_iff.1 ek).1
                      obtain ⟨y, y1, y2⟩ := rn.get ek
                      refine ⟨y, ?_, y2.mono (Emb.put_ext _ hW.noNew)⟩
                      rw [if_pos (by rw [arrl]; simp only []; omega), ← y1]
                      congr 1; simp only []; omega
                · have hload : (bif Nat.beq (len * i.size) 0 then some [] else A.load ⟨b, o, none⟩ (len * i.size)) = some old := by
                    cases hz0 : Nat.beq (len * i.size) 0 with
                    | true =>
                      rw [nat_beq_eq, decide_eq_true_iff] at hz0
                      rw [hz0] at hold; simp [loadN] at hold; subst hold; rfl
                    | false => rw [cond_false]; unfold AW.load AW.cells; simp only [hl]; exact hold
                  obtain ⟨old', q1, q2, q3⟩ := first_load (P := P) (cap := c') hW e hload
                  obtain ⟨c, hc, run⟩ := append_grows (ty := ty) h0 h1 hst hxt hti hzr hzs hby hx (base := some ⟨j.r, j.δ + o, none⟩) (len := len) (cap := c') (by omega) hsm' q3
                  obtain ⟨jj, p, cA, t, g1, g2, g3⟩ := hW.live _ _ hl
                  have : jj = j := Option.some.inj (p.symm.trans e)
                  subst this
                  have hnew : (w.drew.alloc (.cells (old'.toArray ++ arr ++ (zerosN z.cells.toList (c - (len + n))).toArray) elem)).heap[w.heap.size]? = some (.cells (old'.toArray ++ arr ++ (zerosN z.cells.toList (c - (len + n))).toArray) elem (0, 0)) := World.alloc_heap_new _ _
                  have jr := join_rel (A := A) (B := V) (w' := w.drew.alloc (.cells (old'.toArray ++ arr ++ (zerosN z.cells.toList (c - (len + n))).toArray) elem)) (X := some (.cells cs (some A.size))) (N := .cells (Tr.ofL (old ++ new) 0 .nil) (some b))
                    (j := ⟨w.heap.size, 0, (old'.toArray ++ arr ++ (zerosN z.cells.toList (c - (len + n))).toArray).size, i.size⟩) hW e hVs hVg (hVone e) (fun o e => by cases e; exact ⟨rfl, rfl⟩) (.inr rfl)
                    (by simp) (by simp) (fun r hr _ => Below.heap_alloc w.drew _ r hr) rfl rfl rfl
                    (fun o' e' => by
                      cases e'
                      exact ⟨cA, t, (Below.heap_alloc w.drew _ _ (hW.real _ _ e)).trans g1, g2, fun k v ek => let ⟨v', y1, y2⟩ := g3 k v ek; ⟨v', y1, y2.mono (Emb.put_ext _ hW.noNew)⟩⟩)
                    ⟨_, elem, hnew, rfl, fun k v ek => by
                      rw [Tr.get_ofL0] at ek
                      obtain ⟨v', y1, y2⟩ := pre_append (o := old'.toArray) (n := arr) (r := (zerosN z.cells.toList (c - (len + n))).toArray) (by simpa using q1) rn k v ek
                      exact ⟨v', by rw [Nat.zero_add]; exact y1, y2.mono (Emb.put_ext _ hW.noNew)⟩⟩
                  obtain ⟨f1, _, _⟩ := fresh c old old'.toArray A hc rfl hW (by simpa using q1) q2
                  exact ⟨_, _, _, run, f1, jr.1, jr.2⟩
            · cases h
        · cases h
end
end Go.Proofs.YtcpafphgkbfahaaGreat
