/- An evaluator of closed runs: stores; maps; iterators. -/
import Derived.Test.YtcpafphgkbfahaaGreatEvI
namespace Go.Proofs.YtcpafphgkbfahaaGreat
open Go Go.RowKit

variable {P : Program} {φ : Emb}
theorem seg_get {α : Type} (l vs : List α) (p : Nat) (hp : p + vs.length ≤ l.length) (k : Nat) : (l.take p ++ vs ++ l.drop (p + vs.length))[k]? = if p ≤ k ∧ k < p + vs.length then vs[k - p]? else l[k]? := by
  have ht : (l.take p).length = p := by simp; omega
  by_cases h1 : k < p
  · rw [List.append_assoc, List.getElem?_append_left (by omega), if_neg (by omega), List.getElem?_take_of_lt h1]
  · by_cases h2 : k < p + vs.length
    · rw [if_pos ⟨by omega, h2⟩, List.getElem?_append_left (by simp; omega), List.getElem?_append_right (by omega), ht]
    · rw [if_neg (by omega), List.getElem?_append_right (by simp; omega), List.getElem?_drop]
      congr 1; simp; omega
theorem storeN_spec : ∀ {vs : List Value} {cs cs' : Tr Value} {o : Nat}, storeN cs o vs = some cs' →
    (∀ k, k < vs.length → (cs.get (o + k)).isSome = true) ∧ (∀ v ∈ vs, v.oneCell' = true) ∧ ∀ j, cs'.get j = if o ≤ j ∧ j < o + vs.length then vs[j - o]? else cs.get j
  | [], cs, cs', o, h => by
    simp [storeN] at h; subst h
    exact ⟨fun k hk => by simp at hk, fun v hv => by simp at hv, fun j => by rw [if_neg (by simp)]⟩
  | v :: vs, cs, cs', o, h => by
    simp only [storeN] at h
    split at h
    · rename_i u hu
      obtain ⟨h1, h2⟩ := bif_some h
      obtain ⟨a, b, c⟩ := storeN_spec h2
      refine ⟨fun k hk => ?_, fun x hx => ?_, fun j => ?_⟩
      · cases k with
        | zero => simp [hu]
        | succ k =>
          have := a k (by simp at hk; omega)
          rw [Tr.get_put, if_neg (by omega)] at this
          rw [show o + (k + 1) = o + 1 + k by omega]; exact this
      · cases hx with
        | head => exact h1
        | tail _ hx => exact b x hx
      · rw [c j, Tr.get_put]
        by_cases e : j = o
        · subst e; rw [if_neg (by omega), if_pos rfl, if_pos (by simp)]; simp
        · by_cases e2 : o + 1 ≤ j ∧ j < o + 1 + vs.length
          · rw [if_pos e2, if_pos (by simp; omega), show j - o = j - (o + 1) + 1 by omega]; rfl
          · rw [if_neg e2, if_neg e, if_neg (by simp; omega)]
    · cases h
theorem setRow_other (w : World) (g : Nat) (cs : Array Value) (r : Nat) (h : r ≠ g) : (w.setRow g cs).heap[r]? = w.heap[r]? := by
  simp only [World.setRow, Array.getElem?_modify]
  rw [if_neg (Ne.symm h)]
theorem setRow_size (w : World) (g : Nat) (cs : Array Value) : (w.setRow g cs).heap.size = w.heap.size := by simp [World.setRow]
theorem store_rel {A A' : AW} {w : World} (h : WRel φ A w) {b o : Nat} {sp : Option Nat} {i : BI} (hi : φ b = some i) {vs vs' : List Value} (e : A.store ⟨b, o, sp⟩ vs = some A') (r : LRel φ vs vs') :
    ∃ w', (storeCells ⟨i.r, i.δ + o, none⟩ vs').run P w = .ok () w' ∧ WRel φ A' w' ∧ WStep φ w φ w' := by
  cases vs with
  | nil =>
    simp only [AW.store, Option.some.injEq] at e; subst e
    rw [r.nil_inv]
    exact ⟨w, rfl, h, WStep.refl _ _⟩
  | cons v0 vs0 =>
    simp only [AW.store] at e
    have hlen : 0 < (v0 :: vs0).length := by simp
    generalize v0 :: vs0 = vs at e r hlen
    split at e
    · rename_i cs mate hl
      split at e
      · rename_i cs' hs
        obtain ⟨s1, s2, s3⟩ := storeN_spec hs
        obtain ⟨i', p, c, t, h1, h2, h3⟩ := h.live b _ hl
        have : i' = i := Option.some.inj (p.symm.trans hi)
        subst this
        have fit : i'.δ + o + vs.length ≤ c.size := by
          obtain ⟨u, hu⟩ := Option.isSome_iff_exists.1 (s1 (vs.length - 1) (by omega))
          obtain ⟨u', q, _⟩ := h3 _ u hu
          have := (Array.getElem?_eq_some_iff.1 q).1
          omega
        have one : ∀ v ∈ vs', v.oneCell' = true := by
          intro v hv
          obtain ⟨k, hk, rfl⟩ := List.getElem_of_mem hv
          have hk' : k < vs.length := by have := r.1; omega
          have := r.2 k vs[k] vs'[k] (by simp) (by simp)
          rw [this.one]
          exact s2 _ (by simp)
        have run := run_storeCells_at (P := P) i'.r (i'.δ + o) t vs' 0 c w h1 (by have := r.1; omega) one
        refine ⟨_, run, ?_⟩
        have obj : ∀ m, ObjAt φ (w.setRow i'.r (c.toList.take (i'.δ + o + 0) ++ vs' ++ c.toList.drop (i'.δ + o + 0 + vs'.length)).toArray) i' (.cells cs' m) := by
          intro m
          refine ⟨_, t, setRow_heap w i'.r c _ t _ h1, by simp; have := r.1; omega, fun j v q => ?_⟩
          rw [s3 j] at q
          rw [List.getElem?_toArray, Nat.add_zero, seg_get _ _ _ (by simp; have := r.1; omega)]
          split at q
          · rename_i hj
            rw [if_pos (by have := r.1; omega), show i'.δ + j - (i'.δ + o) = j - o by omega]
            exact r.get q
          · rename_i hj
            rw [if_neg (by have := r.1; omega)]
            obtain ⟨v', q1, q2⟩ := h3 j v q
            exact ⟨v', by simpa using q1, q2⟩
        split at e
        · cases e
          exact h.turn hi (h.alone hl hi rfl) (fun r hr => setRow_other _ _ _ _ hr) (setRow_size _ _ _) (obj none) rfl rfl rfl
        · rename_i m
          cases e
          exact (h.kill _).turn hi (h.alone_kill hl hi rfl) (fun r hr => setRow_other _ _ _ _ hr) (setRow_size _ _ _) (obj none) rfl rfl rfl
      · cases e
    · cases e
theorem hStore_ok {A A' : AW} {w : World} (hW : WRel φ A w) {T : Tr Value} {a : Act} (hT : TRel φ T a.tmps) {t : TypeId} {x y : Operand} {v : Value} (h : hStore P T A t x y = some (v, A')) :
    v = undef ∧ ∃ w', (Instr.storeAt t (a.eval x) (a.eval y)).run P w = .ok () w' ∧ WRel φ A' w' ∧ WStep φ w φ w' := by
  unfold hStore at h
  split at h
  · rename_i ad u i hx hy hi
    obtain ⟨h1, h2⟩ := bif_some h
    simp only [nat_beq_eq, decide_eq_true_eq] at h1
    split at h2
    · rename_i A1 hs
      cases h2
      have rx := aev_rel hT hx
      have ry := aev_rel hT hy
      generalize a.eval x = q at rx
      generalize a.eval y = q' at ry
      cases rx with
      | ptr e =>
        obtain ⟨w', p1, p2, p3⟩ := store_rel (P := P) hW e hs ry.cells
        refine ⟨rfl, w', ?_, p2, p3⟩
        have hsz : q'.cells.size = i.size := by have := ry.cells.1; simp at this; omega
        simp [Instr.storeAt, Instr.sureAddr, storeVar, run_sz hi, hsz, p1]
    · cases h2
  · cases h
theorem mapObj_new {A : AW} {w : World} (h : WRel φ A w) : WRel (φ.put A.size ⟨w.heap.size, 0, 0, 0⟩) (A.alloc (.map [] 0)) (w.alloc (.map #[] 0)) ∧ WStep φ w (φ.put A.size ⟨w.heap.size, 0, 0, 0⟩) (w.alloc (.map #[] 0)) :=
  h.alloc _ _ 0 0 (fun ψ w' _ hw => ⟨#[], hw, rfl, fun j x y e => by simp at e⟩)
theorem hMakeMap_ok {A A' : AW} {w : World} (hW : WRel φ A w) {T : Tr Value} {a : Act} (hT : TRel φ T a.tmps) {t : TypeId} {r : Option Operand} {v : Value} (h : hMakeMap P T A t r = some (v, A')) :
    DoesV P φ w (Instr.makeMap t (r.map a.eval)) v A' := by
  unfold hMakeMap at h
  obtain ⟨q1, q2⟩ := mapObj_new hW
  have qv := VRel.map (Emb.put_same φ A.size ⟨w.heap.size, 0, 0, 0⟩)
  split at h
  · cases h
    exact ⟨_, _, _, by simp [Instr.makeMap], qv, q1, q2⟩
  · rename_i x
    split at h
    · rename_i k e k' n ht hx
      cases h
      have rx := aev_rel hT hx
      generalize hq : a.eval x = q at rx
      cases rx
      exact ⟨_, _, _, by simp [Instr.makeMap, hq, run_underlying ht, asInt, asIntOf], qv, q1, q2⟩
    · cases h
theorem hMakeSlice_run {A A' : AW} {w : World} {T : Tr Value} {a : Act} (hT : TRel φ T a.tmps) {t : TypeId} {l c : Operand} {v : Value} (h : hMakeSlice P T A t l c = some (v, A')) :
    ∃ (zs : List Value) (elem : TypeId) (l' c' : Nat), v = .slice (some ⟨A.size, 0, none⟩) l' c' ∧ A' = newCells A zs none ∧ (∀ ψ : Emb, LRel ψ zs zs) ∧ (∀ B : AW, hMakeSlice P T B t l c = some (.slice (some ⟨B.size, 0, none⟩) l' c', newCells B zs none)) ∧
      (Instr.makeSlice t (a.eval l) (a.eval c)).run P w = .ok (.slice (some ⟨w.heap.size, 0, none⟩) l' c') (w.alloc (.cells zs.toArray elem)) := by
  unfold hMakeSlice at h
  split at h
  · rename_i elem l' c' ht hl hc
    split at h
    · rename_i i z hi hz
      obtain ⟨h1, h2⟩ := bif_some h
      have h1' := h1
      simp only [Bool.and_eq_true, nat_beq_eq, nat_ble_eq, decide_eq_true_eq] at h1
      obtain ⟨⟨⟨k1, k2⟩, k3⟩, k4⟩ := h1
      cases h2
      have rl := aev_rel hT hl
      have rc := aev_rel hT hc
      generalize a.eval l = q at rl
      generalize a.eval c = q' at rc
      cases rl; cases rc
      obtain ⟨z1, z2⟩ := zeroOf_run hz w
      unfold small at k3 k4
      have hc64 : IntKind.i64.wrap (c' : Int) = c' := IntWalk.i64_in _ ⟨by omega, by omega⟩
      have hl64 : IntKind.i64.wrap (l' : Int) = l' := IntWalk.i64_in _ ⟨by omega, by omega⟩
      have hbig : (i.bytes : Int) * c' ≤ 1000000 * 1000000 := Int.mul_le_mul (by omega) (by omega) (by omega) (by omega)
      refine ⟨zerosN z.cells.toList c', elem, l', c', rfl, rfl, fun ψ => z2.cellsG ψ c', fun B => by simp only [hMakeSlice, ht, hl, hc, hi, hz, h1', cond_true], ?_⟩
      have t1 : ¬ ((c' : Int) < 0) := by omega
      have t3 : ¬ ((l' : Int) < 0) := by omega
      have t4 : ¬ ((l' : Int) > (c' : Int)) := by omega
      have t2' : ¬ (281474976710656 < (i.bytes : Int) * (c' : Int)) := by omega
      by_cases h0 : c' * i.size = 0
      · have e0 : zerosN z.cells.toList c' = [] := List.eq_nil_of_length_eq_zero (by rw [zerosN_length]; simp [k1, h0])
        have er : (Array.range 0).map (fun (_ : Nat) => (default : Value)) = #[] := Array.ext' (by simp)
        simp [Instr.makeSlice, run_underlying ht, asInt, asIntOf, run_ti hi, hc64, hl64, t1, t2', t3, t4, run_sz hi, h0, e0, run_newRow, er]
      · have e1 : (Array.range (c' * i.size)).map (fun x => z.cells[x % z.cells.size]!) = (zerosN z.cells.toList c').toArray := Array.ext' (range_zeros z.cells c' _ (by rw [k1]))
        simp [Instr.makeSlice, run_underlying ht, asInt, asIntOf, run_ti hi, hc64, hl64, t1, t2', t3, t4, run_sz hi, if_neg h0, z1, e1, run_newRow]
    · cases h
  · cases h
theorem hMakeSlice_ok {A A' : AW} {w : World} (hW : WRel φ A w) {T : Tr Value} {a : Act} (hT : TRel φ T a.tmps) {t : TypeId} {l c : Operand} {v : Value} (h : hMakeSlice P T A t l c = some (v, A')) :
    DoesV P φ w (Instr.makeSlice t (a.eval l) (a.eval c)) v A' := by
  obtain ⟨zs, elem, l', c', rfl, rfl, hz, _, run⟩ := hMakeSlice_run (w := w) hT h
  obtain ⟨q1, q2⟩ := hW.newCells (c := zs.toArray) elem 0 (LRel.pre (by simpa using hz φ))
  exact ⟨_, _, _, run, new_slice A w _ 0 l' c', q1, q2⟩
end Go.Proofs.YtcpafphgkbfahaaGreat
