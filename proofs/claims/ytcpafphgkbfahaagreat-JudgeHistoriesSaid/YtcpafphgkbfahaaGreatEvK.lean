/- An evaluator of closed runs: maps and iterators, written. -/
import Derived.Test.YtcpafphgkbfahaaGreatEvJ
namespace Go.Proofs.YtcpafphgkbfahaaGreat
open Go Go.RowKit

variable {P : Program} {φ : Emb}
theorem put_rel {A : AW} {w : World} (h : WRel φ A w) {b : Nat} {i : BI} {o o2 : AObj} {o' : Obj} (hl : A.heap.get b = some o) (hi : φ b = some i) (hm : o.mate = none)
    (ho : ∀ w' : World, w'.heap[i.r]? = some o' → ObjAt φ w' i o2) : WRel φ (A.set b (some o2)) (w.putObj i.r o') ∧ WStep φ w φ (w.putObj i.r o') :=
  h.turn hi (h.alone hl hi hm) (fun r hr => World.putObj_heap_other (w := w) hr) (by simp [World.putObj]) (ho _ (World.putObj_heap_same (h.real _ _ hi))) rfl rfl rfl
theorem ERel.cons_inv {x : MapEntry} {es es' : List MapEntry} (h : ERel φ (x :: es) es') : ∃ y t, es' = y :: t ∧ EntRel φ x y ∧ ERel φ es t := by
  cases es' with
  | nil => simp [ERel] at h
  | cons y t => exact ⟨y, t, rfl, h.2 0 x y rfl rfl, by simpa using h.1, fun j u v p q => h.2 (j + 1) u v (by simpa using p) (by simpa using q)⟩
theorem ERel.nil_inv {es' : List MapEntry} (h : ERel φ [] es') : es' = [] := by
  cases es' with
  | nil => rfl
  | cons y t => simp [ERel] at h
theorem ERel.nil : ERel φ [] [] := ⟨rfl, fun j x y e => by simp at e⟩
theorem ERel.cons {x y : MapEntry} {es es' : List MapEntry} (h : EntRel φ x y) (r : ERel φ es es') : ERel φ (x :: es) (y :: es') :=
  ⟨by simp [r.1], fun j u v e f => by
    cases j with
    | zero => simp at e f; subst e; subst f; exact h
    | succ j => simp at e f; exact r.2 j u v e f⟩
theorem ERel.snoc {x y : MapEntry} : ∀ {es es' : List MapEntry}, ERel φ es es' → EntRel φ x y → ERel φ (es ++ [x]) (es' ++ [y])
  | [], es', r, h => by rw [r.nil_inv]; exact ERel.cons h ERel.nil
  | u :: es, es', r, h => by
    obtain ⟨v, t, rfl, h1, h2⟩ := r.cons_inv
    exact ERel.cons h1 (ERel.snoc h2 h)
theorem ERel.modify {f g : MapEntry → MapEntry} (hf : ∀ x y, EntRel φ x y → EntRel φ (f x) (g y)) : ∀ {es es' : List MapEntry} (i : Nat), ERel φ es es' → ERel φ (es.modify i f) (es'.modify i g)
  | [], es', i, r => by rw [r.nil_inv]; cases i <;> exact ERel.nil
  | u :: es, es', i, r => by
    obtain ⟨v, t, rfl, h1, h2⟩ := r.cons_inv
    cases i with
    | zero => exact ERel.cons (hf _ _ h1) h2
    | succ i => exact ERel.cons h1 (ERel.modify hf i h2)
theorem ERel.filter {p : Nat → Bool} : ∀ {es es' : List MapEntry}, ERel φ es es' → ERel φ (es.filter fun e => p e.born) (es'.filter fun e => p e.born)
  | [], es', r => by rw [r.nil_inv]; exact ERel.nil
  | u :: es, es', r => by
    obtain ⟨v, t, rfl, h1, h2⟩ := r.cons_inv
    simp only [List.filter_cons, h1.born]
    split
    · exact ERel.cons h1 (ERel.filter h2)
    · exact ERel.filter h2
theorem ERel.allBorn {p : Nat → Bool} : ∀ {es es' : List MapEntry}, ERel φ es es' → (es'.all fun e => p e.born) = es.all fun e => p e.born
  | [], es', r => by rw [r.nil_inv]
  | u :: es, es', r => by
    obtain ⟨v, t, rfl, h1, h2⟩ := r.cons_inv
    simp [h1.born, ERel.allBorn h2]
theorem ERel.findIdx {p : Nat → Bool} : ∀ {es es' : List MapEntry}, ERel φ es es' → es'.findIdx? (fun e => p e.born) = es.findIdx? fun e => p e.born
  | [], es', r => by rw [r.nil_inv]
  | u :: es, es', r => by
    obtain ⟨v, t, rfl, h1, h2⟩ := r.cons_inv
    simp [List.findIdx?_cons, h1.born, ERel.findIdx h2]
theorem ERel.find {p : Nat → Bool} : ∀ {es es' : List MapEntry} {e : MapEntry}, ERel φ es es' → es.find? (fun e => p e.born) = some e → ∃ e', es'.find? (fun e => p e.born) = some e' ∧ EntRel φ e e'
  | [], es', e, r, h => by simp at h
  | u :: es, es', e, r, h => by
    obtain ⟨v, t, rfl, h1, h2⟩ := r.cons_inv
    simp only [List.find?_cons, h1.born] at h ⊢
    split at h
    · cases h; exact ⟨v, rfl, h1⟩
    · exact ERel.find h2 h
theorem ERel.get {es es' : List MapEntry} (r : ERel φ es es') {i : Nat} {e : MapEntry} (h : es[i]? = some e) : ∃ e', es'[i]? = some e' ∧ EntRel φ e e' := by
  have hj : i < es.length := (List.getElem?_eq_some_iff.1 h).1
  exact ⟨es'[i]'(r.1 ▸ hj), by simp [r.1 ▸ hj], r.2 i e _ h (by simp [r.1 ▸ hj])⟩
theorem setMap {w : World} {r : Nat} {es : Array MapEntry} {c : Nat} (o : Obj) (h : w.heap[r]? = some (.map es c)) : (setObj r o).run P w = .ok () (w.putObj r o) := by simp [setObj, Sem.run, h, World.putObj]
theorem getIter {w : World} {r : Nat} {m : Option Nat} {s : Nat} {seen : Array Nat} {c : Nat} (h : w.heap[r]? = some (.mapIter m s seen c)) : (getObj r).run P w = .ok (.mapIter m s seen c) w := by simp [getObj, Sem.run, h]
theorem setIter {w : World} {r : Nat} {m : Option Nat} {s : Nat} {seen : Array Nat} {c : Nat} (o : Obj) (h : w.heap[r]? = some (.mapIter m s seen c)) : (setObj r o).run P w = .ok () (w.putObj r o) := by simp [setObj, Sem.run, h, World.putObj]
theorem keyStays {old new : Value} (h : Instr.sameBits 10000 old new = true) (w : World) : (Instr.keyThatStays old new).run P w = .ok new w := by simp [Instr.keyThatStays, h]
/-- what the map in block r of the evaluator's is in the world -/
theorem map_at {A : AW} {w : World} (h : WRel φ A w) {b : Nat} {es : List MapEntry} {clock : Nat} (hl : A.heap.get b = some (.map es clock)) {p : Value} (hp : VRel φ (.map (some b)) p) :
    ∃ i es', φ b = some i ∧ p = .map (some i.r) ∧ w.heap[i.r]? = some (.map es' clock) ∧ ERel φ es es'.toList := by
  cases hp with
  | map hi =>
    obtain ⟨i', p, es', h1, h2⟩ := h.live b _ hl
    have : i' = _ := Option.some.inj (p.symm.trans hi)
    subst this
    exact ⟨i', es', hi, rfl, h1, h2⟩
theorem keyD {es : List MapEntry} {es' : Array MapEntry} (r : ERel φ es es'.toList) (i : Nat) (k : Value) : ((es'[i]?).map (·.key)).getD k = ((es[i]?).map (·.key)).getD k := by
  cases h : es[i]? with
  | none =>
    have : es.length ≤ i := List.getElem?_eq_none_iff.1 h
    have h2 : es'.size ≤ i := by have := r.1; simp at this; omega
    rw [Array.getElem?_eq_none h2]
  | some e =>
    obtain ⟨e', p, q⟩ := r.get h
    have : es'[i]? = some e' := by simpa using p
    rw [this]; simp [q.key]
theorem bornD {es : List MapEntry} {es' : Array MapEntry} (r : ERel φ es es'.toList) (i : Nat) : ((es'[i]?).map (fun x => (x.born : Int))).getD 0 = ((es[i]?).map (fun x => (x.born : Int))).getD 0 := by
  cases h : es[i]? with
  | none =>
    have : es.length ≤ i := List.getElem?_eq_none_iff.1 h
    have h2 : es'.size ≤ i := by have := r.1; simp at this; omega
    rw [Array.getElem?_eq_none h2]
  | some e =>
    obtain ⟨e', p, q⟩ := r.get h
    have : es'[i]? = some e' := by simpa using p
    rw [this]; simp [q.born]
theorem hUpdate_ok {A A' : AW} {w : World} (hW : WRel φ A w) {T : Tr Value} {a : Act} (hT : TRel φ T a.tmps) {t : TypeId} {m k x : Operand} {v : Value} (h : hUpdate P T A t m k x = some (v, A')) :
    v = undef ∧ ∃ w', (Instr.mapUpdate t (a.eval m) (a.eval k) (a.eval x)).run P w = .ok () w' ∧ WRel φ A' w' ∧ WStep φ w φ w' := by
  unfold hUpdate at h
  split at h
  · rename_i kt et b kv u ht hm hk hx
    split at h
    · rename_i es clock hl
      obtain ⟨h1, h2⟩ := bif_some h
      obtain ⟨c1, c2⟩ := keyOk_run h1 w
      have rm := aev_rel hT hm
      have rk := groundB_eq c2 (aev_rel hT hk)
      have rx := aev_rel hT hx
      rw [rk]
      generalize a.eval m = q at rm
      generalize a.eval x = q' at rx
      obtain ⟨i, es', hi, rfl, hg, he⟩ := map_at hW hl rm
      have gk := ground_of 8 kv c2
      have hgo := getMap (P := P) hg
      split at h2
      · rename_i n v0 hs
        obtain ⟨h3, h4⟩ := bif_some h2
        cases h4
        obtain ⟨r', p, s⟩ := seekKey_rel he hs w
        cases r' with
        | none => exact s.elim
        | some n' =>
          obtain ⟨n', v1⟩ := n'
          have hn : n = n' := s.1
          subst hn
          obtain ⟨q1, q2⟩ := put_rel (o' := .map (es'.modify n fun e => { e with key := kv, val := q' }) clock) (o2 := .map (setVal es n kv u) clock) hW hl hi rfl (fun w' hw =>
            ⟨_, hw, by
              rw [Array.toList_modify]
              exact ERel.modify (f := fun e => { e with key := kv, val := u }) (g := fun e => { e with key := kv, val := q' }) (fun x y r => ⟨rfl, gk, r.born, rx⟩) n he⟩)
          refine ⟨rfl, _, ?_, q1, q2⟩
          have hst := keyStays (P := P) (by rw [keyD he]; exact h3 : Instr.sameBits 10000 (((es'[n]?).map (·.key)).getD kv) kv = true) w
          simp only [Instr.mapUpdate, Sem.run_bind, run_underlying ht, Result.andThen_ok, hgo, c1, p, hst, setMap _ hg]
      · rename_i hs
        cases h2
        obtain ⟨r', p, s⟩ := seekKey_rel he hs w
        cases r' with
        | some n' => exact s.elim
        | none =>
          obtain ⟨q1, q2⟩ := put_rel (o' := .map (es'.push { key := kv, val := q', born := clock }) (clock + 1)) (o2 := .map (es ++ [{ key := kv, val := u, born := clock }]) (clock + 1)) hW hl hi rfl (fun w' hw =>
            ⟨_, hw, by
              rw [Array.toList_push]
              exact he.snoc ⟨rfl, gk, rfl, rx⟩⟩)
          refine ⟨rfl, _, ?_, q1, q2⟩
          simp only [Instr.mapUpdate, Sem.run_bind, run_underlying ht, Result.andThen_ok, hgo, c1, p, setMap _ hg]
      · cases h2
    · cases h
  · cases h
theorem hMapEntry_ok {A A' : AW} {w : World} (hW : WRel φ A w) {T : Tr Value} {a : Act} (hT : TRel φ T a.tmps) {t : TypeId} {m k : Operand} {v : Value} (h : hMapEntry P T A t m k = some (v, A')) :
    DoesV P φ w (Instr.mapEntry t (a.eval m) (a.eval k)) v A' := by
  unfold hMapEntry at h
  split at h
  · rename_i kt et b kv ht hm hk
    split at h
    · rename_i es clock hl
      obtain ⟨h1, h2⟩ := bif_some h
      obtain ⟨c1, c2⟩ := keyOk_run h1 w
      have rm := aev_rel hT hm
      have rk := groundB_eq c2 (aev_rel hT hk)
      rw [rk]
      generalize a.eval m = q at rm
      obtain ⟨i, es', hi, rfl, hg, he⟩ := map_at hW hl rm
      have gk := ground_of 8 kv c2
      have hgo := getMap (P := P) hg
      split at h2
      · rename_i n v0 hs
        obtain ⟨h3, h4⟩ := bif_some h2
        cases h4
        obtain ⟨r', p, s⟩ := seekKey_rel he hs w
        cases r' with
        | none => exact s.elim
        | some n' =>
          obtain ⟨n', v1⟩ := n'
          have hn : n = n' := s.1
          subst hn
          obtain ⟨q1, q2⟩ := put_rel (o' := .map (es'.modify n fun e => { e with key := kv }) clock) (o2 := .map (es.modify n fun e => { e with key := kv }) clock) hW hl hi rfl (fun w' hw =>
            ⟨_, hw, by
              rw [Array.toList_modify]
              exact ERel.modify (f := fun e => { e with key := kv }) (g := fun e => { e with key := kv }) (fun x y r => ⟨rfl, gk, r.born, r.val⟩) n he⟩)
          have hst := keyStays (P := P) (by rw [keyD he]; exact h3 : Instr.sameBits 10000 (((es'[n]?).map (·.key)).getD kv) kv = true) w
          refine ⟨_, φ, _, by simp only [Instr.mapEntry, Sem.run_bind, run_underlying ht, Result.andThen_ok, hgo, c1, p, hst, setMap _ hg, Sem.run_pure]; rfl, ?_, q1, q2⟩
          rw [bornD he]
          exact VRel.tuple_list (LRel.cons s.2.1 (LRel.cons (.int _ _) (LRel.nil _)))
      · rename_i hs
        split at h2
        · rename_i z hz
          cases h2
          obtain ⟨z1, z2⟩ := zeroOf_run hz w
          obtain ⟨r', p, s⟩ := seekKey_rel he hs w
          cases r' with
          | some n' => exact s.elim
          | none =>
            obtain ⟨q1, q2⟩ := put_rel (o' := .map (es'.push { key := kv, val := z, born := clock }) (clock + 1)) (o2 := .map (es ++ [{ key := kv, val := z, born := clock }]) (clock + 1)) hW hl hi rfl (fun w' hw =>
              ⟨_, hw, by
                rw [Array.toList_push]
                exact he.snoc ⟨rfl, gk, rfl, z2.1 φ⟩⟩)
            refine ⟨_, φ, _, by simp only [Instr.mapEntry, Sem.run_bind, run_underlying ht, Result.andThen_ok, hgo, c1, p, z1, setMap _ hg, Sem.run_pure]; rfl, ?_, q1, q2⟩
            exact VRel.tuple_list (LRel.cons (z2.1 φ) (LRel.cons (.int _ _) (LRel.nil _)))
        · cases h2
      · cases h2
    · cases h
  · cases h
theorem hEntryStore_ok {A A' : AW} {w : World} (hW : WRel φ A w) {T : Tr Value} {a : Act} (hT : TRel φ T a.tmps) {t : TypeId} {m s x : Operand} {v : Value} (h : hEntryStore T A m s x = some (v, A')) :
    v = undef ∧ ∃ w', (Instr.entryStore t (a.eval m) (a.eval s) (a.eval x)).run P w = .ok () w' ∧ WRel φ A' w' ∧ WStep φ w φ w' := by
  unfold hEntryStore at h
  split at h
  · rename_i b k born u hm hs hx
    split at h
    · rename_i es clock hl
      split at h
      · rename_i n hn
        cases h
        have rm := aev_rel hT hm
        have rs := aev_rel hT hs
        have rx := aev_rel hT hx
        generalize a.eval m = q at rm
        generalize a.eval s = q2 at rs
        generalize a.eval x = q3 at rx
        cases rs
        obtain ⟨i, es', hi, rfl, hg, he⟩ := map_at hW hl rm
        have hgo := getMap (P := P) hg
        obtain ⟨q1, q2⟩ := put_rel (o' := .map (es'.modify n fun e => { e with val := q3 }) clock) (o2 := .map (es.modify n fun e => { e with val := u }) clock) hW hl hi rfl (fun w' hw =>
          ⟨_, hw, by
            rw [Array.toList_modify]
            exact ERel.modify (f := fun e => { e with val := u }) (g := fun e => { e with val := q3 }) (fun x y r => ⟨r.key, r.ground, r.born, rx⟩) n he⟩)
        refine ⟨rfl, _, ?_, q1, q2⟩
        have hf : es'.findIdx? (fun e => (e.born : Int) == born) = some n := by
          have e1 := List.findIdx?_toArray (fun e : MapEntry => (e.born : Int) == born) es'.toList
          rw [Array.toArray_toList] at e1
          rw [e1, ERel.findIdx (p := fun b => (b : Int) == born) he]; exact hn
        simp only [Instr.entryStore, Sem.run_bind, Result.andThen_ok, hgo, asInt, asIntOf, Sem.run_pure, hf, setMap _ hg]
      · cases h
    · cases h
  · cases h
theorem hRange_ok {A A' : AW} {w : World} (hW : WRel φ A w) {T : Tr Value} {a : Act} (hT : TRel φ T a.tmps) {t : TypeId} {x : Operand} {v : Value} (h : hRange P T A t x = some (v, A')) :
    DoesV P φ w (Instr.range t (a.eval x)) v A' := by
  unfold hRange at h
  split at h
  · rename_i k e ht hx
    cases h
    have rx := aev_rel hT hx
    generalize a.eval x = q at rx
    cases rx
    obtain ⟨q1, q2⟩ := hW.alloc (.iter none 0 [] 0) (.mapIter none 0 #[] 0) 0 0 (fun ψ w' _ hw => ⟨none, hw, trivial, rfl⟩)
    exact ⟨_, _, _, by simp [Instr.range, run_underlying ht], new_ptr A w 0 0, q1, q2⟩
  · rename_i k e b ht hx
    split at h
    · rename_i es clock hl
      cases h
      have rx := aev_rel hT hx
      generalize a.eval x = q at rx
      obtain ⟨i, es', hi, rfl, hg, he⟩ := map_at hW hl rx
      have hgo := getMap (P := P) hg
      obtain ⟨q1, q2⟩ := hW.alloc (.iter (some b) clock [] clock) (.mapIter (some i.r) clock #[] clock) 0 0 (fun ψ w' hx hw => ⟨some i.r, hw, ⟨i, hx _ _ hi, rfl⟩, rfl⟩)
      exact ⟨_, _, _, by simp [Instr.range, run_underlying ht, hgo], new_ptr A w 0 0, q1, q2⟩
    · cases h
  · cases h
theorem iter_at {A : AW} {w : World} (h : WRel φ A w) {b : Nat} {m : Option Nat} {since : Nat} {seen : List Nat} {last : Nat} (hl : A.heap.get b = some (.iter m since seen last)) {p : Value} (hp : VRel φ (.pointer (some ⟨b, 0, none⟩)) p) :
    ∃ i m', φ b = some i ∧ p = .pointer (some ⟨i.r, 0, none⟩) ∧ w.heap[i.r]? = some (.mapIter m' since seen.toArray last) ∧ MRel φ m m' ∧ i.δ = 0 := by
  cases hp with
  | ptr hi =>
    obtain ⟨i', p, m', h1, h2, h3⟩ := h.live b _ hl
    have : i' = _ := Option.some.inj (p.symm.trans hi)
    subst this
    exact ⟨i', m', hi, by rw [h3], h1, h2, h3⟩
theorem arr_contains (l : List Nat) (x : Nat) : l.toArray.contains x = l.contains x := by simp
theorem hNext_ok {A A' : AW} {w : World} (hW : WRel φ A w) {T : Tr Value} {a : Act} (hT : TRel φ T a.tmps) {x : Operand} {isS : Bool} {ty : TypeId} {v : Value} (h : hNext T A x isS = some (v, A')) :
    DoesV P φ w (Instr.next (a.eval x) isS ty) v A' := by
  unfold hNext at h
  obtain ⟨hs, h⟩ := bif_none h
  subst hs
  split at h
  · rename_i b hx
    have rx := aev_rel hT hx
    generalize a.eval x = q at rx
    split at h
    · rename_i since seen last hl
      cases h
      obtain ⟨i, m', hi, rfl, hg, hm, hδ⟩ := iter_at hW hl rx
      have hgo := getIter (P := P) hg
      have : m' = none := by cases m' with
        | none => rfl
        | some _ => exact hm.elim
      subst this
      exact ⟨w, φ, .tuple #[.bool false], by simp [Instr.next, hgo], VRel.tuple_list (LRel.cons (.bool _) (LRel.nil _)), hW, WStep.refl _ _⟩
    · rename_i mb since seen last hl
      obtain ⟨i, m', hi, rfl, hg, hm, hδ⟩ := iter_at hW hl rx
      have hgo := getIter (P := P) hg
      split at h
      · rename_i es clock hml
        cases m' with
        | none => exact hm.elim
        | some rm =>
          obtain ⟨j, hj, hjr⟩ := hm
          obtain ⟨j', es', hj', e0, hg2, he⟩ := map_at hW hml (VRel.map hj)
          have : j' = j := Option.some.inj (hj'.symm.trans hj)
          subst this
          subst hjr
          have hgo2 := getMap (P := P) hg2
          have h1 : (!seen.isEmpty && !es.isEmpty && es.all fun e => Nat.ble last e.born) = false := by
            cases hc : (!seen.isEmpty && !es.isEmpty && es.all fun e => Nat.ble last e.born) with
            | true => rw [hc] at h; cases h
            | false => rfl
          rw [h1, cond_false] at h
          have h2 := h
          have hun : (!seen.toArray.isEmpty && !es'.isEmpty && es'.all fun e => decide (e.born ≥ last)) = false := by
            have a1 : (es'.all fun e => decide (e.born ≥ last)) = es.all fun e => Nat.ble last e.born := by
              rw [← Array.all_toList]
              have := ERel.allBorn (p := fun b => Nat.ble last b) he
              rw [← this]
              congr 1
              funext e
              rw [nat_ble_eq]
            rw [a1, isEmpty_len he]
            have a2 : seen.toArray.isEmpty = seen.isEmpty := by cases seen <;> simp [Array.isEmpty]
            rw [a2]; exact h1
          have hleft : (es'.filter fun e => !seen.toArray.contains e.born).toList = es'.toList.filter fun e => !seen.contains e.born := by
            rw [Array.toList_filter]
            simp only [arr_contains]
          have hf := ERel.filter (p := fun b => !seen.contains b) he
          split at h2
          · rename_i hnil
            cases h2
            rw [hnil] at hf
            have e1 := hf.nil_inv
            have e2 : (es'.filter fun e => !seen.toArray.contains e.born) = #[] := Array.ext' (by rw [hleft, e1])
            refine ⟨w, φ, .tuple #[.bool false], ?_, VRel.tuple_list (LRel.cons (.bool _) (LRel.nil _)), hW, WStep.refl _ _⟩
            simp only [Instr.next, Sem.run_bind, hgo, Result.andThen_ok, hgo2, hun, Bool.false_eq_true, if_false, e2]
            simp [Question.forced]
          · rename_i e hone
            obtain ⟨h3, h4⟩ := bif_some h2
            cases h4
            rw [nat_blt_eq, decide_eq_true_iff] at h3
            rw [hone] at hf
            obtain ⟨e', t', f1, f2, f3⟩ := hf.cons_inv
            have f4 := f3.nil_inv
            subst f4
            have e2 : (es'.filter fun e => !seen.toArray.contains e.born) = #[e'] := Array.ext' (by rw [hleft, f1])
            have hb : e'.born < since := by rw [f2.born]; exact h3
            have hb2 : ¬ (e'.born ≥ since) := by omega
            obtain ⟨q1, q2⟩ := put_rel (o' := .mapIter (some j'.r) since (seen.toArray.push e'.born) clock) (o2 := .iter (some mb) since (seen ++ [e.born]) clock) hW hl hi rfl (fun w' hw =>
              ⟨some j'.r, by rw [hw, f2.born]; simp, ⟨j', hj, rfl⟩, hδ⟩)
            refine ⟨_, φ, .tuple #[.bool true, e'.key, e'.val], ?_, VRel.tuple_list (LRel.cons (.bool _) (LRel.cons (by rw [f2.key]; exact f2.ground.1 φ) (LRel.cons f2.val (LRel.nil _)))), q1, q2⟩
            simp only [Instr.next, Sem.run_bind, hgo, Result.andThen_ok, hgo2, hun, Bool.false_eq_true, if_false, e2]
            simp [Question.forced, hb, hb2, setIter _ hg]
          · cases h2
      · cases h
    · cases h
  · cases h
theorem hEntry_ok {A A' : AW} {w : World} (hW : WRel φ A w) {T : Tr Value} {a : Act} (hT : TRel φ T a.tmps) {x : Operand} {v : Value} (h : hEntry T A x = some (v, A')) :
    DoesV P φ w (Instr.entry (a.eval x)) v A' := by
  unfold hEntry at h
  split at h
  · rename_i b hx
    have rx := aev_rel hT hx
    generalize a.eval x = q at rx
    split at h
    · rename_i mb since seen last hl
      obtain ⟨i, m', hi, rfl, hg, hm, hδ⟩ := iter_at hW hl rx
      have hgo := getIter (P := P) hg
      split at h
      · rename_i es clock stamp hml hst
        obtain ⟨h1, h2⟩ := bif_some h
        rw [nat_beq_eq, decide_eq_true_iff] at h1
        split at h2
        · rename_i e hf
          cases h2
          cases m' with
          | none => exact hm.elim
          | some rm =>
            obtain ⟨j, hj, hjr⟩ := hm
            obtain ⟨j', es', hj', e0, hg2, he⟩ := map_at hW hml (VRel.map hj)
            have : j' = j := Option.some.inj (hj'.symm.trans hj)
            subst this
            subst hjr
            have hgo2 := getMap (P := P) hg2
            obtain ⟨e', f1, f2⟩ := ERel.find (p := fun b => b == stamp) he hf
            have f3 : es'.find? (fun e => e.born == stamp) = some e' := by
              have := List.find?_toArray (f := fun e : MapEntry => e.born == stamp) (l := es'.toList)
              rw [Array.toArray_toList] at this
              rw [this]; exact f1
            have hb : seen.toArray.back? = some stamp := by simpa using hst
            subst h1
            refine ⟨w, φ, .tuple #[e'.key, e'.val], ?_, VRel.tuple_list (LRel.cons (by rw [f2.key]; exact f2.ground.1 φ) (LRel.cons f2.val (LRel.nil _))), hW, WStep.refl _ _⟩
            simp [Instr.entry, hgo, hgo2, hb, f3]
        · cases h2
      · cases h
    · cases h
  · cases h
end Go.Proofs.YtcpafphgkbfahaaGreat
