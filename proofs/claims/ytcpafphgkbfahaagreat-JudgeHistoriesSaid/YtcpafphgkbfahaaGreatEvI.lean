/- An evaluator of closed runs: readings, all; new blocks, stores. -/
import Derived.Test.YtcpafphgkbfahaaGreatEvH
namespace Go.Proofs.YtcpafphgkbfahaaGreat
open Go Go.RowKit

variable {P : Program} {φ : Emb}
theorem findNow_none {d : TypeDesc} {k : Value} : ∀ {es es' : List MapEntry} {n : Nat}, ERel φ es es' → Instr.findNow d k es n = none → Instr.findNow d k es' n = none
  | [], es', n, h, e => by simp [Instr.findNow] at e
  | x :: es, es', n, h, e => by
    cases es' with
    | nil => simp [ERel] at h
    | cons y es' =>
      have hxy := h.2 0 x y rfl rfl
      have ht : ERel φ es es' := ⟨by simpa using h.1, fun j u v p q => h.2 (j + 1) u v (by simpa using p) (by simpa using q)⟩
      simp only [Instr.findNow] at e ⊢
      rw [hxy.key]
      split at e
      · cases e
      · exact findNow_none ht e
      · rfl
def SeekRel (φ : Emb) (es : List MapEntry) : Option (Nat × Value) → Option (Nat × Value) → Prop
  | none, none => True
  | some (i, v), some (j, v') => i = j ∧ VRel φ v v' ∧ i < es.length ∧ ∃ e, es[i]? = some e ∧ e.val = v
  | _, _ => False
theorem seekKey_rel {kt : TypeId} {k : Value} {es es' : List MapEntry} {r : Option (Nat × Value)} (h : ERel φ es es') (e : seekKey P kt k es = some r) (w : World) :
    ∃ r', (Instr.findKey kt k es').run P w = .ok r' w ∧ SeekRel φ es r r' := by
  have fin : ∀ {r r' : Option (Nat × Value)}, (match r, r' with
      | none, none => True
      | some (i, v), some (j, v') => i = j ∧ VRel φ v v' ∧ 0 ≤ i ∧ i < 0 + es.length ∧ ∃ e, es[i - 0]? = some e ∧ e.val = v
      | _, _ => False) → SeekRel φ es r r' := by
    intro r r' q
    cases r with
    | none => cases r' with
      | none => trivial
      | some _ => exact q
    | some u => cases r' with
      | none => exact q
      | some u' => obtain ⟨q1, q2, q3, q4, e1, q5, q6⟩ := q; exact ⟨q1, q2, by omega, e1, by simpa using q5, q6⟩
  unfold seekKey at e
  split at e
  · cases e
  · rename_i d hd
    unfold Instr.findKey
    rw [Sem.run_bind, run_underlying hd]
    simp only [Result.andThen_ok]
    split at e
    · rename_i r0 hr
      cases e
      obtain ⟨r', p, q⟩ := findNow_rel h hr
      rw [p]
      exact ⟨r', rfl, fin q⟩
    · rename_i hr
      rw [findNow_none h hr]
      obtain ⟨r', p, q⟩ := askKey_rel w h e
      exact ⟨r', p, fin q⟩
theorem keyOk_run {em : Bool} {kt : TypeId} {k : Value} (h : keyOk P em kt k = true) (w : World) : (Instr.checkKey em 10000 kt k).run P w = .ok () w ∧ groundB 8 k = true := by
  unfold keyOk at h
  simp only [Bool.and_eq_true] at h
  obtain ⟨u, hu⟩ := Option.isSome_iff_exists.1 h.2
  exact ⟨runPure_run hu w, h.1⟩
theorem isEmpty_len {es : List MapEntry} {es' : Array MapEntry} (h : ERel φ es es'.toList) : es'.isEmpty = es.isEmpty := by
  have := h.1
  cases es with
  | nil => simp at this; simp [Array.isEmpty, this]
  | cons x es => simp at this; simp [Array.isEmpty]; intro e; simp [e] at this
theorem getMap {w : World} {r : Nat} {es : Array MapEntry} {c : Nat} (h : w.heap[r]? = some (.map es c)) : (getObj r).run P w = .ok (.map es c) w := by simp [getObj, Sem.run, h]
theorem rLookup_ok {T : Tr Value} {A : AW} {w : World} {a : Act} (hT : TRel φ T a.tmps) (hW : WRel φ A w) {t : TypeId} {m k : Operand} {ok : Bool} {v : Value} (h : rLookup P T A t m k ok = some v) :
    Vals P φ (Instr.lookup t (a.eval m) (a.eval k) ok) w v := by
  unfold rLookup at h
  split at h
  · rename_i kt et r kv ht hm hk
    split at h
    · rename_i es hes
      obtain ⟨h1, h2⟩ := bif_some h
      obtain ⟨c1, c2⟩ := keyOk_run h1 w
      have rm := aev_rel hT hm
      have rk := groundB_eq c2 (aev_rel hT hk)
      rw [rk]
      have fin : ∀ {v v' : Value} {b : Bool}, VRel φ v v' → VRel φ (if ok then .tuple #[v, .bool b] else v) (if ok then .tuple #[v', .bool b] else v') := by
        intro v v' b r
        cases ok with
        | true => exact VRel.tuple_list (LRel.cons r (LRel.cons (.bool _) (LRel.nil _)))
        | false => exact r
      have key : ∀ (es' : Array MapEntry), ERel φ es es'.toList → (Instr.checkKey es'.isEmpty 10000 kt kv).run P w = .ok () w ∧
          ((∃ i v0 v', (Instr.findKey kt kv es'.toList).run P w = .ok (some (i, v')) w ∧ VRel φ v0 v' ∧ v = if ok then .tuple #[v0, .bool true] else v0) ∨
           (∃ z, (Instr.findKey kt kv es'.toList).run P w = .ok none w ∧ (zeroValue et).run P w = .ok z w ∧ VRel φ z z ∧ v = if ok then .tuple #[z, .bool false] else z)) := by
        intro es' he
        rw [isEmpty_len he]
        refine ⟨c1, ?_⟩
        split at h2
        · rename_i i0 v0 hs
          cases h2
          obtain ⟨r', p, q⟩ := seekKey_rel he hs w
          cases r' with
          | none => exact q.elim
          | some u => exact .inl ⟨u.1, v0, u.2, p, q.2.1, rfl⟩
        · rename_i hs
          obtain ⟨r', p, q⟩ := seekKey_rel he hs w
          split at h2
          · rename_i z hz
            cases h2
            obtain ⟨z1, z2⟩ := zeroOf_run hz w
            cases r' with
            | some u => exact q.elim
            | none => exact .inr ⟨z, p, z1, z2.1 φ, rfl⟩
          · cases h2
        · cases h2
      rcases map_rel hW hes rm with ⟨e1, e2, e3⟩ | ⟨r', es', clock, e1, e2, e3⟩
      · rw [e3]
        obtain ⟨k1, k2⟩ := key #[] (by rw [e2]; exact ⟨rfl, fun j x y p => by simp at p⟩)
        rcases k2 with ⟨i, v0, v', p, q, rfl⟩ | ⟨z, p, z1, z2, rfl⟩
        · exact ⟨_, by simp only [Instr.lookup, Sem.run_bind, run_underlying ht, Result.andThen_ok, Sem.run_pure, k1, p], fin q⟩
        · exact ⟨_, by simp only [Instr.lookup, Sem.run_bind, run_underlying ht, Result.andThen_ok, Sem.run_pure, k1, p, z1], fin z2⟩
      · rw [e1]
        have hg := getMap (P := P) e2
        obtain ⟨k1, k2⟩ := key es' e3
        rcases k2 with ⟨i, v0, v', p, q, rfl⟩ | ⟨z, p, z1, z2, rfl⟩
        · exact ⟨_, by simp only [Instr.lookup, Sem.run_bind, run_underlying ht, Result.andThen_ok, Sem.run_pure, hg, k1, p], fin q⟩
        · exact ⟨_, by simp only [Instr.lookup, Sem.run_bind, run_underlying ht, Result.andThen_ok, Sem.run_pure, hg, k1, p, z1], fin z2⟩
    · cases h
  · cases h
theorem rLen_ok {T : Tr Value} {A : AW} {w : World} {a : Act} (hT : TRel φ T a.tmps) (hW : WRel φ A w) {args : Array Operand} {argTypes : Array TypeId} {type : TypeId} {v : Value} (h : rLen P T A args argTypes = some v) :
    Vals P φ (Builtin.len_ argTypes type (args.map a.eval)) w v := by
  unfold rLen at h
  split at h
  · rename_i kt et x ht hx
    obtain ⟨t, h0, h1⟩ := optB ht
    rw [toList_one hx]
    split at h
    · rename_i r hv
      split at h
      · rename_i es hes
        cases h
        have rm := aev_rel hT hv
        rcases map_rel hW hes rm with ⟨e1, e2, e3⟩ | ⟨r', es', clock, e1, e2, e3⟩
        · subst e2
          exact ⟨.int .i64 0, by simp [Builtin.len_, h0, run_underlying h1, goInt, e3], .int _ _⟩
        · have hg := getMap (P := P) e2
          have hl : es.length = es'.size := by simpa using e3.1
          exact ⟨.int .i64 es.length, by simp [Builtin.len_, h0, run_underlying h1, goInt, e1, hg, hl], .int _ _⟩
      · cases h
    · cases h
  · exact pLen_ok hT h w
theorem readOp_ok {T : Tr Value} {A : AW} {w : World} {a : Act} (hT : TRel φ T a.tmps) (hW : WRel φ A w) {o : Oper} {v : Value} (h : readOp P T A o.op = some v) :
    ∃ v', (execOp a.eval o).run P w = .ok (.value v') w ∧ VRel φ v v' := by
  obtain ⟨dst, op, type, pos, after, guard⟩ := o
  simp only [] at h
  cases op <;> simp only [readOp] at h <;> try (cases h; done)
  case load t x =>
    unfold rLoad at h
    split at h
    · rename_i ad hx
      obtain ⟨ad', v', e, q1, q2⟩ := loadVar_rel hW h (aev_rel hT hx)
      exact ⟨v', by simp [execOp, Instr.loadAt, e, Instr.sureAddr, q1], q2⟩
    · cases h
  case lookup t m k ok => exact (rLookup_ok hT hW h).next
  case call c =>
    obtain ⟨callee, args, argTypes⟩ := c
    unfold rCall at h
    simp only [] at h
    split at h
    · obtain ⟨v', p1, p2⟩ := rLen_ok (type := type) hT hW h
      exact ⟨v', by simp [execOp, resolve, invoke, builtin, p1], p2⟩
    · cases h

/-! ### New blocks -/
def DoesV (P : Program) (φ : Emb) (w : World) (s : Sem Value) (v : Value) (A' : AW) : Prop :=
  ∃ w' ψ v', s.run P w = .ok v' w' ∧ VRel ψ v v' ∧ WRel ψ A' w' ∧ WStep φ w ψ w'
def Does (P : Program) (φ : Emb) (w : World) (s : Sem Next) (v : Value) (A' : AW) : Prop :=
  ∃ nx w' ψ v', s.run P w = .ok nx w' ∧ (nx = .value v' ∨ (nx = .skip ∧ v' = undef)) ∧ VRel ψ v v' ∧ WRel ψ A' w' ∧ WStep φ w ψ w'
theorem DoesV.next {w : World} {s : Sem Value} {v : Value} {A' : AW} (h : DoesV P φ w s v A') : Does P φ w (do pure (Next.value (← s))) v A' := by
  obtain ⟨w', ψ, v', h1, h2, h3, h4⟩ := h
  exact ⟨.value v', w', ψ, v', by simp [h1], .inl rfl, h2, h3, h4⟩
theorem VRel.undef (φ : Emb) : VRel φ undef undef := .tuple rfl (fun j x y e => by simp at e)
theorem WRel.newCells {A : AW} {w : World} (h : WRel φ A w) {vs : List Value} {c : Array Value} (t : TypeId) (es : Nat) (r : ∀ (j : Nat) (v : Value), vs[j]? = some v → ∃ v', c[j]? = some v' ∧ VRel φ v v') :
    WRel (φ.put A.size ⟨w.heap.size, 0, c.size, es⟩) (newCells A vs none) (w.alloc (.cells c t)) ∧ WStep φ w (φ.put A.size ⟨w.heap.size, 0, c.size, es⟩) (w.alloc (.cells c t)) := by
  refine h.alloc _ _ c.size es (fun ψ w' hx hw => ⟨c, t, hw, rfl, fun j v e => ?_⟩)
  rw [Tr.get_ofL0] at e
  obtain ⟨v', p, q⟩ := r j v e
  exact ⟨v', by simpa using p, q.mono hx⟩
theorem LRel.pre {vs : List Value} {c : Array Value} (r : LRel φ vs c.toList) : ∀ (j : Nat) (v : Value), vs[j]? = some v → ∃ v', c[j]? = some v' ∧ VRel φ v v' := fun j v e => by
  obtain ⟨y, p, q⟩ := r.get e
  exact ⟨y, by simpa using p, q⟩
theorem new_ptr (A : AW) (w : World) (sz es : Nat) : VRel (φ.put A.size ⟨w.heap.size, 0, sz, es⟩) (.pointer (some ⟨A.size, 0, none⟩)) (.pointer (some ⟨w.heap.size, 0, none⟩)) := by
  have := VRel.ptr (o := 0) (Emb.put_same φ A.size ⟨w.heap.size, 0, sz, es⟩)
  simpa using this
theorem new_slice (A : AW) (w : World) (sz es l c : Nat) : VRel (φ.put A.size ⟨w.heap.size, 0, sz, es⟩) (.slice (some ⟨A.size, 0, none⟩) l c) (.slice (some ⟨w.heap.size, 0, none⟩) l c) := by
  have := VRel.slice (o := 0) (l := l) (c := c) (Emb.put_same φ A.size ⟨w.heap.size, 0, sz, es⟩)
  simpa using this
theorem run_newRow (t : TypeId) (c : Array Value) (w : World) : (newRow t c).run P w = .ok ⟨w.heap.size, 0, none⟩ (w.alloc (.cells c t)) := by
  simp [newRow]
theorem hAlloc_ok {A : AW} {w : World} (hW : WRel φ A w) {t : TypeId} {v : Value} {A' : AW} (h : hAlloc P A t = some (v, A')) : DoesV P φ w (Instr.alloc t true (.tuple #[])) v A' := by
  unfold hAlloc at h
  split at h
  · rename_i z i hz hi
    cases h
    obtain ⟨z1, z2⟩ := zeroOf_run hz w
    obtain ⟨q1, q2⟩ := hW.newCells t 0 (LRel.pre (z2.1 φ).cells)
    refine ⟨_, _, _, ?_, new_ptr A w z.cells.size 0, q1, q2⟩
    simp [Instr.alloc, z1, newVar, run_newRow]
  · cases h
theorem hBox_ok {A : AW} {w : World} (hW : WRel φ A w) {T : Tr Value} {a : Act} (hT : TRel φ T a.tmps) {t : TypeId} {x : Operand} {v : Value} {A' : AW} (h : hBox T A x = some (v, A')) : DoesV P φ w (Instr.box t (a.eval x)) v A' := by
  unfold hBox at h
  split at h
  · rename_i u hu
    cases h
    obtain ⟨q1, q2⟩ := hW.newCells t 0 (LRel.pre (aev_rel hT hu).cells)
    refine ⟨_, _, _, ?_, new_ptr A w _ 0, q1, q2⟩
    simp [Instr.box, newVar, run_newRow]
  · cases h
theorem zerosN_get (l : List Value) : ∀ (n j : Nat), (zerosN l n)[j]? = if j < n * l.length then l[j % l.length]? else none
  | 0, j => by simp [zerosN]
  | n + 1, j => by
    rw [zerosN]
    by_cases h : j < l.length
    · rw [List.getElem?_append_left h, if_pos (by rw [Nat.add_mul]; omega), Nat.mod_eq_of_lt h]
    · rw [List.getElem?_append_right (by omega), zerosN_get l n]
      by_cases h2 : j < (n + 1) * l.length
      · rw [if_pos h2, if_pos (by rw [Nat.add_mul] at h2; omega), Nat.mod_eq_sub_mod (by omega : l.length ≤ j)]
      · rw [if_neg h2, if_neg (by rw [Nat.add_mul] at h2; omega)]
theorem zerosN_length (l : List Value) : ∀ n, (zerosN l n).length = n * l.length
  | 0 => by simp [zerosN]
  | n + 1 => by rw [zerosN, List.length_append, zerosN_length l n, Nat.add_mul]; omega
theorem range_zeros (z : Array Value) (n m : Nat) (hm : m = n * z.size) : ((Array.range m).map (fun i => z[i % z.size]!)).toList = zerosN z.toList n := by
  subst hm
  apply List.ext_getElem?
  intro j
  rw [zerosN_get]
  simp only [Array.toList_map, List.getElem?_map, Array.toList_range, Array.length_toList]
  by_cases h : j < n * z.size
  · have hz : 0 < z.size := by
      rcases Nat.eq_zero_or_pos z.size with e | e
      · rw [e] at h; simp at h
      · exact e
    rw [if_pos h, List.getElem?_range h]
    have := Nat.mod_lt j hz
    simp [this]
  · rw [if_neg h, List.getElem?_eq_none (by simp; omega)]; rfl
theorem Ground.cellsG {z : Value} (h : Ground z) (φ : Emb) (n : Nat) : LRel φ (zerosN z.cells.toList n) (zerosN z.cells.toList n) := by
  refine ⟨rfl, fun j x y e f => ?_⟩
  rw [zerosN_get] at e f
  split at e
  · rw [if_pos (by assumption)] at f
    exact (h.1 φ).cells.2 _ x y e f
  · cases e
theorem hBuildSlice_ok {A : AW} {w : World} (hW : WRel φ A w) {T : Tr Value} {a : Act} (hT : TRel φ T a.tmps) {t : TypeId} {len : Nat} {parts : Array (Nat × Operand)} {v : Value} {A' : AW}
    (h : hBuildSlice P T A t len parts = some (v, A')) : DoesV P φ w (Instr.buildSlice t len (parts.map fun (i, x) => (i, a.eval x))) v A' := by
  unfold hBuildSlice at h
  split at h
  · rename_i elem ps ht hp
    split at h
    · rename_i i z hi hz
      obtain ⟨h1, h2⟩ := bif_some h
      simp only [Bool.and_eq_true, nat_beq_eq, nat_ble_eq, decide_eq_true_eq] at h1
      split at h2
      · rename_i cs hcs
        cases h2
        obtain ⟨z1, z2⟩ := zeroOf_run hz w
        have hpr := aParts_rel hT hp
        obtain ⟨out', e, r⟩ := fill_rel (φ := φ) _ _ _ _ ((zerosN z.cells.toList len).toArray) cs hpr (by simpa using z2.cellsG φ len) hcs
        obtain ⟨q1, q2⟩ := hW.newCells elem 0 (LRel.pre r)
        refine ⟨_, _, _, ?_, new_slice A w _ 0 len len, q1, q2⟩
        have hsm : ¬ len * i.size > 2 ^ 24 := by have := h1.2; unfold small at this; omega
        have hrow : ∀ zz : Array Value, (len * i.size = 0 ∨ zz = z.cells) → (Array.range (len * i.size)).map (fun x => zz[x % zz.size]!) = (zerosN z.cells.toList len).toArray := by
          intro zz hz
          apply Array.ext'
          rcases hz with h0 | rfl
          · rw [h0]
            have : (zerosN z.cells.toList len).length = 0 := by rw [zerosN_length]; simp [h1.1, h0]
            rw [List.eq_nil_of_length_eq_zero this]; simp
          · exact range_zeros z.cells len _ (by rw [h1.1])
        by_cases h0 : len * i.size = 0
        · simp only [Instr.buildSlice, Sem.run_bind, run_underlying ht, Result.andThen_ok, run_sz hi, if_neg hsm, Sem.run_pure, if_pos h0, hrow #[] (.inl h0), Array.toList_map, e, run_newRow]
        · simp only [Instr.buildSlice, Sem.run_bind, run_underlying ht, Result.andThen_ok, run_sz hi, if_neg hsm, Sem.run_pure, if_neg h0, z1, hrow z.cells (.inr rfl), Array.toList_map, e, run_newRow]
      · cases h2
    · cases h
  · cases h
end Go.Proofs.YtcpafphgkbfahaaGreat
