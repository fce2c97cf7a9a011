/- An evaluator of closed runs: a region that draws its order, in whatever order. -/
import Derived.OrdersIn
import Derived.Test.YtcpafphgkbfahaaGreatEvQ
namespace Go.Proofs.YtcpafphgkbfahaaGreat
open Go Go.RowKit

variable {P : Program} {φ : Emb}
theorem zipIdx_all {α : Type} {l : List α} {f : α × Nat → Bool} (h : l.zipIdx.all f = true) {i : Nat} {x : α} (e : l[i]? = some x) : f (x, i) = true := by
  rw [List.all_eq_true] at h
  exact h (x, i) (List.mem_zipIdx_iff_getElem?.2 e)
/-! ### what comes ahead -/
theorem fold_bits {arr : List Nat} : ∀ (es : List Edge) (s b : Nat), Nat.testBit (es.foldl (fun s e => bif Region.binds .any e then Nat.lor (Nat.lor s (Nat.shiftLeft 1 e.on)) (arr.getD e.on 0) else s) s) b = true →
    Nat.testBit s b = true ∨ ∃ e ∈ es, Region.binds .any e = true ∧ (b = e.on ∨ Nat.testBit (arr.getD e.on 0) b = true)
  | [], s, b, h => .inl h
  | e :: es, s, b, h => by
    rw [List.foldl_cons] at h
    rcases fold_bits es _ b h with h1 | ⟨e', h2, h3⟩
    · cases hb : Region.binds .any e with
      | false => rw [hb, cond_false] at h1; exact .inl h1
      | true =>
        rw [hb, cond_true] at h1
        have h1' : Nat.testBit ((s ||| (1 <<< e.on)) ||| (arr.getD e.on 0)) b = true := h1
        rw [Nat.testBit_or, Nat.testBit_or, Nat.one_shiftLeft, Nat.testBit_two_pow] at h1'
        simp only [Bool.or_eq_true, decide_eq_true_eq] at h1'
        rcases h1' with (h | h) | h
        · exact .inl h
        · exact .inr ⟨e, by simp, hb, .inl h.symm⟩
        · exact .inr ⟨e, by simp, hb, .inr h⟩
    · exact .inr ⟨e', by simp [h2], h3⟩
theorem predsOf_spec (ops : Array Oper) : ∀ (l : List Oper) (acc : List Nat), (∀ j, j < acc.length → (predsOf ops l acc)[j]? = acc.reverse[j]?) ∧ (predsOf ops l acc).length = acc.length + l.length ∧
    ∀ k o, l[k]? = some o → ∀ b, Nat.testBit ((predsOf ops l acc).getD (acc.length + k) 0) b = true → ∃ e ∈ o.after.toList, Region.binds .any e = true ∧ (b = e.on ∨ Nat.testBit ((predsOf ops l acc).getD e.on 0) b = true)
  | [], acc => by
    exact ⟨fun j _ => by rw [predsOf], by rw [predsOf]; simp, fun k o e => by simp at e⟩
  | o :: rest, acc => by
    simp only [predsOf]
    generalize hx : o.after.toList.foldl (fun s e => bif Region.binds .any e then Nat.lor (Nat.lor s (Nat.shiftLeft 1 e.on)) (acc.reverse.getD e.on 0) else s) 0 = x
    obtain ⟨h1, h2, h3⟩ := predsOf_spec ops rest (x :: acc)
    have hget : ∀ j, j < acc.length → (predsOf ops rest (x :: acc))[j]? = acc.reverse[j]? := fun j hj => by
      rw [h1 j (by simp; omega), List.reverse_cons, List.getElem?_append_left (by simpa using hj)]
    refine ⟨hget, by rw [h2]; simp; omega, fun k o' e b hb => ?_⟩
    cases k with
    | zero =>
      simp at e; subst e
      have e1 : (predsOf ops rest (x :: acc)).getD acc.length 0 = x := by
        rw [List.getD_eq_getElem?_getD, h1 acc.length (by simp), List.reverse_cons, List.getElem?_append_right (by simp)]
        simp
      rw [Nat.add_zero, e1, ← hx] at hb
      rcases fold_bits _ _ _ hb with h | ⟨e, q1, q2, q3⟩
      · simp at h
      · refine ⟨e, q1, q2, q3.imp id (fun q => ?_)⟩
        by_cases hlt : e.on < acc.length
        · rw [List.getD_eq_getElem?_getD, hget e.on hlt, ← List.getD_eq_getElem?_getD]; exact q
        · rw [List.getD_eq_getElem?_getD, List.getElem?_eq_none (by simp; omega)] at q
          simp at q
    | succ k =>
      have := h3 k o' (by simpa using e) b (by rw [show (x :: acc).length + k = acc.length + (k + 1) by simp; omega]; exact hb)
      exact this
theorem writers_spec : ∀ (l : List Oper) (k : Nat) (t0 : Tr Nat), ∀ t j, ((l.zipIdx k).foldl (fun t (o, i) => match o.dst with | some d => t.put d (some i) | none => t) t0).get t = some j →
    t0.get t = some j ∨ ∃ o, k ≤ j ∧ l[j - k]? = some o ∧ o.dst = some t
  | [], k, t0, t, j, h => .inl h
  | o :: l, k, t0, t, j, h => by
    rw [List.zipIdx_cons, List.foldl_cons] at h
    rcases writers_spec l (k + 1) _ t j h with h1 | ⟨o', h1, h2, h3⟩
    · simp only [] at h1
      split at h1
      · rename_i d hd
        rw [Tr.get_put] at h1
        split at h1
        · rename_i ht
          cases h1
          exact .inr ⟨o, Nat.le_refl _, by simp, ht ▸ hd⟩
        · exact .inl h1
      · exact .inl h1
    · exact .inr ⟨o', by omega, by rw [show j - k = j - (k + 1) + 1 by omega]; simpa using h2, h3⟩
theorem countBits_le {p : Nat} : ∀ (hs : List Nat) (k : Nat), (∀ q h, hs[q]? = some h → Nat.testBit p h = true → q < k) → countBits p hs ≤ k
  | [], k, _ => by simp [countBits]
  | h :: hs, k, H => by
    simp only [countBits]
    cases hb : Nat.testBit p h with
    | true =>
      have := H 0 h rfl hb
      have := countBits_le hs (k - 1) (fun q x e f => by have := H (q + 1) x (by simpa using e) f; omega)
      simp only [cond_true]; omega
    | false =>
      have := countBits_le hs k (fun q x e f => by have := H (q + 1) x (by simpa using e) f; omega)
      simp only [cond_false]; omega
theorem readsSame_mem {T : Tr Value} {o : Oper} {u : Value} : ∀ {ms : List AW}, readsSame P T o u ms = true → ∀ M ∈ ms, readOp P T M o.op = some u
  | [], _, M, hM => by simp at hM
  | W :: ms, h, M, hM => by
    simp only [readsSame, Bool.and_eq_true] at h
    cases hM with
    | head =>
      have h1 := h.1
      split at h1
      · rename_i v hv; rw [hv, veq_eq 8 u v h1]
      · cases h1
    | tail _ hM => exact readsSame_mem h.2 M hM
noncomputable def restr (T : Tr Value) : List Tmp → Tr Value
  | [] => .nil
  | t :: ts => (restr T ts).put t (T.get t)
theorem restr_get (T : Tr Value) : ∀ (ts : List Tmp) (t : Nat), (restr T ts).get t = if t ∈ ts then T.get t else none
  | [], t => by simp [restr, Tr.get_nil]
  | x :: ts, t => by
    rw [restr, Tr.get_put, restr_get T ts t]
    by_cases e : t = x
    · subst e; simp
    · simp [e]
section
variable {pt : Pt} {call : Callee'} {round : Rounder} {nt : Nat} {ops : Array Oper} {T T' : Tr Value} {W W' : AW} {rs : List Rec}
/-- what a temporary holds when the operations of L have been done -/
noncomputable def EV (ops : Array Oper) (T : Tr Value) (rs : List Rec) (L : Array Bool) (t : Nat) : Option Value :=
  match (writersOf ops.toList).get t with
  | some j => if L[j]? = some true then (rs[j]?).map (·.v) else T.get t
  | none => T.get t
structure Facts0 (P : Program) (pt : Pt) (call : Callee') (round : Rounder) (nt : Nat) (ops : Array Oper) (T : Tr Value) (W : AW) (T' : Tr Value) (W' : AW) (rs : List Rec) : Prop where
  chain : Chain P pt call round nt ops ops.toList T W T' W' rs
  back : ∀ i o e, ops[i]? = some o → e ∈ o.after → Region.binds .any e = true → e.on < i
  one : ∀ i o d, ops[i]? = some o → o.dst = some d → (writersOf ops.toList).get d = some i
  writes : ∀ t j, (writersOf ops.toList).get t = some j → ∃ o, ops[j]? = some o ∧ o.dst = some t
  reads : ∀ i o t j, ops[i]? = some o → t ∈ tmpsOf o → (writersOf ops.toList).get t = some j → Nat.testBit ((predsOf ops ops.toList []).getD i 0) j = true ∨ Nat.testBit ((predsOf ops ops.toList []).getD j 0) i = true ∨ i = j
  guards : ∀ i o j want, ops[i]? = some o → o.guard = some (j, want) → Nat.testBit ((predsOf ops ops.toList []).getD i 0) j = true
  ahead : ∀ i j, Nat.testBit ((predsOf ops ops.toList []).getD i 0) j = true → ∃ o e, ops[i]? = some o ∧ e ∈ o.after ∧ Region.binds .any e = true ∧ (j = e.on ∨ Nat.testBit ((predsOf ops ops.toList []).getD e.on 0) j = true)
structure Facts (P : Program) (pt : Pt) (call : Callee') (round : Rounder) (nt : Nat) (ops : Array Oper) (T : Tr Value) (W : AW) (T' : Tr Value) (W' : AW) (rs : List Rec) : Prop extends Facts0 P pt call round nt ops T W T' W' rs where
  acts : ∀ p a b, (actsOf rs 0)[p]? = some a → (actsOf rs 0)[p + 1]? = some b → Nat.testBit ((predsOf ops ops.toList []).getD b 0) a = true
  same : ∀ i o r, ops[i]? = some o → rs[i]? = some r → r.want = true → isRead o.op = true → actsOf rs 0 ≠ [] →
    readsSame P r.T o r.v (((memsOf rs ++ [W']).drop (countBits ((predsOf ops ops.toList []).getD i 0) (actsOf rs 0))).take
      (((actsOf rs 0).takeWhile fun h => !Nat.testBit ((predsOf ops ops.toList []).getD h 0) i).length + 1 - countBits ((predsOf ops ops.toList []).getD i 0) (actsOf rs 0))) = true
theorem facts0_of (hc : Chain P pt call round nt ops ops.toList T W T' W' rs) (hs : drawStatic ops = true) : Facts0 P pt call round nt ops T W T' W' rs := by
  unfold drawStatic at hs
  simp only [Bool.and_eq_true] at hs
  obtain ⟨⟨⟨s1, s2⟩, s3⟩, s4⟩ := hs
  have hl : ∀ {i : Nat} {o : Oper}, ops[i]? = some o → ops.toList[i]? = some o := fun e => by simpa using e
  refine ⟨hc, fun i o e h1 h2 h3 => ?_, fun i o d h1 h2 => ?_, fun t j h => ?_, fun i o t j h1 h2 h3 => ?_, fun i o j want h1 h2 => ?_, fun i j h => ?_⟩
  · have := zipIdx_all s1 (hl h1)
    simp only [Array.all_eq_true_iff_forall_mem] at this
    have := this e h2
    rw [h3] at this
    simpa [nat_blt_eq] using this
  · have := zipIdx_all s2 (hl h1)
    simp only [h2] at this
    simpa using this
  · rcases writers_spec ops.toList 0 .nil t j h with h | ⟨o, _, h2, h3⟩
    · cases h
    · exact ⟨o, by simpa using h2, h3⟩
  · have := zipIdx_all s3 (hl h1)
    simp only [List.all_eq_true] at this
    have := this t h2
    rw [h3] at this
    simp only [Bool.or_eq_true, nat_beq_eq, decide_eq_true_eq] at this
    rcases this with (h | h) | h
    · exact .inl h
    · exact .inr (.inl h)
    · exact .inr (.inr h)
  · have := zipIdx_all s4 (hl h1)
    simp only [h2] at this
    exact this
  · obtain ⟨_, p2, p3⟩ := predsOf_spec ops ops.toList []
    by_cases hi : i < ops.size
    · obtain ⟨e, q1, q2, q3⟩ := p3 i ops[i] (by simp [hi]) j (by simpa using h)
      exact ⟨ops[i], e, by simp [hi], by simpa using q1, q2, q3⟩
    · rw [List.getD_eq_getElem?_getD, List.getElem?_eq_none (by rw [p2]; simp; omega)] at h
      simp at h
theorem facts_of (hc : Chain P pt call round nt ops ops.toList T W T' W' rs) (hs : drawStatic ops = true) (hr : drawReads P ops W' rs = true) : Facts P pt call round nt ops T W T' W' rs := by
  refine ⟨facts0_of hc hs, fun p a b h1 h2 => ?_, fun i o r h1 h2 h3 h4 h5 => ?_⟩
  · unfold drawReads at hr
    simp only [] at hr
    have hne : (actsOf rs 0).isEmpty = false := by
      cases e : actsOf rs 0 with
      | nil => rw [e] at h1; simp at h1
      | cons _ _ => rfl
    rw [hne, cond_false, Bool.and_eq_true, List.all_eq_true] at hr
    exact hr.1 (a, b) (List.mem_of_getElem? (i := p) (by simp [List.getElem?_zip_eq_some, h1, h2]))
  · unfold drawReads at hr
    simp only [] at hr
    have hne : (actsOf rs 0).isEmpty = false := by
      cases e : actsOf rs 0 with
      | nil => exact absurd e h5
      | cons _ _ => rfl
    rw [hne, cond_false, Bool.and_eq_true] at hr
    have := zipIdx_all (l := ops.toList.zip rs) (i := i) (x := (o, r)) hr.2 (by simp [List.getElem?_zip_eq_some, h1, h2])
    simp only [h3, h4, Bool.and_self, cond_true] at this
    exact this
end
end Go.Proofs.YtcpafphgkbfahaaGreat
