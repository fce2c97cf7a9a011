/- An evaluator of closed runs: a region that makes a cell, in no order with what acts ahead of it in the text. -/
import Derived.Test.YthengmpnfcclbaaGreatDoorEvW
namespace Go.Proofs.YthengmpnfcclbaaGreatDoor
open Go Go.RowKit
set_option linter.unusedSimpArgs false

variable {P : Program} {pt : Pt} {call : Callee'} {round : Rounder} {nt : Nat} {ops : Array Oper} {T T' : Tr Value} {W W' : AW} {rs : List Rec}
structure Early (P : Program) (ops : Array Oper) (W' : AW) (rs : List Rec) (pre : List Nat) (f : Nat) (post : List Nat) : Prop where
  acts : actsOf rs 0 = pre ++ f :: post
  make : ∃ o, ops[f]? = some o ∧ isAlloc o.op = true
  row : ∀ p a b, (pre ++ post)[p]? = some a → (pre ++ post)[p + 1]? = some b → Nat.testBit ((predsOf ops ops.toList []).getD b 0) a = true
  behind : ∀ h ∈ post, Nat.testBit ((predsOf ops ops.toList []).getD h 0) f = true
  last : ∀ q, pre.getLast? = some q → ∀ i o, ops[i]? = some o → Nat.testBit ((predsOf ops ops.toList []).getD i 0) f = true → Nat.testBit ((predsOf ops ops.toList []).getD i 0) q = true
  same : ∀ (i : Nat) (o : Oper) (r : Rec), ops[i]? = some o → rs[i]? = some r → r.want = true → isRead o.op = true →
    readsSame P r.T o r.v (((memsOf rs ++ [W']).drop (countBits ((predsOf ops ops.toList []).getD i 0) (pre ++ post))).take
      ((bif Nat.blt ((pre ++ post).takeWhile fun h => !Nat.testBit ((predsOf ops ops.toList []).getD h 0) i).length pre.length then ((pre ++ post).takeWhile fun h => !Nat.testBit ((predsOf ops ops.toList []).getD h 0) i).length else ((pre ++ post).takeWhile fun h => !Nat.testBit ((predsOf ops ops.toList []).getD h 0) i).length + 1) + 1 - countBits ((predsOf ops ops.toList []).getD i 0) (pre ++ post))) = true
theorem early_of (h : drawEarly P ops W' rs = true) : ∃ pre f post, Early P ops W' rs pre f post := by
  unfold drawEarly at h
  simp only [] at h
  split at h
  · rename_i f post e1
    simp only [Bool.and_eq_true] at h
    obtain ⟨⟨⟨h1, h2⟩, h3⟩, h4⟩ := h
    generalize hpre : (actsOf rs 0).takeWhile (fun h => !allocAt ops h) = pre at *
    have e0 : actsOf rs 0 = pre ++ f :: post := by
      obtain ⟨t, ht⟩ := List.takeWhile_prefix (l := actsOf rs 0) (fun h => !allocAt ops h)
      rw [hpre] at ht
      rw [← ht, List.drop_left] at e1
      rw [← ht, e1]
    refine ⟨pre, f, post, e0, ?_, fun p a b ha hb => ?_, fun x hx => ?_, fun q hq i o ho hb => ?_, fun i o r ho hr hw hrd => ?_⟩
    · have hst : (!allocAt ops f) = false := takeWhile_stop (fun h => !allocAt ops h) (actsOf rs 0) f (by
        rw [hpre, e0, List.getElem?_append_right (Nat.le_refl _), Nat.sub_self]; rfl)
      unfold allocAt at hst
      split at hst
      · rename_i o ho; exact ⟨o, ho, by simpa using hst⟩
      · simp at hst
    · rw [List.all_eq_true] at h1
      exact h1 (a, b) (List.mem_of_getElem? (i := p) (by simp [List.getElem?_zip_eq_some, ha, hb]))
    · rw [List.all_eq_true] at h2; exact h2 x hx
    · rw [hq] at h3
      have := zipIdx_all h3 (show ops.toList[i]? = some o by simpa using ho)
      rw [hb] at this
      simpa using this
    · have := zipIdx_all (l := ops.toList.zip rs) (i := i) (x := (o, r)) h4 (by simp [List.getElem?_zip_eq_some, ho, hr])
      simp only [hw, hrd, Bool.and_self, cond_true] at this
      exact this
  · cases h
theorem hAlloc_run (w0 : World) {A A' : AW} {t : TypeId} {v : Value} (h : hAlloc P A t = some (v, A')) :
    ∃ zs : List Value, v = .pointer (some ⟨A.size, 0, none⟩) ∧ A' = newCells A zs none ∧ (∀ ψ : Emb, LRel ψ zs zs) ∧ ∀ w, (Instr.alloc t true (.tuple #[])).run P w = .ok (.pointer (some ⟨w.heap.size, 0, none⟩)) (w.alloc (.cells zs.toArray t)) := by
  unfold hAlloc at h
  split at h
  · rename_i z i hz hi
    cases h
    refine ⟨z.cells.toList, rfl, rfl, fun ψ => ((zeroOf_run (P := P) hz w0).2.1 ψ).cells, fun w => ?_⟩
    obtain ⟨z1, _⟩ := zeroOf_run hz w
    simp [Instr.alloc, z1, newVar, run_newRow]
  · cases h
/-- a made cell that has no name yet gets one -/
theorem wrel_name {φ : Emb} {A : AW} {w : World} (h : WRel φ A w) {r : Nat} {zs : List Value} {t : TypeId} (hr : w.heap[r]? = some (.cells zs.toArray t (0, 0))) (hn : ∀ b i, φ b = some i → i.r ≠ r) (hz : ∀ ψ : Emb, LRel ψ zs zs) :
    WRel (φ.put A.size ⟨r, 0, zs.length, 0⟩) (newCells A zs none) w := by
  have hfree : φ A.size = none := by
    cases e : φ A.size with
    | none => rfl
    | some i => have := h.dom _ _ e; omega
  have hx : Ext φ (φ.put A.size ⟨r, 0, zs.length, 0⟩) := Emb.put_ext _ hfree
  have hlt := (Array.getElem?_eq_some_iff.1 hr).1
  refine ⟨fun b i e => ?_, fun b i e => ?_, fun b o1 e => ?_, ?_⟩
  · show b < A.size + 1
    unfold Emb.put at e
    split at e
    · omega
    · have := h.dom b i e; omega
  · unfold Emb.put at e
    split at e
    · cases e; exact hlt
    · exact h.real b i e
  · rw [newCells_get] at e
    split at e
    · rename_i hb
      subst hb
      cases e
      refine ⟨_, Emb.put_same _ _ _, zs.toArray, t, hr, by simp, fun j v e => ?_⟩
      rw [Tr.get_ofL0] at e
      obtain ⟨y, p, q⟩ := (hz (φ.put A.size ⟨r, 0, zs.length, 0⟩)).get e
      exact ⟨y, by simpa using p, q⟩
    · obtain ⟨i, p, q⟩ := h.live b o1 e
      exact ⟨i, hx _ _ p, q.mono hx rfl⟩
  · intro b1 b2 o1 o2 i1 i2 e1 e2 p1 p2 hrr hne
    rw [newCells_get] at e1 e2
    unfold Emb.put at p1 p2
    by_cases h1 : b1 = A.size
    · rw [if_pos h1] at p1
      cases p1
      by_cases h2 : b2 = A.size
      · omega
      · rw [if_neg h2] at p2
        exact absurd hrr.symm (hn _ _ p2)
    · rw [if_neg h1] at p1 e1
      by_cases h2 : b2 = A.size
      · rw [if_pos h2] at p2
        cases p2
        exact absurd hrr (hn _ _ p1)
      · rw [if_neg h2] at p2 e2
        exact h.sep b1 b2 o1 o2 i1 i2 e1 e2 p1 p2 hrr hne
theorem WStep.name {φ0 φ : Emb} {w0 w : World} (h : WStep φ0 w0 φ w) {n r sz : Nat} (hn : φ n = none) (hr : w0.heap.size ≤ r) : WStep φ0 w0 (φ.put n ⟨r, 0, sz, 0⟩) w := by
  refine ⟨h.os, h.tape, h.output, h.size, fun b i e => Emb.put_ext _ hn _ _ (h.ext _ _ e), fun b i e => ?_, h.frame⟩
  unfold Emb.put at e
  split at e
  · cases e; exact .inr (.inl hr)
  · exact h.fresh b i e
/-- the memory when j of the others have been done, and the cell has been made, or has not, or has no name yet -/
def MemE (p f : Nat) (ms : List AW) (L : Array Bool) (j : Nat) (φ : Emb) (w : World) (pend : Option Nat) (zs : List Value) (hw0 : Nat) : Prop :=
  match pend with
  | none => ∃ M, WRel φ M w ∧ ((L[f]? ≠ some true ∧ j ≤ p ∧ ms[j]? = some M) ∨ (L[f]? = some true ∧ p ≤ j ∧ ms[j + 1]? = some M))
  | some r => ∃ M, WRel φ M w ∧ L[f]? = some true ∧ j < p ∧ ms[j]? = some M ∧ (∃ t, w.heap[r]? = some (.cells zs.toArray t (0, 0))) ∧ (∀ b i, φ b = some i → i.r ≠ r) ∧ hw0 ≤ r
structure InvE (ops : Array Oper) (T : Tr Value) (rs : List Rec) (nt : Nat) (L : Array Bool) (φ0 : Emb) (w0 : World) (a0 : Act) (φ : Emb) (a : Act) (w : World) (d : Option Tmp) (pend : Option Nat) : Prop where
  size : L.size = ops.size
  closed : ∀ i j : Nat, L[i]? = some true → Nat.testBit ((predsOf ops ops.toList []).getD i 0) j = true → L[j]? = some true
  tm : ∀ t v, (pend.isSome = true → d ≠ some t) → EV ops T rs L t = some v → ∃ v', a.tmps[t]? = some v' ∧ VRel φ v v'
  cell : ∀ r t, pend = some r → d = some t → a.tmps[t]? = some (.pointer (some ⟨r, 0, none⟩))
  sz : a.tmps.size = nt
  df : a.defers = a0.defers
  st : WStep φ0 w0 φ w
section
variable {φ0 φ ψ : Emb} {w0 w w' : World} {a0 a : Act} {L : Array Bool} {d : Option Tmp} {pend : Option Nat}
theorem put_other {o : Option Tmp} {v : Value} {t : Nat} (h : o ≠ some t) : (a.put o v).tmps[t]? = a.tmps[t]? := by
  cases o with
  | none => rfl
  | some d => simp only [Act.put, Array.getElem?_setIfInBounds]; rw [if_neg (fun e => h (by rw [e]))]
theorem InvE.next (F : Facts0 P pt call round nt ops T W T' W' rs) (I : InvE ops T rs nt L φ0 w0 a0 φ a w d pend) {i : Nat} {o : Oper} {r : Rec} (ho : ops[i]? = some o) (hr : rs[i]? = some r)
    (hL : L[i]? = some false) (hpre : ∀ j, Nat.testBit ((predsOf ops ops.toList []).getD i 0) j = true → L[j]? = some true) (hst : WStep φ w ψ w') {v' : Value} (hv : VRel ψ r.v v') (hd : ∀ t, pend.isSome = true → d = some t → o.dst ≠ some t) :
    InvE ops T rs nt (L.setIfInBounds i true) φ0 w0 a0 ψ (a.put o.dst v') w' d pend := by
  have hiL : i < L.size := (Array.getElem?_eq_some_iff.1 hL).1
  have hset := set_true hiL
  refine ⟨by simp [I.size], fun x j hx hj => ?_, fun t v hne e => ?_, fun r0 t e1 e2 => ?_, by rw [put_size]; exact I.sz, by rw [put_defers]; exact I.df, I.st.trans hst⟩
  · rw [hset] at hx ⊢
    rcases hx with rfl | hx
    · exact .inr (hpre j hj)
    · exact .inr (I.closed x j hx hj)
  · unfold EV at e
    cases hw : (writersOf ops.toList).get t with
    | none =>
      rw [hw] at e
      simp only [] at e
      have hdt : o.dst ≠ some t := fun hd => by have := F.one i o t ho hd; rw [hw] at this; cases this
      obtain ⟨u, q1, q2⟩ := I.tm t v hne (by unfold EV; rw [hw]; exact e)
      exact ⟨u, (put_other hdt).trans q1, q2.mono hst.ext⟩
    | some j =>
      rw [hw] at e
      simp only [] at e
      by_cases hji : j = i
      · subst hji
        rw [if_pos ((hset j).2 (.inl rfl)), hr] at e
        simp only [Option.map_some, Option.some.injEq] at e
        subst e
        obtain ⟨o', q1, q2⟩ := F.writes t j hw
        have : o' = o := Option.some.inj (q1.symm.trans ho)
        subst this
        obtain ⟨_, _, _, _, T1, hpt⟩ := F.chain.at j o' r (by simpa using ho) hr
        unfold putT at hpt
        rw [q2] at hpt
        simp only [] at hpt
        obtain ⟨h1, _⟩ := bif_some hpt
        rw [nat_blt_eq, decide_eq_true_iff] at h1
        refine ⟨v', ?_, hv⟩
        rw [q2]
        simp only [Act.put, Array.getElem?_setIfInBounds]
        rw [if_pos trivial, if_pos (by have := I.sz; omega)]
      · have hdt : o.dst ≠ some t := fun hd => by have := F.one i o t ho hd; rw [hw] at this; cases this; exact hji rfl
        have : (L.setIfInBounds i true)[j]? = some true ↔ L[j]? = some true := by rw [hset]; simp [hji]
        obtain ⟨u, q1, q2⟩ := I.tm t v hne (by
          unfold EV; rw [hw]
          simp only []
          by_cases hj : L[j]? = some true
          · rw [if_pos hj]; rw [if_pos (this.2 hj)] at e; exact e
          · rw [if_neg hj]; rw [if_neg (fun h => hj (this.1 h))] at e; exact e)
        exact ⟨u, (put_other hdt).trans q1, q2.mono hst.ext⟩
  · rw [put_other (hd t (by rw [e1]; rfl) e2)]
    exact I.cell r0 t e1 e2
/-- the cell is made ahead of its name -/
theorem InvE.waits (F : Facts0 P pt call round nt ops T W T' W' rs) (I : InvE ops T rs nt L φ0 w0 a0 φ a w d none) {i : Nat} {o : Oper} {r : Rec} (ho : ops[i]? = some o) (hr : rs[i]? = some r) (hdst : o.dst = d)
    (hL : L[i]? = some false) (hpre : ∀ j, Nat.testBit ((predsOf ops ops.toList []).getD i 0) j = true → L[j]? = some true) (hst : WStep φ w φ w') {r0 : Nat} :
    InvE ops T rs nt (L.setIfInBounds i true) φ0 w0 a0 φ (a.put o.dst (.pointer (some ⟨r0, 0, none⟩))) w' d (some r0) := by
  have hiL : i < L.size := (Array.getElem?_eq_some_iff.1 hL).1
  have hset := set_true hiL
  refine ⟨by simp [I.size], fun x j hx hj => ?_, fun t v hne e => ?_, fun r1 t e1 e2 => ?_, by rw [put_size]; exact I.sz, by rw [put_defers]; exact I.df, I.st.trans hst⟩
  · rw [hset] at hx ⊢
    rcases hx with rfl | hx
    · exact .inr (hpre j hj)
    · exact .inr (I.closed x j hx hj)
  · have hdt : o.dst ≠ some t := by rw [hdst]; exact hne rfl
    rw [put_other hdt]
    refine I.tm t v (fun h => by cases h) ?_
    unfold EV at e ⊢
    cases hw : (writersOf ops.toList).get t with
    | none => rw [hw] at e; exact e
    | some j =>
      rw [hw] at e
      simp only [] at e ⊢
      have hji : j ≠ i := by
        rintro rfl
        obtain ⟨o', q1, q2⟩ := F.writes t j hw
        have : o' = o := Option.some.inj (q1.symm.trans ho)
        subst this
        exact hdt q2
      have : (L.setIfInBounds i true)[j]? = some true ↔ L[j]? = some true := by rw [hset]; simp [hji]
      by_cases hj : L[j]? = some true
      · rw [if_pos hj]; rw [if_pos (this.2 hj)] at e; exact e
      · rw [if_neg hj]; rw [if_neg (fun h => hj (this.1 h))] at e; exact e
  · cases e1
    have q2 : o.dst = some t := hdst.trans e2
    obtain ⟨_, _, _, _, T1, hpt⟩ := F.chain.at i o r (by simpa using ho) hr
    unfold putT at hpt
    rw [q2] at hpt
    simp only [] at hpt
    obtain ⟨h1, _⟩ := bif_some hpt
    rw [nat_blt_eq, decide_eq_true_iff] at h1
    rw [q2]
    simp only [Act.put, Array.getElem?_setIfInBounds]
    rw [if_pos trivial, if_pos (by have := I.sz; omega)]
/-- its name comes -/
theorem InvE.named (F : Facts0 P pt call round nt ops T W T' W' rs) {r0 : Nat} (I : InvE ops T rs nt L φ0 w0 a0 φ a w d (some r0)) {f : Nat} {o : Oper} {r : Rec} (ho : ops[f]? = some o) (hr : rs[f]? = some r) (hdst : o.dst = d) (hL : L[f]? = some true)
    {n sz : Nat} (hv : r.v = .pointer (some ⟨n, 0, none⟩)) (hn : φ n = none) (hw : w0.heap.size ≤ r0) : InvE ops T rs nt L φ0 w0 a0 (φ.put n ⟨r0, 0, sz, 0⟩) a w d none := by
  refine ⟨I.size, I.closed, fun t v _ e => ?_, fun _ _ e => (by cases e), I.sz, I.df, I.st.name hn hw⟩
  by_cases hdt : d = some t
  · have hw := F.one f o t ho (hdst.trans hdt)
    unfold EV at e
    rw [hw] at e
    simp only [] at e
    rw [if_pos hL, hr] at e
    simp only [Option.map_some, Option.some.injEq] at e
    subst e
    refine ⟨_, I.cell r0 t rfl hdt, ?_⟩
    rw [hv]
    have := VRel.ptr (o := 0) (Emb.put_same φ n ⟨r0, 0, sz, 0⟩)
    simpa using this
  · obtain ⟨u, q1, q2⟩ := I.tm t v (fun _ => hdt) e
    exact ⟨u, q1, q2.mono (Emb.put_ext _ hn)⟩
end
theorem drawEarly_ok (hc : CallOk P call) (hro : RoundOk P round) (hp : PtOk P pt) {F : Fence} {n : Nat} (hF : Wide F) {Q : Exit → Act → World → Prop} (X : Facts0 P pt call round nt ops T W T' W' rs) {pre : List Nat} {f : Nat} {post : List Nat} (Y : Early P ops W' rs pre f post)
    {of : Oper} {rf : Rec} (hof : ops[f]? = some of) (hrf : rs[f]? = some rf) {d : Option Tmp} (hdst : of.dst = d) {tf : TypeId} (hop : of.op = .alloc tf) {zs : List Value} (hv : rf.v = .pointer (some ⟨rf.W.size, 0, none⟩)) (hz : ∀ ψ : Emb, LRel ψ zs zs)
    (hm0 : (memsOf rs ++ [W'])[pre.length]? = some rf.W) (hm1 : (memsOf rs ++ [W'])[pre.length + 1]? = some (newCells rf.W zs none)) (hrun : ∀ w, (Instr.alloc tf true (.tuple #[])).run P w = .ok (.pointer (some ⟨w.heap.size, 0, none⟩)) (w.alloc (.cells zs.toArray tf)))
    {φ0 : Emb} {w0 : World} {a0 : Act} (hq : ∀ ψ a' w', On φ0 w0 a0 T' W' ψ a' w' → Q .normal a' w') (hs0 : a0.tmps.size = nt) :
    ∀ (fuel : Nat) (R : List Nat) (L : Array Bool) (j : Nat) (φ : Emb) (a : Act) (w : World) (pend : Option Nat), R.length ≤ fuel → (∀ i, i < ops.size → L[i]? = some true ∨ i ∈ R) → InvE ops T rs nt L φ0 w0 a0 φ a w d pend →
      (∀ p h : Nat, (pre ++ post)[p]? = some h → (L[h]? = some true ↔ p < j)) → MemE pre.length f (memsOf rs ++ [W']) L j φ w pend zs w0.heap.size →
      wpAnyIn F n P .any ops Q fuel L a w := by
  obtain ⟨m1, m2, m3⟩ := X.chain.mems 0
  have hidx : ∀ k h : Nat, (pre ++ post)[k]? = some h → (actsOf rs 0)[if k < pre.length then k else k + 1]? = some h := by
    intro k h e
    rw [Y.acts]
    by_cases hk : k < pre.length
    · rw [if_pos hk, List.getElem?_append_left hk]
      rwa [List.getElem?_append_left hk] at e
    · rw [if_neg hk, List.getElem?_append_right (by omega), show k + 1 - pre.length = k - pre.length + 1 by omega, List.getElem?_cons_succ]
      rwa [List.getElem?_append_right (by omega)] at e
  have hfact : (actsOf rs 0)[pre.length]? = some f := by rw [Y.acts, List.getElem?_append_right (Nat.le_refl _), Nat.sub_self]; rfl
  have hlen : (memsOf rs ++ [W']).length = (pre ++ post).length + 2 := by
    rw [List.length_append, m2, Y.acts]; simp; omega
  -- the others stand in one row
  have hgs2 : ∀ k k' h h' : Nat, (pre ++ post)[k]? = some h → (pre ++ post)[k']? = some h' → k < k' → h < h' := by
    intro k k' h h' e1 e2 hk
    exact actsOf_lt (hidx k h e1) (hidx k' h' e2) (by split <;> split <;> omega)
  have hgf : ∀ k h : Nat, (pre ++ post)[k]? = some h → h ≠ f := by
    rintro k h e rfl
    have e1 := hidx k h e
    rcases Nat.lt_trichotomy (if k < pre.length then k else k + 1) pre.length with h1 | h1 | h1
    · exact absurd (actsOf_lt e1 hfact h1) (Nat.lt_irrefl _)
    · split at h1 <;> omega
    · exact absurd (actsOf_lt hfact e1 h1) (Nat.lt_irrefl _)
  have hin : ∀ p h : Nat, (actsOf rs 0)[p]? = some h → h < ops.size := fun p h e => by
    obtain ⟨_, o, r, _, q, _⟩ := m3 p h e
    rw [Nat.sub_zero] at q
    have := (List.getElem?_eq_some_iff.1 q).1
    simpa using this
  have allDone : ∀ {L : Array Bool} {j : Nat} {φ : Emb} {a : Act} {w : World} {pend : Option Nat}, (∀ i, i < ops.size → L[i]? = some true) → InvE ops T rs nt L φ0 w0 a0 φ a w d pend →
      (∀ p h : Nat, (pre ++ post)[p]? = some h → (L[h]? = some true ↔ p < j)) → MemE pre.length f (memsOf rs ++ [W']) L j φ w pend zs w0.heap.size → Q .normal a w := by
    intro L j φ a w pend hall I hcnt hmem
    have hj : (pre ++ post).length ≤ j := by
      rcases Nat.lt_or_ge j (pre ++ post).length with h | h
      · have e : (pre ++ post)[j]? = some (pre ++ post)[j] := by simp
        have := (hcnt j _ e).1 (hall _ (hin _ _ (hidx j _ e)))
        omega
      · exact h
    cases pend with
    | some r0 =>
      obtain ⟨M, _, _, h, _⟩ := hmem
      rw [List.length_append] at hj
      omega
    | none =>
      obtain ⟨M, hW, h⟩ := hmem
      have hf := hall f (hin _ f hfact)
      rcases h with ⟨h, _⟩ | ⟨_, _, hM⟩
      · exact absurd hf h
      · have hk := (List.getElem?_eq_some_iff.1 hM).1
        have : j = (pre ++ post).length := by omega
        subst this
        have hlast : (memsOf rs ++ [W'])[(pre ++ post).length + 1]? = some W' := by
          have : (pre ++ post).length + 1 = (memsOf rs).length := by rw [List.length_append] at hlen; simp at hlen ⊢; omega
          rw [this, List.getElem?_append_right (Nat.le_refl _), Nat.sub_self]; rfl
        have : M = W' := Option.some.inj (hM.symm.trans hlast)
        subst this
        refine hq φ a w ⟨I.st, fun t v e => I.tm t v (fun h => by cases h) ?_, by rw [I.sz, hs0], I.df, hW⟩
        have := X.tat ops.size (Nat.le_refl _) t
        have hT : Tat rs T' ops.size = T' := by unfold Tat; rw [List.getElem?_eq_none (by rw [X.rlen]; exact Nat.le_refl _)]
        rw [hT] at this
        rw [this] at e
        unfold EV
        cases hw : (writersOf ops.toList).get t with
        | none => rw [hw] at e; exact e
        | some j =>
          rw [hw] at e
          simp only [] at e ⊢
          obtain ⟨o, ho, _⟩ := X.writes t j hw
          have hj := (Array.getElem?_eq_some_iff.1 ho).1
          rw [if_pos hj] at e
          rw [if_pos (hall j hj)]
          exact e
  have readyAll : ∀ {L : Array Bool}, L.size = ops.size → Region.ready .any ops L = [] → ∀ i, i < ops.size → L[i]? = some true := by
    intro L hs hr i
    induction i using Nat.strongRecOn with
    | _ i ih =>
      intro hi
      cases hb : L[i]? with
      | none => rw [Array.getElem?_eq_none_iff] at hb; omega
      | some b =>
        cases b with
        | true => rfl
        | false =>
          exfalso
          have : i ∈ Region.ready .any ops L := (mem_ready hs).2 ⟨ops[i], by simp [hi], hb, fun e he h => by
            have := X.back i ops[i] e (by simp [hi]) he h
            exact ih e.on this (by omega)⟩
          rw [hr] at this; simp at this
  intro fuel
  induction fuel with
  | zero =>
    intro R L j φ a w pend hR hall I hcnt hmem
    have : R = [] := List.eq_nil_of_length_eq_zero (by omega)
    subst this
    have hall' : ∀ i, i < ops.size → L[i]? = some true := fun i hi => by simpa using hall i hi
    refine ⟨?_, allDone hall' I hcnt hmem⟩
    rw [List.eq_nil_iff_forall_not_mem]
    intro i hi
    obtain ⟨o, h1, h2, _⟩ := (mem_ready I.size).1 hi
    rw [hall' i (Array.getElem?_eq_some_iff.1 h1).1] at h2
    cases h2
  | succ fuel ih =>
    intro R L j φ a w pend hR hall I hcnt hmem
    refine ⟨fun hr => allDone (readyAll I.size hr) I hcnt hmem, fun i hi => ?_⟩
    obtain ⟨o, ho, hL, hed⟩ := (mem_ready I.size).1 hi
    have hin' := (Array.getElem?_eq_some_iff.1 ho).1
    obtain ⟨r, hr⟩ : ∃ r, rs[i]? = some r := ⟨rs[i]'(by rw [X.rlen]; exact hin'), by simp [X.rlen, hin']⟩
    -- what comes ahead has been done
    have hpre : ∀ j, Nat.testBit ((predsOf ops ops.toList []).getD i 0) j = true → L[j]? = some true := by
      intro j hj
      obtain ⟨o', e, q1, q2, q3, q4⟩ := X.ahead i j hj
      have : o' = o := Option.some.inj (q1.symm.trans ho)
      subst this
      have := hed e q2 q3
      rcases q4 with rfl | q4
      · exact this
      · exact I.closed e.on j this q4
    -- the temporaries that it reads
    have htat : ∀ t, r.T.get t = match (writersOf ops.toList).get t with
        | some j => if j < i then (rs[j]?).map (·.v) else T.get t
        | none => T.get t := fun t => by
      have := X.tat i (by omega) t
      unfold Tat at this
      rw [hr] at this
      exact this
    have hev1 : ∀ t j, (writersOf ops.toList).get t = some j → Nat.testBit ((predsOf ops ops.toList []).getD i 0) j = true → EV ops T rs L t = r.T.get t := by
      intro t j hw hb
      rw [htat t, hw]
      unfold EV
      rw [hw]
      simp only []
      rw [if_pos (hpre j hb), if_pos (X.lt i j hb)]
    have hnot : ¬ L[i]? = some true := by rw [hL]; simp
    have hev : ∀ t ∈ tmpsOf o, EV ops T rs L t = r.T.get t := by
      intro t ht
      cases hw : (writersOf ops.toList).get t with
      | none => rw [htat t, hw]; unfold EV; rw [hw]
      | some j =>
        rcases X.reads i o t j ho ht hw with h | h | h
        · exact hev1 t j hw h
        · have h1 := X.lt j i h
          rw [htat t, hw]; unfold EV; rw [hw]
          simp only []
          rw [if_neg (fun hj => hnot (I.closed j i hj h)), if_neg (by omega)]
        · subst h
          rw [htat t, hw]; unfold EV; rw [hw]
          simp only []
          rw [if_neg hnot, if_neg (by omega)]
    -- the guard's temporary
    have hgd : ∀ (j : Nat) (want : Bool) (d : Tmp), o.guard = some (j, want) → (ops[j]?).bind (·.dst) = some d → EV ops T rs L d = r.T.get d := by
      intro j want d hg hd
      obtain ⟨oj, q1, q2⟩ := optB hd
      exact hev1 d j (X.one j oj d q1 q2) (X.guards i o j want ho hg)
    let ts : List Tmp := tmpsOf o ++ (match o.guard with
      | some (j, _) => ((ops[j]?).bind (·.dst)).toList
      | none => [])
    have hts : ∀ t ∈ ts, EV ops T rs L t = r.T.get t := by
      intro t ht
      rcases List.mem_append.1 ht with h | h
      · exact hev t h
      · cases hg : o.guard with
        | none => rw [hg] at h; simp at h
        | some g =>
          obtain ⟨j, want⟩ := g
          rw [hg] at h
          simp only [Option.mem_toList] at h
          exact hgd j want t hg h
    -- while the cell has no name, nothing reads it
    have hfar : ∀ t ∈ ts, pend.isSome = true → d ≠ some t := by
      intro t ht hp hdt
      obtain ⟨r0, rfl⟩ := Option.isSome_iff_exists.1 hp
      obtain ⟨M, _, hLf, hjp, _⟩ := hmem
      have hwf := X.one f of t hof (hdst.trans hdt)
      have hno : Nat.testBit ((predsOf ops ops.toList []).getD i 0) f = true → False := by
        intro hb
        have hne : pre ≠ [] := by rintro rfl; simp at hjp
        have hlast : pre.getLast? = some (pre.getLast hne) := List.getLast?_eq_some_getLast hne
        have h1 := hpre _ (Y.last _ hlast i o ho hb)
        have h2 : (pre ++ post)[pre.length - 1]? = some (pre.getLast hne) := by
          rw [List.getElem?_append_left (by omega), List.getLast_eq_getElem]
          simp
        have := (hcnt _ _ h2).1 h1
        omega
      rcases List.mem_append.1 ht with h | h
      · rcases X.reads i o t f ho h hwf with h | h | h
        · exact hno h
        · exact hnot (I.closed f i hLf h)
        · subst h; exact hnot hLf
      · cases hg : o.guard with
        | none => rw [hg] at h; simp at h
        | some g =>
          obtain ⟨j, want⟩ := g
          rw [hg] at h
          simp only [Option.mem_toList] at h
          obtain ⟨oj, q1, q2⟩ := optB h
          have := X.one j oj t q1 q2
          rw [hwf] at this
          cases this
          exact hno (X.guards i o _ want ho hg)
    have hTS : TRel φ (restr r.T ts) a.tmps := by
      intro t v e
      rw [restr_get] at e
      split at e
      · rename_i ht
        exact I.tm t v (hfar t ht) ((hts t ht).trans e)
      · cases e
    have hsame : ∀ x ∈ o.op.operands, aev r.T x = aev (restr r.T ts) x := operand_same (fun t ht => by
      rw [restr_get, if_pos (List.mem_append_left _ ht)])
    have hwant : aWanted ops (restr r.T ts) o = aWanted ops r.T o := by
      unfold aWanted
      cases hg : o.guard with
      | none => rfl
      | some g =>
        obtain ⟨j, want⟩ := g
        simp only []
        cases hd : (ops[j]?).bind (·.dst) with
        | none => rfl
        | some d =>
          simp only []
          rw [restr_get, if_pos (List.mem_append_right _ (by rw [hg]; simp [hd]))]
    obtain ⟨c1, c2, c3, c4, c5⟩ := X.chain.at i o r (by simpa using ho) hr
    have hRi : (R.erase i).length ≤ fuel := by
      have hiR : i ∈ R := by
        rcases hall i hin' with h | h
        · rw [hL] at h; cases h
        · exact h
      rw [List.length_erase_of_mem hiR]; omega
    have hall' : ∀ x, x < ops.size → (L.setIfInBounds i true)[x]? = some true ∨ x ∈ R.erase i := by
      intro x hx
      by_cases e : x = i
      · subst e
        exact .inl (by rw [Array.getElem?_setIfInBounds, if_pos rfl, if_pos (by rw [I.size]; exact hin')])
      · rcases hall x hx with h | h
        · exact .inl (by rw [Array.getElem?_setIfInBounds, if_neg (Ne.symm e)]; exact h)
        · exact .inr ((List.mem_erase_of_ne e).2 h)
    have hset := set_true (L := L) (i := i) (by rw [I.size]; exact hin')
    have hff : i ≠ f → ((L.setIfInBounds i true)[f]? = some true ↔ L[f]? = some true) := fun h => by rw [hset]; simp [Ne.symm h]
    -- no other writes the cell's temporary
    have hdo : i ≠ f → ∀ t, pend.isSome = true → d = some t → o.dst ≠ some t := by
      intro hne t _ hdt hot
      have h1 := X.one f of t hof (hdst.trans hdt)
      have h2 := X.one i o t ho hot
      rw [h1] at h2; cases h2; exact hne rfl
    -- what does not act leaves the count and memory
    have calm : r.acts = false → i ≠ f ∧ (∀ p h : Nat, (pre ++ post)[p]? = some h → ((L.setIfInBounds i true)[h]? = some true ↔ p < j)) ∧ MemE pre.length f (memsOf rs ++ [W']) (L.setIfInBounds i true) j φ w pend zs w0.heap.size := by
      intro hra
      have ne : ∀ p h : Nat, (actsOf rs 0)[p]? = some h → h ≠ i := by
        rintro p h e rfl
        obtain ⟨_, _, r', _, _, q1, q2, _⟩ := m3 p h e
        rw [Nat.sub_zero, hr] at q1
        cases q1
        rw [hra] at q2; cases q2
      have hfi := ne _ f hfact
      refine ⟨Ne.symm hfi, fun p h e => ?_, ?_⟩
      · rw [hset, ← hcnt p h e]
        simp [ne _ h (hidx p h e)]
      · have hk := hff (Ne.symm hfi)
        cases pend with
        | none =>
          obtain ⟨M, h1, h2⟩ := hmem
          exact ⟨M, h1, h2.imp (fun ⟨x, y⟩ => ⟨fun z => x (hk.1 z), y⟩) (fun ⟨x, y⟩ => ⟨hk.2 x, y⟩)⟩
        | some r0 =>
          obtain ⟨M, h1, h2, h3⟩ := hmem
          exact ⟨M, h1, hk.2 h2, h3⟩
    unfold wpOpIn
    rw [ho]
    simp only []
    cases hwt : r.want with
    | false =>
      have hw0 := aWanted_rel hTS (hwant.trans (c1.trans (by rw [hwt])))
      rw [if_neg (by rw [hw0]; simp)]
      obtain ⟨e1, e2⟩ := c4 hwt
      refine ⟨fun f _ => hF.1 f, ?_⟩
      obtain ⟨d0, d1, d2⟩ := calm e2
      refine ih (R.erase i) _ j φ _ w pend hRi hall' (I.next X ho hr hL hpre (WStep.refl _ _) ?_ (hdo d0)) d1 d2
      rw [e1]; exact VRel.undef φ
    | true =>
      have hw0 := aWanted_rel hTS (hwant.trans (c1.trans (by rw [hwt])))
      rw [if_pos hw0]
      obtain ⟨W1, hone⟩ := c2 hwt
      have hacts := c3 hwt
      cases ha : r.acts with
      | true =>
        by_cases hif : i = f
        · -- the cell is made
          subst hif
          have eo : of = o := Option.some.inj (hof.symm.trans ho)
          have er : rf = r := Option.some.inj (hrf.symm.trans hr)
          subst eo; subst er
          have hcnt' : ∀ p h : Nat, (pre ++ post)[p]? = some h → ((L.setIfInBounds i true)[h]? = some true ↔ p < j) := by
            intro p h e
            rw [hset, ← hcnt p h e]
            simp [hgf p h e]
          cases pend with
          | some r0 =>
            obtain ⟨M, _, h, _⟩ := hmem
            exact absurd h hnot
          | none =>
            obtain ⟨M, hW, h⟩ := hmem
            rcases h with ⟨_, hjp, hM⟩ | ⟨h, _⟩
            · by_cases hj : j = pre.length
              · subst hj
                obtain ⟨_, o', r', W2, q1, q2, _, _, q5, q6, q7⟩ := m3 _ i hfact
                rw [Nat.sub_zero] at q1 q2
                have eo : o' = of := Option.some.inj (q1.symm.trans (by simpa using ho))
                have er : r' = rf := Option.some.inj (q2.symm.trans hr)
                subst eo; subst er
                have eM : M = r'.W := Option.some.inj (hM.symm.trans q5)
                subst eM
                rw [oneOp_same hsame] at q7
                refine oneOp_goes hc hro hp hW hTS q7 F n _ Q hF (fun ψ w' v' k1 k2 k3 => ?_)
                exact ih (R.erase i) _ pre.length ψ _ w' none hRi hall' (I.next X ho hr hL hpre k3 k1 (fun t h => by cases h)) hcnt' ⟨W2, k2, .inr ⟨(hset i).2 (.inl rfl), Nat.le_refl _, q6⟩⟩
              · have hlt : j < pre.length := by omega
                obtain ⟨dst, op, type, pos, after, guard⟩ := of
                simp only [] at hop hdst
                subst hop
                refine ⟨fun g _ => hF.1 g, ?_⟩
                rw [Oper.semAt_eq _ _ _ (fun c => by simp)]
                have hx : (execOp a.eval ⟨dst, .alloc tf, type, pos, after, guard⟩).run P w = .ok (.value (.pointer (some ⟨w.heap.size, 0, none⟩))) (w.alloc (.cells zs.toArray tf)) := by
                  show (do pure (Next.value (← Instr.alloc tf true (.tuple #[]))) : Sem Next).run P w = _
                  simp [hrun w]
                rw [hx]
                have hnew : (w.alloc (.cells zs.toArray tf)).heap[w.heap.size]? = some (.cells zs.toArray tf (0, 0)) := by show (w.heap.push _)[w.heap.size]? = _; simp
                have hst : WStep φ w φ (w.alloc (.cells zs.toArray tf)) := ⟨rfl, rfl, rfl, by simp, Ext.refl _, fun _ _ e => .inl e, fun r hr _ => Below.heap_alloc w _ r hr⟩
                have hW' : WRel φ M (w.alloc (.cells zs.toArray tf)) := by
                  refine ⟨hW.dom, fun b x e => Nat.lt_of_lt_of_le (hW.real b x e) hst.size, fun b ob e => ?_, hW.sep⟩
                  obtain ⟨x, p1, p2⟩ := hW.live b ob e
                  exact ⟨x, p1, p2.mono (Ext.refl _) (Below.heap_alloc w _ _ (hW.real _ _ p1))⟩
                exact ih (R.erase i) _ j φ _ _ (some w.heap.size) hRi hall' (I.waits X ho hr hdst hL hpre hst) hcnt'
                  ⟨M, hW', (hset i).2 (.inl rfl), hlt, hM, ⟨tf, hnew⟩, fun b x e => by have := hW.real b x e; omega, I.st.size⟩
            · exact absurd h hnot
        · obtain ⟨p', hpi⟩ := actsOf_mem (i0 := 0) hr ha
          rw [Nat.zero_add] at hpi
          obtain ⟨k, hk⟩ : ∃ k : Nat, (pre ++ post)[k]? = some i := by
            have hmem' := List.mem_of_getElem? hpi
            rw [Y.acts] at hmem'
            refine List.mem_iff_getElem?.1 ?_
            rcases List.mem_append.1 hmem' with h | h
            · exact List.mem_append_left _ h
            · rcases List.mem_cons.1 h with h | h
              · exact absurd h hif
              · exact List.mem_append_right _ h
          have hkj : k = j := by
            have h1 : ¬ k < j := fun h => hnot ((hcnt k i hk).2 h)
            cases k with
            | zero => omega
            | succ k =>
              have hl : k < (pre ++ post).length := by have := (List.getElem?_eq_some_iff.1 hk).1; omega
              have e1 : (pre ++ post)[k]? = some (pre ++ post)[k] := by simp
              have := (hcnt k _ e1).1 (hpre _ (Y.row k _ i e1 hk))
              omega
          subst hkj
          have hcnt' : ∀ q h : Nat, (pre ++ post)[q]? = some h → ((L.setIfInBounds i true)[h]? = some true ↔ q < k + 1) := by
            intro q h e
            rw [hset, hcnt q h e]
            constructor
            · rintro (rfl | h1)
              · rcases Nat.lt_trichotomy q k with h2 | h2 | h2
                · omega
                · omega
                · exact absurd (hgs2 k q _ _ hk e h2) (Nat.lt_irrefl _)
              · omega
            · intro h1
              by_cases e2 : q = k
              · subst e2; exact .inl (Option.some.inj (e.symm.trans hk))
              · exact .inr (by omega)
          obtain ⟨_, o', r', W2, q1, q2, _, _, q5, q6, q7⟩ := m3 _ i (hidx k i hk)
          rw [Nat.sub_zero] at q1 q2
          have eo : o' = o := Option.some.inj (q1.symm.trans (by simpa using ho))
          have er : r' = r := Option.some.inj (q2.symm.trans hr)
          subst eo; subst er
          have hfk := hff hif
          by_cases hkp : k < pre.length
          · rw [if_pos hkp] at q5 q6
            rw [oneOp_same hsame] at q7
            cases pend with
            | none =>
              obtain ⟨M, hW, h⟩ := hmem
              rcases h with ⟨hf, _, hM⟩ | ⟨_, h, _⟩
              · have eM : M = r'.W := Option.some.inj (hM.symm.trans q5)
                subst eM
                refine oneOp_goes hc hro hp hW hTS q7 F n _ Q hF (fun ψ w' v' k1 k2 k3 => ?_)
                exact ih (R.erase i) _ (k + 1) ψ _ w' none hRi hall' (I.next X ho hr hL hpre k3 k1 (hdo hif)) hcnt' ⟨W2, k2, .inl ⟨fun z => hf (hfk.1 z), by omega, q6⟩⟩
              · omega
            | some r0 =>
              obtain ⟨M, hW, hLf, _, hM, ⟨t, hcell⟩, himg, hbig⟩ := hmem
              have eM : M = r'.W := Option.some.inj (hM.symm.trans q5)
              subst eM
              refine oneOp_goes hc hro hp hW hTS q7 F n _ Q hF (fun ψ w' v' k1 k2 k3 => ?_)
              have hr0 := (Array.getElem?_eq_some_iff.1 hcell).1
              have hcell' : w'.heap[r0]? = some (.cells zs.toArray t (0, 0)) := (k3.frame r0 hr0 himg).trans hcell
              have himg' : ∀ b x, ψ b = some x → x.r ≠ r0 := by
                intro b x e
                rcases k3.fresh b x e with h | h | ⟨b0, i0, h1, h2⟩
                · exact himg b x h
                · omega
                · rw [← h2]; exact himg b0 i0 h1
              have I' := I.next X ho hr hL hpre k3 k1 (hdo hif)
              by_cases hlast : k + 1 = pre.length
              · -- its name comes
                have eW : W2 = rf.W := Option.some.inj (q6.symm.trans (by rw [hlast]; exact hm0))
                subst eW
                have hn : ψ rf.W.size = none := by
                  cases e : ψ rf.W.size with
                  | none => rfl
                  | some x => have := k2.dom _ _ e; omega
                exact ih (R.erase i) _ (k + 1) _ _ w' none hRi hall' (I'.named X hof hrf hdst (hfk.2 hLf) (sz := zs.length) hv hn hbig) hcnt'
                  ⟨_, wrel_name k2 hcell' himg' hz, .inr ⟨hfk.2 hLf, by omega, by rw [hlast]; exact hm1⟩⟩
              · exact ih (R.erase i) _ (k + 1) ψ _ w' (some r0) hRi hall' I' hcnt' ⟨W2, k2, hfk.2 hLf, by omega, q6, ⟨t, hcell'⟩, himg', hbig⟩
          · rw [if_neg hkp] at q5 q6
            rw [oneOp_same hsame] at q7
            have hip : i ∈ post := by
              rw [List.getElem?_append_right (by omega)] at hk
              exact List.mem_of_getElem? hk
            have hLf := hpre f (Y.behind i hip)
            cases pend with
            | some r0 =>
              obtain ⟨M, _, _, h, _⟩ := hmem
              omega
            | none =>
              obtain ⟨M, hW, h⟩ := hmem
              rcases h with ⟨h, _⟩ | ⟨_, _, hM⟩
              · exact absurd hLf h
              · have eM : M = r'.W := Option.some.inj (hM.symm.trans q5)
                subst eM
                refine oneOp_goes hc hro hp hW hTS q7 F n _ Q hF (fun ψ w' v' k1 k2 k3 => ?_)
                exact ih (R.erase i) _ (k + 1) ψ _ w' none hRi hall' (I.next X ho hr hL hpre k3 k1 (hdo hif)) hcnt' ⟨W2, k2, .inr ⟨hfk.2 hLf, by omega, q6⟩⟩
      | false =>
        have hlight := hacts.symm.trans ha
        obtain ⟨l1, l2, l3⟩ := oneOp_light hlight hone
        obtain ⟨d0, d1, d2⟩ := calm ha
        have hlo : countBits ((predsOf ops ops.toList []).getD i 0) (pre ++ post) ≤ j := countBits_le _ _ (fun q h e hb => (hcnt q h e).1 (hpre h hb))
        have hjl : j ≤ (pre ++ post).length := by
          cases pend with
          | none =>
            obtain ⟨M, _, h⟩ := hmem
            rcases h with ⟨_, h, _⟩ | ⟨_, _, h⟩
            · rw [List.length_append]; omega
            · have := (List.getElem?_eq_some_iff.1 h).1; omega
          | some r0 =>
            obtain ⟨M, _, _, h, _⟩ := hmem
            rw [List.length_append]; omega
        have hhi : j ≤ ((pre ++ post).takeWhile fun h => !Nat.testBit ((predsOf ops ops.toList []).getD h 0) i).length := by
          rcases Nat.lt_or_ge ((pre ++ post).takeWhile fun h => !Nat.testBit ((predsOf ops ops.toList []).getD h 0) i).length j with h | h
          · exfalso
            have hlt : ((pre ++ post).takeWhile fun h => !Nat.testBit ((predsOf ops ops.toList []).getD h 0) i).length < (pre ++ post).length := by omega
            have e1 : (pre ++ post)[((pre ++ post).takeWhile fun h => !Nat.testBit ((predsOf ops ops.toList []).getD h 0) i).length]? = some (pre ++ post)[((pre ++ post).takeWhile fun h => !Nat.testBit ((predsOf ops ops.toList []).getD h 0) i).length] := by simp
            have e2 := (hcnt _ _ e1).2 h
            have e3 := takeWhile_stop _ _ _ e1
            exact hnot (I.closed _ i e2 (by simpa using e3))
          · exact h
        have go : ∀ {k : Nat} {B : AW}, WRel φ B w → (memsOf rs ++ [W'])[k]? = some B → (k = j ∨ (pre.length ≤ j ∧ k = j + 1)) → o.wpIn F n P a w (fun a' w' => wpAnyIn F n P .any ops Q fuel (L.setIfInBounds i true) a' w') Q := by
          intro k B hB hk hkj
          have hnow : oneOp P pt call round r.T B o.type o.op = some (r.v, B) := by
            cases hx : isRead o.op with
            | false => exact l2 hx B
            | true =>
              refine l3 B r.v ?_ hx
              refine readsSame_mem (Y.same i o r ho hr hwt hx) B ?_
              generalize ((pre ++ post).takeWhile fun h => !Nat.testBit ((predsOf ops ops.toList []).getD h 0) i).length = hi at hhi ⊢
              generalize countBits ((predsOf ops ops.toList []).getD i 0) (pre ++ post) = lo at hlo ⊢
              refine List.mem_of_getElem? (i := k - lo) ?_
              rw [List.getElem?_take_of_lt, List.getElem?_drop, ← hk]
              · congr 1; omega
              · cases hb : Nat.blt hi pre.length with
                | true => rw [nat_blt_eq, decide_eq_true_iff] at hb; simp only [cond_true]; omega
                | false => rw [nat_blt_eq, decide_eq_false_iff_not] at hb; simp only [cond_false]; omega
          rw [oneOp_same hsame] at hnow
          refine light_goes hp hB hTS ?_ hnow F n _ Q hF (fun v' hv => ?_)
          · rw [← hlight]; exact (actsB_same hsame).symm
          · exact ih (R.erase i) _ j φ _ w pend hRi hall' (I.next X ho hr hL hpre (WStep.refl _ _) hv (hdo d0)) d1 d2
        cases pend with
        | none =>
          obtain ⟨M, hW, h⟩ := hmem
          rcases h with ⟨_, _, hM⟩ | ⟨_, hpj, hM⟩
          · exact go hW hM (.inl rfl)
          · exact go hW hM (.inr ⟨hpj, rfl⟩)
        | some r0 =>
          obtain ⟨M, hW, _, _, hM, _⟩ := hmem
          exact go hW hM (.inl rfl)
/-- such a region, from its start -/
theorem drawEarly_start (hc : CallOk P call) (hro : RoundOk P round) (hp : PtOk P pt) {F : Fence} {n : Nat} (hF : Wide F) {Q : Exit → Act → World → Prop} (X : Facts0 P pt call round nt ops T W T' W' rs) (hl : drawEarly P ops W' rs = true) {φ : Emb} {w : World} {a : Act}
    (hT : TRel φ T a.tmps) (hW : WRel φ W w) (hs : a.tmps.size = nt) (hq : ∀ ψ a' w', On φ w a T' W' ψ a' w' → Q .normal a' w') :
    wpAnyIn F n P .any ops Q ops.size (Array.replicate ops.size false) a w := by
  obtain ⟨pre, f, post, Y⟩ := early_of hl
  obtain ⟨m1, _, m3⟩ := X.chain.mems 0
  have hfact : (actsOf rs 0)[pre.length]? = some f := by rw [Y.acts, List.getElem?_append_right (Nat.le_refl _), Nat.sub_self]; rfl
  obtain ⟨_, o, r, W1, q1, q2, _, _, q5, q6, q7⟩ := m3 _ f hfact
  rw [Nat.sub_zero] at q1 q2
  have ho : ops[f]? = some o := by simpa using q1
  obtain ⟨o2, z1, z2⟩ := Y.make
  have : o2 = o := Option.some.inj (z1.symm.trans ho)
  subst this
  obtain ⟨t, hop⟩ : ∃ t, o2.op = .alloc t := by
    cases h : o2.op <;> rw [h] at z2 <;> first
      | exact ⟨_, rfl⟩
      | cases z2
  rw [hop] at q7
  simp only [oneOp_def, oneOpM] at q7
  obtain ⟨zs, g1, g2, g3, g4⟩ := hAlloc_run w q7
  refine drawEarly_ok hc hro hp hF X Y ho q2 rfl hop g1 g3 q5 (g2 ▸ q6) g4 (φ0 := φ) (w0 := w) (a0 := a) hq hs ops.size (List.range ops.size) _ 0 φ a w none (by simp) (fun i hi => .inr (by simpa using hi)) ?_ (fun p h _ => ?_) ⟨W, hW, .inl ⟨?_, Nat.zero_le _, m1⟩⟩
  · refine ⟨by simp, fun i j hi => ?_, fun t v _ e => ?_, fun _ _ e => (by cases e), hs, rfl, WStep.refl _ _⟩
    · simp [Array.getElem?_replicate] at hi
    · refine hT t v ?_
      unfold EV at e
      split at e
      · rw [if_neg (by simp [Array.getElem?_replicate])] at e; exact e
      · exact e
  · simp [Array.getElem?_replicate]
  · simp [Array.getElem?_replicate]
end Go.Proofs.YthengmpnfcclbaaGreatDoor
