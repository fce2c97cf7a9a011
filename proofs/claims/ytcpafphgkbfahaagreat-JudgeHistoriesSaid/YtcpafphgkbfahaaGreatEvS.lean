/- An evaluator of closed runs: a region that draws its order, sound. -/
import Derived.Test.YtcpafphgkbfahaaGreatEvR
namespace Go.Proofs.YtcpafphgkbfahaaGreat
open Go Go.RowKit
set_option linter.unusedSimpArgs false

variable {P : Program} {pt : Pt} {call : Callee'} {round : Rounder} {nt : Nat} {ops : Array Oper} {T T' : Tr Value} {W W' : AW} {rs : List Rec}
theorem takeWhile_stop {α : Type} (p : α → Bool) : ∀ (l : List α) (x : α), l[(l.takeWhile p).length]? = some x → p x = false
  | [], x, h => by simp at h
  | y :: l, x, h => by
    rw [List.takeWhile_cons] at h
    cases hy : p y with
    | true =>
      rw [hy, if_pos rfl, List.length_cons, List.getElem?_cons_succ] at h
      exact takeWhile_stop p l x h
    | false =>
      rw [hy] at h
      simp at h
      rw [← h]; exact hy
theorem Facts0.lt (F : Facts0 P pt call round nt ops T W T' W' rs) : ∀ (i j : Nat), Nat.testBit ((predsOf ops ops.toList []).getD i 0) j = true → j < i := by
  intro i
  induction i using Nat.strongRecOn with
  | _ i ih =>
    intro j h
    obtain ⟨o, e, h1, h2, h3, h4⟩ := F.ahead i j h
    have := F.back i o e h1 h2 h3
    rcases h4 with rfl | h4
    · exact this
    · have := ih e.on this j h4; omega
theorem Facts0.rlen (F : Facts0 P pt call round nt ops T W T' W' rs) : rs.length = ops.size := by have := F.chain.length; simpa using this
/-- the temporaries ahead of an operation, in the order of the text -/
theorem Facts0.tat (F : Facts0 P pt call round nt ops T W T' W' rs) (i : Nat) (hi : i ≤ ops.size) (t : Nat) : (Tat rs T' i).get t = match (writersOf ops.toList).get t with
    | some j => if j < i then (rs[j]?).map (·.v) else T.get t
    | none => T.get t := by
  have hl : ∀ {i : Nat} {o : Oper}, ops.toList[i]? = some o → ops[i]? = some o := fun e => by simpa using e
  cases hw : (writersOf ops.toList).get t with
  | none =>
    exact F.chain.old i t (by simpa using hi) (fun k o _ e hd => by have := F.one k o t (hl e) hd; rw [hw] at this; cases this)
  | some j =>
    simp only []
    obtain ⟨o, ho, hd⟩ := F.writes t j hw
    have hjn : j < ops.size := (Array.getElem?_eq_some_iff.1 ho).1
    by_cases hj : j < i
    · rw [if_pos hj]
      have hr : rs[j]? = some (rs[j]'(by rw [F.rlen]; exact hjn)) := by simp [F.rlen, hjn]
      rw [hr]
      exact F.chain.new i t j o _ (by simpa using hi) hj (by simpa using ho) hr hd (fun k o' h1 h2 e hd' => by have := F.one k o' t (hl e) hd'; rw [hw] at this; cases this; omega)
    · rw [if_neg hj]
      exact F.chain.old i t (by simpa using hi) (fun k o' h1 e hd' => by have := F.one k o' t (hl e) hd'; rw [hw] at this; cases this; omega)
structure Inv (ops : Array Oper) (T : Tr Value) (W' : AW) (rs : List Rec) (nt : Nat) (L : Array Bool) (k : Nat) (φ0 : Emb) (w0 : World) (a0 : Act) (φ : Emb) (a : Act) (w : World) : Prop where
  size : L.size = ops.size
  closed : ∀ i j : Nat, L[i]? = some true → Nat.testBit ((predsOf ops ops.toList []).getD i 0) j = true → L[j]? = some true
  cnt : ∀ p h : Nat, (actsOf rs 0)[p]? = some h → (L[h]? = some true ↔ p < k)
  mem : ∃ M, (memsOf rs ++ [W'])[k]? = some M ∧ WRel φ M w
  tm : ∀ t v, EV ops T rs L t = some v → ∃ v', a.tmps[t]? = some v' ∧ VRel φ v v'
  sz : a.tmps.size = nt
  df : a.defers = a0.defers
  st : WStep φ0 w0 φ w
theorem mem_ready {L : Array Bool} {i : Nat} (hs : L.size = ops.size) : i ∈ Region.ready .any ops L ↔ ∃ o, ops[i]? = some o ∧ L[i]? = some false ∧ ∀ e ∈ o.after, Region.binds .any e = true → L[e.on]? = some true := by
  unfold Region.ready
  rw [List.mem_filter, List.mem_range]
  have hgd : ∀ j : Nat, L.getD j false = true ↔ L[j]? = some true := fun j => by
    rw [Array.getD_eq_getD_getElem?]
    cases h : L[j]? with
    | none => simp
    | some b => simp
  constructor
  · rintro ⟨h1, h2⟩
    simp only [Bool.and_eq_true, Bool.not_eq_true'] at h2
    refine ⟨ops[i], by simp [h1], ?_, fun e he hb => ?_⟩
    · have h3 := h2.1
      rw [Array.getD_eq_getD_getElem?] at h3
      have hi : i < L.size := by omega
      simp [hi] at h3 ⊢
      exact h3
    · have h3 := h2.2
      simp only [h1, Array.getElem?_eq_getElem, Option.map_some, Option.getD_some, Array.all_eq_true_iff_forall_mem] at h3
      have := h3 e he
      rw [hb] at this
      exact (hgd _).1 (by simpa using this)
  · rintro ⟨o, h1, h2, h3⟩
    have hi := (Array.getElem?_eq_some_iff.1 h1).1
    refine ⟨hi, ?_⟩
    simp only [Bool.and_eq_true, Bool.not_eq_true']
    refine ⟨by rw [Array.getD_eq_getD_getElem?, h2]; rfl, ?_⟩
    simp only [h1, Option.map_some, Option.getD_some, Array.all_eq_true_iff_forall_mem]
    intro e he
    cases hb : Region.binds .any e with
    | false => simp
    | true => simpa using (hgd _).2 (h3 e he hb)
/-- an operation has been done: the state goes on -/
theorem Inv.next {φ0 φ ψ : Emb} {w0 w w' : World} {a0 a : Act} {L : Array Bool} {k k' : Nat} (F : Facts P pt call round nt ops T W T' W' rs) (I : Inv ops T W' rs nt L k φ0 w0 a0 φ a w) {i : Nat} {o : Oper} {r : Rec} (ho : ops[i]? = some o) (hr : rs[i]? = some r)
    (hL : L[i]? = some false) (hpre : ∀ j, Nat.testBit ((predsOf ops ops.toList []).getD i 0) j = true → L[j]? = some true)
    (hk : (r.acts = true ∧ (actsOf rs 0)[k]? = some i ∧ k' = k + 1) ∨ (r.acts = false ∧ k' = k)) {M : AW} (hM : (memsOf rs ++ [W'])[k']? = some M) (hW : WRel ψ M w') (hst : WStep φ w ψ w') {v' : Value} (hv : VRel ψ r.v v') :
    Inv ops T W' rs nt (L.setIfInBounds i true) k' φ0 w0 a0 ψ (a.put o.dst v') w' := by
  have hiL : i < L.size := (Array.getElem?_eq_some_iff.1 hL).1
  have hset : ∀ j : Nat, (L.setIfInBounds i true)[j]? = some true ↔ j = i ∨ L[j]? = some true := by
    intro j
    rw [Array.getElem?_setIfInBounds]
    by_cases e : i = j
    · subst e; simp [hiL]
    · rw [if_neg e]; constructor
      · exact .inr
      · rintro (h | h)
        · exact absurd h.symm e
        · exact h
  refine ⟨by simp [I.size], fun x j hx hj => ?_, fun p h hp => ?_, ⟨M, hM, hW⟩, fun t v e => ?_, by rw [put_size]; exact I.sz, by rw [put_defers]; exact I.df, I.st.trans hst⟩
  · rw [hset] at hx ⊢
    rcases hx with rfl | hx
    · exact .inr (hpre j hj)
    · exact .inr (I.closed x j hx hj)
  · rw [hset, I.cnt p h hp]
    rcases hk with ⟨_, hki, rfl⟩ | ⟨hf, rfl⟩
    · constructor
      · rintro (rfl | h1)
        · rcases Nat.lt_trichotomy p k with h1 | h1 | h1
          · omega
          · omega
          · exact absurd (actsOf_lt hki hp h1) (Nat.lt_irrefl _)
        · omega
      · intro h1
        by_cases e : p = k
        · subst e; exact .inl (Option.some.inj (hp.symm.trans hki))
        · exact .inr (by omega)
    · constructor
      · rintro (rfl | h1)
        · obtain ⟨_, o', r', _, _, q1, q2, _⟩ := (F.chain.mems 0).2.2 p h hp
          rw [Nat.sub_zero, hr] at q1
          cases q1
          rw [hf] at q2; cases q2
        · exact h1
      · exact .inr
  · unfold EV at e
    cases hw : (writersOf ops.toList).get t with
    | none =>
      rw [hw] at e
      simp only [] at e
      have hd : o.dst ≠ some t := fun hd => by have := F.one i o t ho hd; rw [hw] at this; cases this
      obtain ⟨u, q1, q2⟩ := I.tm t v (by unfold EV; rw [hw]; exact e)
      refine ⟨u, ?_, q2.mono hst.ext⟩
      rw [← q1]
      cases hd' : o.dst with
      | none => rfl
      | some d => simp only [Act.put, Array.getElem?_setIfInBounds]; rw [if_neg (fun e => hd (by rw [hd', e]))]
    | some j =>
      rw [hw] at e
      simp only [] at e
      by_cases hji : j = i
      · subst hji
        rw [if_pos ((hset j).2 (.inl rfl)), hr] at e
        simp only [Option.map_some, Option.some.injEq] at e
        subst e
        obtain ⟨o', q1, q2⟩ := F.writes t j hw
        have : o' = o := Option.some.inj (q1.symm.trans ho)
        subst this
        obtain ⟨_, _, _, _, T1, hpt⟩ := F.chain.at j o' r (by simpa using ho) hr
        unfold putT at hpt
        rw [q2] at hpt
        simp only [] at hpt
        obtain ⟨h1, _⟩ := bif_some hpt
        rw [nat_blt_eq, decide_eq_true_iff] at h1
        refine ⟨v', ?_, hv⟩
        rw [q2]
        simp only [Act.put, Array.getElem?_setIfInBounds]
        rw [if_pos trivial, if_pos (by have := I.sz; omega)]
      · have hd : o.dst ≠ some t := fun hd => by have := F.one i o t ho hd; rw [hw] at this; cases this; exact hji rfl
        have : (L.setIfInBounds i true)[j]? = some true ↔ L[j]? = some true := by rw [hset]; simp [hji]
        obtain ⟨u, q1, q2⟩ := I.tm t v (by
          unfold EV; rw [hw]
          simp only []
          by_cases hj : L[j]? = some true
          · rw [if_pos hj]; rw [if_pos (this.2 hj)] at e; exact e
          · rw [if_neg hj]; rw [if_neg (fun h => hj (this.1 h))] at e; exact e)
        refine ⟨u, ?_, q2.mono hst.ext⟩
        rw [← q1]
        cases hd' : o.dst with
        | none => rfl
        | some d => simp only [Act.put, Array.getElem?_setIfInBounds]; rw [if_neg (fun e => hd (by rw [hd', e]))]
theorem drawAny_ok (hc : CallOk P call) (hro : RoundOk P round) (hp : PtOk P pt) {F : Fence} {n : Nat} (hF : Wide F) {Q : Exit → Act → World → Prop} (X : Facts P pt call round nt ops T W T' W' rs) {φ0 : Emb} {w0 : World} {a0 : Act}
    (hq : ∀ ψ a' w', On φ0 w0 a0 T' W' ψ a' w' → Q .normal a' w') (hs0 : a0.tmps.size = nt) :
    ∀ (fuel : Nat) (R : List Nat) (L : Array Bool) (k : Nat) (φ : Emb) (a : Act) (w : World), R.length ≤ fuel → (∀ i, i < ops.size → L[i]? = some true ∨ i ∈ R) → Inv ops T W' rs nt L k φ0 w0 a0 φ a w →
      wpAnyIn F n P .any ops Q fuel L a w := by
  have allDone : ∀ {L : Array Bool} {k : Nat} {φ : Emb} {a : Act} {w : World}, (∀ i, i < ops.size → L[i]? = some true) → Inv ops T W' rs nt L k φ0 w0 a0 φ a w → Q .normal a w := by
    intro L k φ a w hall I
    obtain ⟨m1, m2, m3⟩ := X.chain.mems 0
    have hin : ∀ p h, (actsOf rs 0)[p]? = some h → h < ops.size := fun p h e => by
      obtain ⟨_, o, r, _, q, _⟩ := m3 p h e
      rw [Nat.sub_zero] at q
      have := (List.getElem?_eq_some_iff.1 q).1
      simpa using this
    obtain ⟨M, hM, hW⟩ := I.mem
    have hk1 : (actsOf rs 0).length ≤ k := by
      rcases Nat.lt_or_ge k (actsOf rs 0).length with h | h
      · have e : (actsOf rs 0)[k]? = some (actsOf rs 0)[k] := by simp
        have := (I.cnt k _ e).1 (hall _ (hin k _ e))
        omega
      · exact h
    have hk2 : k ≤ (memsOf rs).length := by
      have := (List.getElem?_eq_some_iff.1 hM).1
      simp at this; omega
    have hk : k = (memsOf rs).length := by omega
    subst hk
    rw [List.getElem?_append_right (Nat.le_refl _), Nat.sub_self] at hM
    simp only [List.getElem?_cons_zero, Option.some.injEq] at hM
    subst hM
    refine hq φ a w ⟨I.st, fun t v e => I.tm t v ?_, by rw [I.sz, hs0], I.df, hW⟩
    have := X.tat ops.size (Nat.le_refl _) t
    have hT : Tat rs T' ops.size = T' := by unfold Tat; rw [List.getElem?_eq_none (by rw [X.rlen]; exact Nat.le_refl _)]
    rw [hT] at this
    rw [this] at e
    unfold EV
    cases hw : (writersOf ops.toList).get t with
    | none => rw [hw] at e; exact e
    | some j =>
      rw [hw] at e
      simp only [] at e ⊢
      obtain ⟨o, ho, _⟩ := X.writes t j hw
      have hj := (Array.getElem?_eq_some_iff.1 ho).1
      rw [if_pos hj] at e
      rw [if_pos (hall j hj)]
      exact e
  have readyAll : ∀ {L : Array Bool}, L.size = ops.size → Region.ready .any ops L = [] → ∀ i, i < ops.size → L[i]? = some true := by
    intro L hs hr i
    induction i using Nat.strongRecOn with
    | _ i ih =>
      intro hi
      cases hb : L[i]? with
      | none => rw [Array.getElem?_eq_none_iff] at hb; omega
      | some b =>
        cases b with
        | true => rfl
        | false =>
          exfalso
          have : i ∈ Region.ready .any ops L := (mem_ready hs).2 ⟨ops[i], by simp [hi], hb, fun e he h => by
            have := X.back i ops[i] e (by simp [hi]) he h
            exact ih e.on this (by omega)⟩
          rw [hr] at this; simp at this
  intro fuel
  induction fuel with
  | zero =>
    intro R L k φ a w hR hall I
    have : R = [] := List.eq_nil_of_length_eq_zero (by omega)
    subst this
    have hall' : ∀ i, i < ops.size → L[i]? = some true := fun i hi => by simpa using hall i hi
    refine ⟨?_, allDone hall' I⟩
    rw [List.eq_nil_iff_forall_not_mem]
    intro i hi
    obtain ⟨o, h1, h2, _⟩ := (mem_ready I.size).1 hi
    rw [hall' i (Array.getElem?_eq_some_iff.1 h1).1] at h2
    cases h2
  | succ fuel ih =>
    intro R L k φ a w hR hall I
    refine ⟨fun hr => allDone (readyAll I.size hr) I, fun i hi => ?_⟩
    obtain ⟨o, ho, hL, hed⟩ := (mem_ready I.size).1 hi
    have hin := (Array.getElem?_eq_some_iff.1 ho).1
    obtain ⟨r, hr⟩ : ∃ r, rs[i]? = some r := ⟨rs[i]'(by rw [X.rlen]; exact hin), by simp [X.rlen, hin]⟩
    -- what comes ahead has been done
    have hpre : ∀ j, Nat.testBit ((predsOf ops ops.toList []).getD i 0) j = true → L[j]? = some true := by
      intro j hj
      obtain ⟨o', e, q1, q2, q3, q4⟩ := X.ahead i j hj
      have : o' = o := Option.some.inj (q1.symm.trans ho)
      subst this
      have := hed e q2 q3
      rcases q4 with rfl | q4
      · exact this
      · exact I.closed e.on j this q4
    -- the temporaries that it reads
    have htat : ∀ t, r.T.get t = match (writersOf ops.toList).get t with
        | some j => if j < i then (rs[j]?).map (·.v) else T.get t
        | none => T.get t := fun t => by
      have := X.tat i (by omega) t
      unfold Tat at this
      rw [hr] at this
      exact this
    have hev1 : ∀ t j, (writersOf ops.toList).get t = some j → Nat.testBit ((predsOf ops ops.toList []).getD i 0) j = true → EV ops T rs L t = r.T.get t := by
      intro t j hw hb
      rw [htat t, hw]
      unfold EV
      rw [hw]
      simp only []
      rw [if_pos (hpre j hb), if_pos (X.lt i j hb)]
    have hnot : ¬ L[i]? = some true := by rw [hL]; simp
    have hev : ∀ t ∈ tmpsOf o, EV ops T rs L t = r.T.get t := by
      intro t ht
      cases hw : (writersOf ops.toList).get t with
      | none => rw [htat t, hw]; unfold EV; rw [hw]
      | some j =>
        rcases X.reads i o t j ho ht hw with h | h | h
        · exact hev1 t j hw h
        · have h1 := X.lt j i h
          rw [htat t, hw]; unfold EV; rw [hw]
          simp only []
          rw [if_neg (fun hj => hnot (I.closed j i hj h)), if_neg (by omega)]
        · subst h
          rw [htat t, hw]; unfold EV; rw [hw]
          simp only []
          rw [if_neg hnot, if_neg (by omega)]
    -- the guard's temporary
    have hgd : ∀ (j : Nat) (want : Bool) (d : Tmp), o.guard = some (j, want) → (ops[j]?).bind (·.dst) = some d → EV ops T rs L d = r.T.get d := by
      intro j want d hg hd
      obtain ⟨oj, q1, q2⟩ := optB hd
      exact hev1 d j (X.one j oj d q1 q2) (X.guards i o j want ho hg)
    let ts : List Tmp := tmpsOf o ++ (match o.guard with
      | some (j, _) => ((ops[j]?).bind (·.dst)).toList
      | none => [])
    have hts : ∀ t ∈ ts, EV ops T rs L t = r.T.get t := by
      intro t ht
      rcases List.mem_append.1 ht with h | h
      · exact hev t h
      · cases hg : o.guard with
        | none => rw [hg] at h; simp at h
        | some g =>
          obtain ⟨j, want⟩ := g
          rw [hg] at h
          simp only [Option.mem_toList] at h
          exact hgd j want t hg h
    have hTS : TRel φ (restr r.T ts) a.tmps := by
      intro t v e
      rw [restr_get] at e
      split at e
      · rename_i ht
        exact I.tm t v ((hts t ht).trans e)
      · cases e
    have hsame : ∀ x ∈ o.op.operands, aev r.T x = aev (restr r.T ts) x := operand_same (fun t ht => by
      rw [restr_get, if_pos (List.mem_append_left _ ht)])
    have hwant : aWanted ops (restr r.T ts) o = aWanted ops r.T o := by
      unfold aWanted
      cases hg : o.guard with
      | none => rfl
      | some g =>
        obtain ⟨j, want⟩ := g
        simp only []
        cases hd : (ops[j]?).bind (·.dst) with
        | none => rfl
        | some d =>
          simp only []
          rw [restr_get, if_pos (List.mem_append_right _ (by rw [hg]; simp [hd]))]
    obtain ⟨c1, c2, c3, c4, c5⟩ := X.chain.at i o r (by simpa using ho) hr
    obtain ⟨m1, m2, m3⟩ := X.chain.mems 0
    obtain ⟨M, hM, hWM⟩ := I.mem
    have hRi : (R.erase i).length ≤ fuel := by
      have hiR : i ∈ R := by
        rcases hall i hin with h | h
        · rw [hL] at h; cases h
        · exact h
      rw [List.length_erase_of_mem hiR]; omega
    have hall' : ∀ x, x < ops.size → (L.setIfInBounds i true)[x]? = some true ∨ x ∈ R.erase i := by
      intro x hx
      by_cases e : x = i
      · subst e
        exact .inl (by rw [Array.getElem?_setIfInBounds, if_pos rfl, if_pos (by rw [I.size]; exact hin)])
      · rcases hall x hx with h | h
        · exact .inl (by rw [Array.getElem?_setIfInBounds, if_neg (Ne.symm e)]; exact h)
        · exact .inr ((List.mem_erase_of_ne e).2 h)
    unfold wpOpIn
    rw [ho]
    simp only []
    cases hwt : r.want with
    | false =>
      have hw0 := aWanted_rel hTS (hwant.trans (c1.trans (by rw [hwt])))
      rw [if_neg (by rw [hw0]; simp)]
      obtain ⟨e1, e2⟩ := c4 hwt
      refine ⟨fun f _ => hF.1 f, ?_⟩
      refine ih (R.erase i) _ k φ _ w hRi hall' (I.next X ho hr hL hpre (.inr ⟨e2, rfl⟩) hM hWM (WStep.refl _ _) ?_)
      rw [e1]; exact VRel.undef φ
    | true =>
      have hw0 := aWanted_rel hTS (hwant.trans (c1.trans (by rw [hwt])))
      rw [if_pos hw0]
      obtain ⟨W1, hone⟩ := c2 hwt
      have hacts := c3 hwt
      cases ha : r.acts with
      | true =>
        obtain ⟨p, hpi⟩ := actsOf_mem (i0 := 0) hr ha
        rw [Nat.zero_add] at hpi
        -- it is the next one that acts
        have hpk : p = k := by
          have h1 : ¬ p < k := fun h => hnot ((I.cnt p i hpi).2 h)
          cases p with
          | zero => omega
          | succ p =>
            have hl : p < (actsOf rs 0).length := by have := (List.getElem?_eq_some_iff.1 hpi).1; omega
            have e1 : (actsOf rs 0)[p]? = some (actsOf rs 0)[p] := by simp
            have := (I.cnt p _ e1).1 (hpre _ (X.acts p _ i e1 hpi))
            omega
        subst hpk
        obtain ⟨_, o', r', W2, q1, q2, _, _, q5, q6, q7⟩ := m3 p i hpi
        rw [Nat.sub_zero] at q1 q2
        have eo : o' = o := Option.some.inj (q1.symm.trans (by simpa using ho))
        have er : r' = r := Option.some.inj (q2.symm.trans hr)
        subst eo; subst er
        have eM : M = r'.W := Option.some.inj (hM.symm.trans q5)
        subst eM
        rw [oneOp_same hsame] at q7
        refine oneOp_goes hc hro hp hWM hTS q7 F n _ Q hF (fun ψ w' v' k1 k2 k3 => ?_)
        exact ih (R.erase i) _ (p + 1) ψ _ w' hRi hall' (I.next X ho hr hL hpre (.inl ⟨ha, hpi, rfl⟩) q6 k2 k3 k1)
      | false =>
        have hlight := hacts.symm.trans ha
        obtain ⟨l1, l2, l3⟩ := oneOp_light hlight hone
        -- it says the same at the memory that is now
        have hnow : oneOp P pt call round r.T M o.type o.op = some (r.v, M) := by
          cases hrd : isRead o.op with
          | false => exact l2 hrd M
          | true =>
            refine l3 M r.v ?_ hrd
            by_cases he : actsOf rs 0 = []
            · obtain ⟨s1, s2⟩ := X.chain.still 0 he
              have e1 : M = W' := by
                have hk : k = 0 := by
                  have := (List.getElem?_eq_some_iff.1 hM).1
                  have e2 : (memsOf rs).length = 0 := by rw [m2, he]; rfl
                  simp [e2] at this; omega
                have e3 : memsOf rs = [] := List.eq_nil_of_length_eq_zero (by rw [m2, he]; rfl)
                subst hk
                rw [e3] at hM
                simpa using hM.symm
              have e2 : r.W = M := by rw [s2 i r hr, e1, s1]
              subst e2
              -- read in the order of the text
              obtain ⟨dst, op, type, pos, after, guard⟩ := o
              simp only [] at hone hrd
              cases op <;> first
                | (simp [isRead] at hrd; done)
                | skip
              case load t x => simp only [oneOp_def, oneOpM] at hone; exact (withW_some hone).1
              case lookup t m k ok => simp only [oneOp_def, oneOpM] at hone; exact (withW_some hone).1
              case call c =>
                obtain ⟨callee, args, argTypes⟩ := c
                cases callee <;> first
                  | (simp [isRead] at hrd; done)
                  | skip
                rename_i b
                cases b <;> first
                  | (simp [isRead] at hrd; done)
                  | skip
                simp only [oneOp_def, oneOpM, callAny] at hone
                exact (withW_some hone).1
            · have := X.same i o r ho hr hwt hrd he
              refine readsSame_mem this M ?_
              -- the memory that is now is one of those
              have hlo : countBits ((predsOf ops ops.toList []).getD i 0) (actsOf rs 0) ≤ k := countBits_le _ _ (fun q h e hb => (I.cnt q h e).1 (hpre h hb))
              have hhi : k ≤ ((actsOf rs 0).takeWhile fun h => !Nat.testBit ((predsOf ops ops.toList []).getD h 0) i).length := by
                rcases Nat.lt_or_ge ((actsOf rs 0).takeWhile fun h => !Nat.testBit ((predsOf ops ops.toList []).getD h 0) i).length k with h | h
                · exfalso
                  have hkl : k ≤ (actsOf rs 0).length := by
                    have := (List.getElem?_eq_some_iff.1 hM).1
                    simp [m2] at this; omega
                  have hlt : ((actsOf rs 0).takeWhile fun h => !Nat.testBit ((predsOf ops ops.toList []).getD h 0) i).length < (actsOf rs 0).length := by omega
                  have e1 : (actsOf rs 0)[((actsOf rs 0).takeWhile fun h => !Nat.testBit ((predsOf ops ops.toList []).getD h 0) i).length]? = some (actsOf rs 0)[((actsOf rs 0).takeWhile fun h => !Nat.testBit ((predsOf ops ops.toList []).getD h 0) i).length] := by simp
                  have e2 := (I.cnt _ _ e1).2 h
                  have e3 := takeWhile_stop _ _ _ e1
                  exact hnot (I.closed _ i e2 (by simpa using e3))
                · exact h
              refine List.mem_of_getElem? (i := k - countBits ((predsOf ops ops.toList []).getD i 0) (actsOf rs 0)) ?_
              rw [List.getElem?_take_of_lt (by omega), List.getElem?_drop]
              rw [← hM]; congr 1; omega
        rw [oneOp_same hsame] at hnow
        refine oneOp_goes hc hro hp hWM hTS hnow F n _ Q hF (fun ψ w' v' k1 k2 k3 => ?_)
        exact ih (R.erase i) _ k ψ _ w' hRi hall' (I.next X ho hr hL hpre (.inr ⟨ha, rfl⟩) hM k2 k3 k1)
end Go.Proofs.YtcpafphgkbfahaaGreat
