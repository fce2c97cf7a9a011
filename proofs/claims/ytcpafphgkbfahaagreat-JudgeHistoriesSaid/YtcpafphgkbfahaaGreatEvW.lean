/- An evaluator of closed runs: a region that makes a slice, and stores, the slice's making in no order with the first stores. -/
import Derived.Test.YtcpafphgkbfahaaGreatEvS
namespace Go.Proofs.YtcpafphgkbfahaaGreat
open Go Go.RowKit
set_option linter.unusedSimpArgs false

variable {P : Program} {pt : Pt} {call : Callee'} {round : Rounder} {nt : Nat} {ops : Array Oper} {T T' : Tr Value} {W W' : AW} {rs : List Rec}
/-- an operation that does not act, at a memory at which it says v -/
theorem light_goes (hp : PtOk P pt) {φ : Emb} {A : AW} {w : World} (hW : WRel φ A w) {T : Tr Value} {a : Act} (hT : TRel φ T a.tmps) {o : Oper} {v : Value} (ha : actsB pt T o.op = false) (h : oneOp P pt call round T A o.type o.op = some (v, A)) :
    ∀ F n next Q, Wide F → (∀ v', VRel φ v v' → next (a.put o.dst v') w) → o.wpIn F n P a w next Q := by
  have val : ∀ {v' : Value}, (∀ c, o.op ≠ .defer c) → (execOp a.eval o).run P w = .ok (.value v') w → VRel φ v v' → ∀ F n next Q, Wide F → (∀ v', VRel φ v v' → next (a.put o.dst v') w) → o.wpIn F n P a w next Q := by
    intro v' hd e r F n next Q hF hn
    refine ⟨fun f _ => hF.1 f, ?_⟩
    rw [Oper.semAt_eq _ _ _ hd, e]
    exact hn v' r
  have pureG : ∀ {x : Option Value}, withW A x = some (v, A) → (x = pureOp P T o.type o.op) → (∀ c, o.op ≠ .defer c) → ∀ F n next Q, Wide F → (∀ v', VRel φ v v' → next (a.put o.dst v') w) → o.wpIn F n P a w next Q := by
    intro x e1 e2 e3
    obtain ⟨q1, _⟩ := withW_some e1
    obtain ⟨v', r1, r2⟩ := pureOp_ok hT (e2 ▸ q1) w
    exact val e3 r1 r2
  have readG : ∀ {x : Option Value}, withW A x = some (v, A) → (x = readOp P T A o.op) → (∀ c, o.op ≠ .defer c) → ∀ F n next Q, Wide F → (∀ v', VRel φ v v' → next (a.put o.dst v') w) → o.wpIn F n P a w next Q := by
    intro x e1 e2 e3
    obtain ⟨q1, _⟩ := withW_some e1
    obtain ⟨v', r1, r2⟩ := readOp_ok hT hW (e2 ▸ q1)
    exact val e3 r1 r2
  obtain ⟨dst, op, type, pos, after, guard⟩ := o
  simp only [] at h ha
  cases op <;> simp only [oneOp_def, oneOpM] at h <;> try (cases h; done)
  case load t x => exact readG h rfl (fun c => by simp)
  case lookup t m k ok => exact readG h rfl (fun c => by simp)
  case call c =>
    obtain ⟨callee, args, argTypes⟩ := c
    unfold callAny at h
    simp only [] at h
    split at h
    · rename_i f
      intro F n next Q hF hn
      refine ⟨fun f _ => hF.1 f, ?_⟩
      rw [Oper.semAt_eq _ _ _ (fun c => by simp)]
      unfold callOp at h
      simp only [actsB, isPure, isRead, Bool.or_self, cond_false] at ha
      split at h
      · rename_i g first captured vs hf hvs
        simp only [hf, hvs, Option.isNone_eq_false_iff] at ha
        obtain ⟨u, hu⟩ := Option.isSome_iff_exists.1 ha
        rw [hu] at h
        cases h
        have rf := aev_rel hT hf
        have rv := aevs_rel hT hvs
        generalize hq : a.eval f = q at rf
        cases rf with
        | func hfn h1 q1 hcc q2 =>
          rename_i first' captured'
          have rall : LRel φ (first.toList ++ vs ++ captured.toList) (first'.toList ++ args.toList.map a.eval ++ captured'.toList) := ((LRel.of_array h1 q1).append rv).append (LRel.of_array hcc q2)
          obtain ⟨he, hcall⟩ := hp g _ v hu
          have hex : (execOp a.eval ⟨dst, .call ⟨.value f, args, argTypes⟩, type, pos, after, guard⟩).run P w = .ok (.enter g (first' ++ args.map a.eval ++ captured')) w := by
            simp [execOp, resolve, hq, Deferred.ofValue, invoke, he _ _]
          have elist : (first' ++ args.map a.eval ++ captured').toList = first'.toList ++ args.toList.map a.eval ++ captured'.toList := by simp
          rw [hex]
          have hu' := hu
          unfold ptAt at hu'
          split at hu'
          · rename_i u' hu2
            obtain ⟨k1, k2⟩ := bif_some hu'
            simp only [Bool.and_eq_true] at k1
            have eargs := all_ground_eq k1.1 rall
            have : (first' ++ args.map a.eval ++ captured') = (first.toList ++ vs ++ captured.toList).toArray := Array.ext' (by rw [elist, eargs])
            rw [this]
            refine ⟨wide_depth hF, (hcall w F (n - 1) hF).mono ?_⟩
            rintro e w' ⟨rfl, rfl⟩
            cases k2
            exact hn v ((ground_of 8 v k1.2).1 φ)
          · cases hu'
      · rename_i l first captured vs hf hvs
        simp [hf, hvs] at ha
      · cases h
    · exact readG h rfl (fun c => by simp)
    · exact pureG h rfl (fun c => by simp)
    · exact pureG h rfl (fun c => by simp)
    · exact pureG h rfl (fun c => by simp)
    · rename_i b h1 h2 h3 h4
      exfalso
      cases b <;> first
        | (simp [actsB, isPure, isRead] at ha; done)
        | (simp at h1; done)
        | (simp at h2; done)
        | (simp at h3; done)
        | (simp at h4; done)
    · cases h
  all_goals first
    | exact pureG h rfl (fun c => by simp)
    | (simp [actsB, isPure, isRead] at ha; done)
/-- of less is known -/
theorem WRel.sub {φ : Emb} {A B : AW} {w : World} (h : WRel φ A w) (hs : A.size ≤ B.size) (hg : ∀ x o, B.heap.get x = some o → A.heap.get x = some o) : WRel φ B w :=
  ⟨fun b i e => Nat.lt_of_lt_of_le (h.dom b i e) hs, h.real, fun b o e => h.live b o (hg b o e), fun b1 b2 o1 o2 i1 i2 e1 e2 => h.sep b1 b2 o1 o2 i1 i2 (hg _ _ e1) (hg _ _ e2)⟩
/-- a block of this name comes late -/
theorem WRel.late {φ : Emb} {A : AW} {w : World} {n : Nat} (h : WRel φ (A.set n none) w) (hn : φ n = none) (hlt : n < A.size) {cs : Tr Value} (hl : A.heap.get n = some (.cells cs none)) {zs : List Value} (hz : ∀ j, cs.get j = zs[j]?) {φz : ∀ ψ : Emb, LRel ψ zs zs} (t : TypeId) :
    WRel (φ.put n ⟨w.heap.size, 0, zs.length, 0⟩) A (w.alloc (.cells zs.toArray t)) ∧ WStep φ w (φ.put n ⟨w.heap.size, 0, zs.length, 0⟩) (w.alloc (.cells zs.toArray t)) := by
  have hx : Ext φ (φ.put n ⟨w.heap.size, 0, zs.length, 0⟩) := Emb.put_ext _ hn
  have hnew : (w.alloc (.cells zs.toArray t)).heap[w.heap.size]? = some (.cells zs.toArray t (0, 0)) := by show (w.heap.push _)[w.heap.size]? = _; simp
  have old : ∀ x o, x ≠ n → A.heap.get x = some o → (A.set n none).heap.get x = some o := fun x o hne e => by rw [set_get, if_neg hne]; exact e
  refine ⟨⟨fun b i e => ?_, fun b i e => ?_, fun b o1 e => ?_, ?_⟩, ⟨rfl, rfl, rfl, by simp, hx, fun b i e => ?_, fun r hr _ => Below.heap_alloc w _ r hr⟩⟩
  · unfold Emb.put at e
    split at e
    · omega
    · exact h.dom b i e
  · unfold Emb.put at e
    split at e
    · cases e; simp
    · have := h.real b i e; simp; omega
  · by_cases hb : b = n
    · subst hb
      rw [hl] at e; cases e
      refine ⟨_, Emb.put_same _ _ _, zs.toArray, t, hnew, by simp, fun j v e => ?_⟩
      rw [hz j] at e
      obtain ⟨y, p, q⟩ := (φz (φ.put b ⟨w.heap.size, 0, zs.length, 0⟩)).get e
      exact ⟨y, by simpa using p, q⟩
    · obtain ⟨i, p, q⟩ := h.live b o1 (old b o1 hb e)
      exact ⟨i, hx _ _ p, q.mono hx (Below.heap_alloc w _ _ (h.real _ _ p))⟩
  · intro b1 b2 o1 o2 i1 i2 e1 e2 p1 p2 hr hne
    unfold Emb.put at p1 p2
    by_cases h1 : b1 = n
    · rw [if_pos h1] at p1
      cases p1
      by_cases h2 : b2 = n
      · omega
      · rw [if_neg h2] at p2
        have := h.real _ _ p2
        simp at hr; omega
    · rw [if_neg h1] at p1
      by_cases h2 : b2 = n
      · rw [if_pos h2] at p2
        cases p2
        have := h.real _ _ p1
        simp at hr; omega
      · rw [if_neg h2] at p2
        exact h.sep b1 b2 o1 o2 i1 i2 (old _ _ h1 e1) (old _ _ h2 e2) p1 p2 hr hne
  · unfold Emb.put at e
    split at e
    · cases e; exact .inr (.inl (Nat.le_refl _))
    · exact .inl e
/-- a store where a block is not yet -/
theorem store_without {A A1 B1 : AW} {n : Nat} {a : Addr} {vs : List Value} (h : A.store a vs = some A1) (k : (A.set n none).store a vs = some B1) :
    B1.size = A1.size ∧ (∀ x o, x ≠ n → A1.heap.get x = some o → B1.heap.get x = some o) ∧ (∀ o, A1.heap.get n = some o → A.heap.get n = some o) := by
  cases vs with
  | nil =>
    simp only [AW.store, Option.some.injEq] at h k
    subst h; subst k
    exact ⟨rfl, fun x o hne e => by rw [set_get, if_neg hne]; exact e, fun o e => e⟩
  | cons v0 vs0 =>
    simp only [AW.store] at h k
    rw [set_get] at k
    by_cases hn : a.block = n
    · rw [if_pos hn] at k; simp at k
    · rw [if_neg hn] at k
      split at h
      · rename_i cs mate hl
        rw [hl] at k
        simp only [] at k
        split at h
        · rename_i cs' hs
          rw [hs] at k
          simp only [] at k
          cases mate with
          | none =>
            cases h; cases k
            refine ⟨rfl, fun x o hne e => ?_, fun o e => ?_⟩
            · rw [set_get] at e ⊢
              split
              · rename_i hx; rw [if_pos hx] at e; exact e
              · rename_i hx; rw [if_neg hx] at e; rw [set_get, if_neg hne]; exact e
            · rw [set_get, if_neg (Ne.symm hn)] at e; exact e
          | some m =>
            cases h; cases k
            refine ⟨rfl, fun x o hne e => ?_, fun o e => ?_⟩
            · rw [set_get] at e ⊢
              split
              · rename_i hx; rw [if_pos hx] at e; exact e
              · rename_i hx
                rw [if_neg hx, set_get] at e
                rw [set_get]
                split
                · rename_i hx2; rw [if_pos hx2] at e; cases e
                · rename_i hx2; rw [if_neg hx2] at e; rw [set_get, if_neg hne]; exact e
            · rw [set_get, if_neg (Ne.symm hn), set_get] at e
              split at e
              · cases e
              · exact e
        · cases h
      · cases h
structure InvL (ops : Array Oper) (T : Tr Value) (rs : List Rec) (nt : Nat) (L : Array Bool) (φ0 : Emb) (w0 : World) (a0 : Act) (φ : Emb) (a : Act) (w : World) : Prop where
  size : L.size = ops.size
  closed : ∀ i j : Nat, L[i]? = some true → Nat.testBit ((predsOf ops ops.toList []).getD i 0) j = true → L[j]? = some true
  tm : ∀ t v, EV ops T rs L t = some v → ∃ v', a.tmps[t]? = some v' ∧ VRel φ v v'
  sz : a.tmps.size = nt
  df : a.defers = a0.defers
  st : WStep φ0 w0 φ w
theorem set_true {L : Array Bool} {i : Nat} (hi : i < L.size) (j : Nat) : (L.setIfInBounds i true)[j]? = some true ↔ j = i ∨ L[j]? = some true := by
  rw [Array.getElem?_setIfInBounds]
  by_cases e : i = j
  · subst e; simp [hi]
  · rw [if_neg e]; constructor
    · exact .inr
    · rintro (h | h)
      · exact absurd h.symm e
      · exact h
theorem InvL.next {φ0 φ ψ : Emb} {w0 w w' : World} {a0 a : Act} {L : Array Bool} (F : Facts0 P pt call round nt ops T W T' W' rs) (I : InvL ops T rs nt L φ0 w0 a0 φ a w) {i : Nat} {o : Oper} {r : Rec} (ho : ops[i]? = some o) (hr : rs[i]? = some r)
    (hL : L[i]? = some false) (hpre : ∀ j, Nat.testBit ((predsOf ops ops.toList []).getD i 0) j = true → L[j]? = some true) (hst : WStep φ w ψ w') {v' : Value} (hv : VRel ψ r.v v') :
    InvL ops T rs nt (L.setIfInBounds i true) φ0 w0 a0 ψ (a.put o.dst v') w' := by
  have hiL : i < L.size := (Array.getElem?_eq_some_iff.1 hL).1
  have hset := set_true hiL
  refine ⟨by simp [I.size], fun x j hx hj => ?_, fun t v e => ?_, by rw [put_size]; exact I.sz, by rw [put_defers]; exact I.df, I.st.trans hst⟩
  · rw [hset] at hx ⊢
    rcases hx with rfl | hx
    · exact .inr (hpre j hj)
    · exact .inr (I.closed x j hx hj)
  · unfold EV at e
    cases hw : (writersOf ops.toList).get t with
    | none =>
      rw [hw] at e
      simp only [] at e
      have hd : o.dst ≠ some t := fun hd => by have := F.one i o t ho hd; rw [hw] at this; cases this
      obtain ⟨u, q1, q2⟩ := I.tm t v (by unfold EV; rw [hw]; exact e)
      refine ⟨u, ?_, q2.mono hst.ext⟩
      rw [← q1]
      cases hd' : o.dst with
      | none => rfl
      | some d => simp only [Act.put, Array.getElem?_setIfInBounds]; rw [if_neg (fun e => hd (by rw [hd', e]))]
    | some j =>
      rw [hw] at e
      simp only [] at e
      by_cases hji : j = i
      · subst hji
        rw [if_pos ((hset j).2 (.inl rfl)), hr] at e
        simp only [Option.map_some, Option.some.injEq] at e
        subst e
        obtain ⟨o', q1, q2⟩ := F.writes t j hw
        have : o' = o := Option.some.inj (q1.symm.trans ho)
        subst this
        obtain ⟨_, _, _, _, T1, hpt⟩ := F.chain.at j o' r (by simpa using ho) hr
        unfold putT at hpt
        rw [q2] at hpt
        simp only [] at hpt
        obtain ⟨h1, _⟩ := bif_some hpt
        rw [nat_blt_eq, decide_eq_true_iff] at h1
        refine ⟨v', ?_, hv⟩
        rw [q2]
        simp only [Act.put, Array.getElem?_setIfInBounds]
        rw [if_pos trivial, if_pos (by have := I.sz; omega)]
      · have hd : o.dst ≠ some t := fun hd => by have := F.one i o t ho hd; rw [hw] at this; cases this; exact hji rfl
        have : (L.setIfInBounds i true)[j]? = some true ↔ L[j]? = some true := by rw [hset]; simp [hji]
        obtain ⟨u, q1, q2⟩ := I.tm t v (by
          unfold EV; rw [hw]
          simp only []
          by_cases hj : L[j]? = some true
          · rw [if_pos hj]; rw [if_pos (this.2 hj)] at e; exact e
          · rw [if_neg hj]; rw [if_neg (fun h => hj (this.1 h))] at e; exact e)
        refine ⟨u, ?_, q2.mono hst.ext⟩
        rw [← q1]
        cases hd' : o.dst with
        | none => rfl
        | some d => simp only [Act.put, Array.getElem?_setIfInBounds]; rw [if_neg (fun e => hd (by rw [hd', e]))]

theorem store_goes {φ : Emb} {A A' : AW} {w : World} (hW : WRel φ A w) {T : Tr Value} {a : Act} (hT : TRel φ T a.tmps) {o : Oper} {t : TypeId} {x y : Operand} (ho : o.op = .store t x y) {v : Value} (h : hStore P T A t x y = some (v, A')) :
    v = undef ∧ ∃ w', WRel φ A' w' ∧ WStep φ w φ w' ∧ ∀ F n next Q, Wide F → next (a.put o.dst undef) w' → o.wpIn F n P a w next Q := by
  obtain ⟨e, w', p, q, r⟩ := hStore_ok hW hT h
  refine ⟨e, w', q, r, fun F n next Q hF hn => ?_⟩
  obtain ⟨dst, op, type, pos, after, guard⟩ := o
  simp only [] at ho
  subst ho
  refine ⟨fun f _ => hF.1 f, ?_⟩
  rw [Oper.semAt_eq _ _ _ (fun c => by simp)]
  have : (execOp a.eval ⟨dst, .store t x y, type, pos, after, guard⟩).run P w = .ok .skip w' := by
    show (do Instr.storeAt t (a.eval x) (a.eval y); pure Next.skip : Sem Next).run P w = _
    simp [p]
  rw [this]
  exact hn
theorem store_size {A A' : AW} {ad : Addr} {vs : List Value} (h : A.store ad vs = some A') : A'.size = A.size := by
  cases vs with
  | nil => simp only [AW.store, Option.some.injEq] at h; rw [h]
  | cons v0 vs0 =>
    simp only [AW.store] at h
    split at h
    · split at h
      · split at h <;> (cases h; rfl)
      · cases h
    · cases h
/-- what a store says where the block is, of where it is not -/
theorem hStore_without {A A1 B1 : AW} {n : Nat} {T : Tr Value} {t : TypeId} {x y : Operand} {v v' : Value} (h : hStore P T A t x y = some (v, A1)) (k : hStore P T (A.set n none) t x y = some (v', B1)) :
    v' = v ∧ A1.size = A.size ∧ B1.size = A1.size ∧ (∀ x o, x ≠ n → A1.heap.get x = some o → B1.heap.get x = some o) ∧ (∀ o, A1.heap.get n = some o → A.heap.get n = some o) := by
  unfold hStore at h k
  split at h
  · rename_i ad u i hx hy hi
    obtain ⟨h1, h2⟩ := bif_some h
    simp only [hx, hy, hi, h1, cond_true] at k
    split at h2
    · rename_i A2 hs
      cases h2
      split at k
      · rename_i B2 hk
        cases k
        exact ⟨rfl, store_size hs, store_without hs hk⟩
      · cases k
    · cases h2
  · cases h
theorem hStore_size {A A1 : AW} {T : Tr Value} {t : TypeId} {x y : Operand} {v : Value} (h : hStore P T A t x y = some (v, A1)) : A1.size = A.size := by
  unfold hStore at h
  split at h
  · obtain ⟨h1, h2⟩ := bif_some h
    split at h2
    · rename_i A2 hs
      cases h2
      exact store_size hs
    · cases h2
  · cases h
theorem actsB_same {T S : Tr Value} {op : Op} (h : ∀ x ∈ op.operands, aev T x = aev S x) : actsB pt T op = actsB pt S op := by
  unfold actsB
  split
  · rename_i _ f args argTypes
    have hl : aevs T args.toList = aevs S args.toList := aevs_same fun x hx => h x (by simp [Op.operands, Call.operands]; exact .inr (by simpa using hx))
    have hf : aev T f = aev S f := h f (by simp [Op.operands, Call.operands])
    rw [hf, hl]
  · rfl
structure Late (P : Program) (ops : Array Oper) (W' : AW) (rs : List Rec) (f : Nat) (st : List Nat) (M0 : AW) (ms : List AW) : Prop where
  acts : actsOf rs 0 = f :: st
  mems : memsOf rs ++ [W'] = M0 :: ms
  make : ∃ o, ops[f]? = some o ∧ isMake o.op = true
  sts : ∀ h ∈ st, ∃ o r, ops[h]? = some o ∧ rs[h]? = some r ∧ isStore o.op = true ∧ (Nat.testBit ((predsOf ops ops.toList []).getD h 0) f = true ∨ (heavyOp P r.T (r.W.set M0.size none) o.op).isSome = true)
  row : ∀ p a b, st[p]? = some a → st[p + 1]? = some b → Nat.testBit ((predsOf ops ops.toList []).getD b 0) a = true
  plain : ∀ M ∈ ms, plainCells (M.heap.get M0.size) = true
  same : ∀ (i : Nat) (o : Oper) (r : Rec), ops[i]? = some o → rs[i]? = some r → r.want = true → isRead o.op = true → readsSame P r.T o r.v (ms ++ ms.map fun M => M.set M0.size none) = true
theorem late_of (h : drawLate P ops W' rs = true) : ∃ f st M0 ms, Late P ops W' rs f st M0 ms := by
  unfold drawLate at h
  simp only [] at h
  split at h
  · rename_i f st M0 ms e1 e2
    simp only [Bool.and_eq_true, List.all_eq_true] at h
    obtain ⟨⟨⟨⟨h1, h2⟩, h3⟩, h4⟩, h5⟩ := h
    refine ⟨f, st, M0, ms, e1, e2, ?_, fun x hx => ?_, fun p a b ha hb => ?_, h4, fun i o r ho hr hw hrd => ?_⟩
    · split at h1
      · rename_i o ho; exact ⟨o, ho, h1⟩
      · cases h1
    · have := h2 x hx
      split at this
      · rename_i o r ho hr
        simp only [Bool.and_eq_true, Bool.or_eq_true] at this
        exact ⟨o, r, ho, hr, this.1, this.2⟩
      · cases this
    · exact h3 (a, b) (List.mem_of_getElem? (i := p) (by simp [List.getElem?_zip_eq_some, ha, hb]))
    · have := h5 (o, r) (List.mem_of_getElem? (i := i) (by simp [List.getElem?_zip_eq_some, ho, hr]))
      simp only [hw, hrd, Bool.and_self, cond_true] at this
      exact this
  · cases h
theorem newCells_get (A : AW) (zs : List Value) (x : Nat) : (newCells A zs none).heap.get x = if x = A.size then some (.cells (Tr.ofL zs 0 .nil) none) else A.heap.get x := Tr.get_put _ _ _ _
/-- the memory when j stores have been done, and the slice has been made, or has not -/
def MemL (f n : Nat) (zs : List Value) (ms : List AW) (L : Array Bool) (j : Nat) (φ : Emb) (w : World) : Prop :=
  ∃ M, ms[j]? = some M ∧ n < M.size ∧ ((L[f]? = some true ∧ WRel φ M w) ∨ (L[f]? ≠ some true ∧ WRel φ (M.set n none) w ∧ φ n = none ∧ M.heap.get n = some (.cells (Tr.ofL zs 0 .nil) none)))
theorem drawLate_ok (hp : PtOk P pt) {F : Fence} {n : Nat} (hF : Wide F) {Q : Exit → Act → World → Prop} (X : Facts0 P pt call round nt ops T W T' W' rs) {f : Nat} {st : List Nat} {M0 : AW} {ms : List AW} (Y : Late P ops W' rs f st M0 ms)
    {zs : List Value} (hm1 : ms[0]? = some (newCells M0 zs none)) {φ0 : Emb} {w0 : World} {a0 : Act}
    (hq : ∀ ψ a' w', On φ0 w0 a0 T' W' ψ a' w' → Q .normal a' w') (hs0 : a0.tmps.size = nt) :
    ∀ (fuel : Nat) (R : List Nat) (L : Array Bool) (j : Nat) (φ : Emb) (a : Act) (w : World), R.length ≤ fuel → (∀ i, i < ops.size → L[i]? = some true ∨ i ∈ R) → InvL ops T rs nt L φ0 w0 a0 φ a w →
      (∀ p h : Nat, st[p]? = some h → (L[h]? = some true ↔ p < j)) → MemL f M0.size zs ms L j φ w →
      wpAnyIn F n P .any ops Q fuel L a w := by
  obtain ⟨m1, m2, m3⟩ := X.chain.mems 0
  have m3' := m3
  rw [Y.acts] at m2 m3
  rw [Y.mems] at m1 m3
  have lens : st.length + 1 = ms.length := by
    have := congrArg List.length Y.mems
    simp [m2] at this; exact this
  have fact : (actsOf rs 0)[0]? = some f := by rw [Y.acts]; rfl
  have hfst : ∀ p h : Nat, st[p]? = some h → f < h := fun p h e => actsOf_lt (rs := rs) (i0 := 0) (p := 0) (q := p + 1) fact (by rw [Y.acts]; exact e) (by omega)
  have hst2 : ∀ p q h k : Nat, st[p]? = some h → st[q]? = some k → p < q → h < k := fun p q h k e1 e2 hpq => actsOf_lt (rs := rs) (i0 := 0) (p := p + 1) (q := q + 1) (by rw [Y.acts]; exact e1) (by rw [Y.acts]; exact e2) (by omega)
  have allDone : ∀ {L : Array Bool} {j : Nat} {φ : Emb} {a : Act} {w : World}, (∀ i, i < ops.size → L[i]? = some true) → InvL ops T rs nt L φ0 w0 a0 φ a w → (∀ p h : Nat, st[p]? = some h → (L[h]? = some true ↔ p < j)) → MemL f M0.size zs ms L j φ w → Q .normal a w := by
    intro L j φ a w hall I hcnt hmem
    have hin : ∀ p h, (f :: st)[p]? = some h → h < ops.size := fun p h e => by
      obtain ⟨_, o, r, _, q, _⟩ := m3 p h e
      rw [Nat.sub_zero] at q
      have := (List.getElem?_eq_some_iff.1 q).1
      simpa using this
    obtain ⟨M, hM, _, hW⟩ := hmem
    have hf := hall f (hin 0 f rfl)
    have hW' : WRel φ M w := by
      rcases hW with h | h
      · exact h.2
      · exact absurd hf h.1
    have hk1 : st.length ≤ j := by
      rcases Nat.lt_or_ge j st.length with h | h
      · have e : st[j]? = some st[j] := by simp
        have := (hcnt j _ e).1 (hall _ (hin (j + 1) _ (by simp)))
        omega
      · exact h
    have hk2 : j < ms.length := (List.getElem?_eq_some_iff.1 hM).1
    have hk : j = st.length := by omega
    subst hk
    have hlast : (memsOf rs ++ [W'])[(memsOf rs).length]? = some W' := by simp
    rw [Y.mems, m2] at hlast
    simp only [List.length_cons, List.getElem?_cons_succ] at hlast
    have : M = W' := Option.some.inj (hM.symm.trans hlast)
    subst this
    refine hq φ a w ⟨I.st, fun t v e => I.tm t v ?_, by rw [I.sz, hs0], I.df, hW'⟩
    have := X.tat ops.size (Nat.le_refl _) t
    have hT : Tat rs T' ops.size = T' := by unfold Tat; rw [List.getElem?_eq_none (by rw [X.rlen]; exact Nat.le_refl _)]
    rw [hT] at this
    rw [this] at e
    unfold EV
    cases hw : (writersOf ops.toList).get t with
    | none => rw [hw] at e; exact e
    | some j =>
      rw [hw] at e
      simp only [] at e ⊢
      obtain ⟨o, ho, _⟩ := X.writes t j hw
      have hj := (Array.getElem?_eq_some_iff.1 ho).1
      rw [if_pos hj] at e
      rw [if_pos (hall j hj)]
      exact e
  have readyAll : ∀ {L : Array Bool}, L.size = ops.size → Region.ready .any ops L = [] → ∀ i, i < ops.size → L[i]? = some true := by
    intro L hs hr i
    induction i using Nat.strongRecOn with
    | _ i ih =>
      intro hi
      cases hb : L[i]? with
      | none => rw [Array.getElem?_eq_none_iff] at hb; omega
      | some b =>
        cases b with
        | true => rfl
        | false =>
          exfalso
          have : i ∈ Region.ready .any ops L := (mem_ready hs).2 ⟨ops[i], by simp [hi], hb, fun e he h => by
            have := X.back i ops[i] e (by simp [hi]) he h
            exact ih e.on this (by omega)⟩
          rw [hr] at this; simp at this
  intro fuel
  induction fuel with
  | zero =>
    intro R L j φ a w hR hall I hcnt hmem
    have : R = [] := List.eq_nil_of_length_eq_zero (by omega)
    subst this
    have hall' : ∀ i, i < ops.size → L[i]? = some true := fun i hi => by simpa using hall i hi
    refine ⟨?_, allDone hall' I hcnt hmem⟩
    rw [List.eq_nil_iff_forall_not_mem]
    intro i hi
    obtain ⟨o, h1, h2, _⟩ := (mem_ready I.size).1 hi
    rw [hall' i (Array.getElem?_eq_some_iff.1 h1).1] at h2
    cases h2
  | succ fuel ih =>
    intro R L j φ a w hR hall I hcnt hmem
    refine ⟨fun hr => allDone (readyAll I.size hr) I hcnt hmem, fun i hi => ?_⟩
    obtain ⟨o, ho, hL, hed⟩ := (mem_ready I.size).1 hi
    have hin := (Array.getElem?_eq_some_iff.1 ho).1
    obtain ⟨r, hr⟩ : ∃ r, rs[i]? = some r := ⟨rs[i]'(by rw [X.rlen]; exact hin), by simp [X.rlen, hin]⟩
    -- what comes ahead has been done
    have hpre : ∀ j, Nat.testBit ((predsOf ops ops.toList []).getD i 0) j = true → L[j]? = some true := by
      intro j hj
      obtain ⟨o', e, q1, q2, q3, q4⟩ := X.ahead i j hj
      have : o' = o := Option.some.inj (q1.symm.trans ho)
      subst this
      have := hed e q2 q3
      rcases q4 with rfl | q4
      · exact this
      · exact I.closed e.on j this q4
    -- the temporaries that it reads
    have htat : ∀ t, r.T.get t = match (writersOf ops.toList).get t with
        | some j => if j < i then (rs[j]?).map (·.v) else T.get t
        | none => T.get t := fun t => by
      have := X.tat i (by omega) t
      unfold Tat at this
      rw [hr] at this
      exact this
    have hev1 : ∀ t j, (writersOf ops.toList).get t = some j → Nat.testBit ((predsOf ops ops.toList []).getD i 0) j = true → EV ops T rs L t = r.T.get t := by
      intro t j hw hb
      rw [htat t, hw]
      unfold EV
      rw [hw]
      simp only []
      rw [if_pos (hpre j hb), if_pos (X.lt i j hb)]
    have hnot : ¬ L[i]? = some true := by rw [hL]; simp
    have hev : ∀ t ∈ tmpsOf o, EV ops T rs L t = r.T.get t := by
      intro t ht
      cases hw : (writersOf ops.toList).get t with
      | none => rw [htat t, hw]; unfold EV; rw [hw]
      | some j =>
        rcases X.reads i o t j ho ht hw with h | h | h
        · exact hev1 t j hw h
        · have h1 := X.lt j i h
          rw [htat t, hw]; unfold EV; rw [hw]
          simp only []
          rw [if_neg (fun hj => hnot (I.closed j i hj h)), if_neg (by omega)]
        · subst h
          rw [htat t, hw]; unfold EV; rw [hw]
          simp only []
          rw [if_neg hnot, if_neg (by omega)]
    -- the guard's temporary
    have hgd : ∀ (j : Nat) (want : Bool) (d : Tmp), o.guard = some (j, want) → (ops[j]?).bind (·.dst) = some d → EV ops T rs L d = r.T.get d := by
      intro j want d hg hd
      obtain ⟨oj, q1, q2⟩ := optB hd
      exact hev1 d j (X.one j oj d q1 q2) (X.guards i o j want ho hg)
    let ts : List Tmp := tmpsOf o ++ (match o.guard with
      | some (j, _) => ((ops[j]?).bind (·.dst)).toList
      | none => [])
    have hts : ∀ t ∈ ts, EV ops T rs L t = r.T.get t := by
      intro t ht
      rcases List.mem_append.1 ht with h | h
      · exact hev t h
      · cases hg : o.guard with
        | none => rw [hg] at h; simp at h
        | some g =>
          obtain ⟨j, want⟩ := g
          rw [hg] at h
          simp only [Option.mem_toList] at h
          exact hgd j want t hg h
    have hTS : TRel φ (restr r.T ts) a.tmps := by
      intro t v e
      rw [restr_get] at e
      split at e
      · rename_i ht
        exact I.tm t v ((hts t ht).trans e)
      · cases e
    have hsame : ∀ x ∈ o.op.operands, aev r.T x = aev (restr r.T ts) x := operand_same (fun t ht => by
      rw [restr_get, if_pos (List.mem_append_left _ ht)])
    have hwant : aWanted ops (restr r.T ts) o = aWanted ops r.T o := by
      unfold aWanted
      cases hg : o.guard with
      | none => rfl
      | some g =>
        obtain ⟨j, want⟩ := g
        simp only []
        cases hd : (ops[j]?).bind (·.dst) with
        | none => rfl
        | some d =>
          simp only []
          rw [restr_get, if_pos (List.mem_append_right _ (by rw [hg]; simp [hd]))]
    obtain ⟨c1, c2, c3, c4, c5⟩ := X.chain.at i o r (by simpa using ho) hr
    have hRi : (R.erase i).length ≤ fuel := by
      have hiR : i ∈ R := by
        rcases hall i hin with h | h
        · rw [hL] at h; cases h
        · exact h
      rw [List.length_erase_of_mem hiR]; omega
    have hall' : ∀ x, x < ops.size → (L.setIfInBounds i true)[x]? = some true ∨ x ∈ R.erase i := by
      intro x hx
      by_cases e : x = i
      · subst e
        exact .inl (by rw [Array.getElem?_setIfInBounds, if_pos rfl, if_pos (by rw [I.size]; exact hin)])
      · rcases hall x hx with h | h
        · exact .inl (by rw [Array.getElem?_setIfInBounds, if_neg (Ne.symm e)]; exact h)
        · exact .inr ((List.mem_erase_of_ne e).2 h)
    have hset := set_true (L := L) (i := i) (by rw [I.size]; exact hin)
    -- what does not act leaves the count and memory
    have calm : ∀ {w' : World}, r.acts = false → w' = w → (∀ p h : Nat, st[p]? = some h → ((L.setIfInBounds i true)[h]? = some true ↔ p < j)) ∧ MemL f M0.size zs ms (L.setIfInBounds i true) j φ w' := by
      rintro w' hra rfl
      have ne : ∀ p h : Nat, (f :: st)[p]? = some h → h ≠ i := by
        rintro p h e rfl
        obtain ⟨_, _, r', _, _, q1, q2, _⟩ := m3 p h e
        rw [Nat.sub_zero, hr] at q1
        cases q1
        rw [hra] at q2; cases q2
      refine ⟨fun p h e => ?_, ?_⟩
      · rw [hset, ← hcnt p h e]
        simp [ne (p + 1) h (by simpa using e)]
      · obtain ⟨M, h1, h2, h3⟩ := hmem
        have hfi := ne 0 f rfl
        have : (L.setIfInBounds i true)[f]? = some true ↔ L[f]? = some true := by rw [hset]; simp [hfi]
        exact ⟨M, h1, h2, h3.imp (fun ⟨x, y⟩ => ⟨this.2 x, y⟩) (fun ⟨x, y⟩ => ⟨fun z => x (this.1 z), y⟩)⟩
    unfold wpOpIn
    rw [ho]
    simp only []
    cases hwt : r.want with
    | false =>
      have hw0 := aWanted_rel hTS (hwant.trans (c1.trans (by rw [hwt])))
      rw [if_neg (by rw [hw0]; simp)]
      obtain ⟨e1, e2⟩ := c4 hwt
      refine ⟨fun f _ => hF.1 f, ?_⟩
      obtain ⟨d1, d2⟩ := calm e2 rfl
      refine ih (R.erase i) _ j φ _ w hRi hall' (I.next X ho hr hL hpre (WStep.refl _ _) ?_) d1 d2
      rw [e1]; exact VRel.undef φ
    | true =>
      have hw0 := aWanted_rel hTS (hwant.trans (c1.trans (by rw [hwt])))
      rw [if_pos hw0]
      obtain ⟨W1, hone⟩ := c2 hwt
      have hacts := c3 hwt
      cases ha : r.acts with
      | true =>
        obtain ⟨p, hpi⟩ := actsOf_mem (i0 := 0) hr ha
        rw [Nat.zero_add, Y.acts] at hpi
        obtain ⟨_, o', r', W2, q1, q2, _, _, q5, q6, q7⟩ := m3 p i hpi
        rw [Nat.sub_zero] at q1 q2
        have eo : o' = o := Option.some.inj (q1.symm.trans (by simpa using ho))
        have er : r' = r := Option.some.inj (q2.symm.trans hr)
        subst eo; subst er
        obtain ⟨M, hM, hlt, hmem⟩ := hmem
        cases p with
        | zero =>
          -- the slice is made
          simp only [List.getElem?_cons_zero, Option.some.injEq] at hpi q5
          subst hpi
          subst q5
          obtain ⟨o2, z1, z2⟩ := Y.make
          have : o2 = o' := Option.some.inj (z1.symm.trans ho)
          subst this
          rcases hmem with h | ⟨_, hW, hn, hcs⟩
          · exact absurd h.1 hnot
          · obtain ⟨dst, op, type, pos, after, guard⟩ := o2
            cases op <;> try (simp [isMake] at z2; done)
            rename_i t l c
            rw [oneOp_same hsame] at q7
            simp only [oneOp_def, oneOpM] at q7
            obtain ⟨zs2, elem, l', c', g1, g2, g3, _, g5⟩ := hMakeSlice_run (w := w) hTS q7
            have ez : zs2 = zs := by
              have e1 := Option.some.inj (q6.symm.trans (by simpa using hm1))
              rw [g2] at e1
              have e2 := newCells_get r'.W zs2 r'.W.size
              rw [e1, newCells_get, if_pos rfl, if_pos rfl] at e2
              simp only [Option.some.injEq, AObj.cells.injEq, and_true] at e2
              refine List.ext_getElem? (fun k => ?_)
              rw [← Tr.get_ofL0, ← Tr.get_ofL0, e2]
            subst ez
            obtain ⟨u1, u2⟩ := WRel.late hW hn hlt hcs (fun j => Tr.get_ofL0 zs2 j) (φz := g3) elem
            refine ⟨fun f _ => hF.1 f, ?_⟩
            rw [Oper.semAt_eq _ _ _ (fun c => by simp)]
            have hx : (execOp a.eval ⟨dst, .makeSlice t l c, type, pos, after, guard⟩).run P w = .ok (.value (.slice (some ⟨w.heap.size, 0, none⟩) l' c')) (w.alloc (.cells zs2.toArray elem)) := by
              show (do pure (Next.value (← Instr.makeSlice t (a.eval l) (a.eval c))) : Sem Next).run P w = _
              simp [g5]
            rw [hx]
            refine ih (R.erase f) _ j _ _ _ hRi hall' (I.next X ho hr hL hpre u2 (v' := .slice (some ⟨w.heap.size, 0, none⟩) l' c') ?_) (fun p h e => ?_) ⟨M, hM, hlt, .inl ⟨(hset f).2 (.inl rfl), u1⟩⟩
            · rw [g1]
              have := VRel.slice (o := 0) (l := l') (c := c') (Emb.put_same φ r'.W.size ⟨w.heap.size, 0, zs2.length, 0⟩)
              simpa using this
            · rw [hset, ← hcnt p h e]
              have := hfst p h e
              constructor
              · rintro (h | h)
                · omega
                · exact h
              · exact .inr
        | succ p =>
          -- a store
          simp only [List.getElem?_cons_succ] at hpi q5 q6
          have hif : f < i := hfst p i hpi
          obtain ⟨o2, r2, z1, z2, z3, z4⟩ := Y.sts i (List.mem_of_getElem? hpi)
          have : o2 = o' := Option.some.inj (z1.symm.trans ho)
          subst this
          have : r2 = r' := Option.some.inj (z2.symm.trans hr)
          subst this
          have hpk : p = j := by
            have h1 : ¬ p < j := fun h => hnot ((hcnt p i hpi).2 h)
            cases p with
            | zero => omega
            | succ p =>
              have hl : p < st.length := by have := (List.getElem?_eq_some_iff.1 hpi).1; omega
              have e1 : st[p]? = some st[p] := by simp
              have := (hcnt p _ e1).1 (hpre _ (Y.row p _ i e1 hpi))
              omega
          subst hpk
          have eM : M = r2.W := Option.some.inj (hM.symm.trans q5)
          subst eM
          have hcnt' : ∀ q h : Nat, st[q]? = some h → ((L.setIfInBounds i true)[h]? = some true ↔ q < p + 1) := by
            intro q h e
            rw [hset, hcnt q h e]
            constructor
            · rintro (rfl | h1)
              · rcases Nat.lt_trichotomy q p with h2 | h2 | h2
                · omega
                · omega
                · exact absurd (hst2 p q _ _ hpi e h2) (Nat.lt_irrefl _)
              · omega
            · intro h1
              by_cases e2 : q = p
              · subst e2; exact .inl (Option.some.inj (e.symm.trans hpi))
              · exact .inr (by omega)
          have hff : (L.setIfInBounds i true)[f]? = some true ↔ L[f]? = some true := by rw [hset]; simp; omega
          obtain ⟨dst, op, type, pos, after, guard⟩ := o2
          cases op <;> try (simp [isStore] at z3; done)
          rename_i t x y
          simp only [oneOp_def, oneOpM] at q7
          have hsm : ∀ B : AW, hStore P r2.T B t x y = hStore P (restr r2.T ts) B t x y := fun B => heavyOp_same (P := P) (A := B) (op := .store t x y) hsame
          rcases hmem with ⟨hf, hW⟩ | ⟨hf, hW, hn, hcs⟩
          · have sz := hStore_size q7
            rw [hsm] at q7
            obtain ⟨s1, w', s2, s3, s4⟩ := store_goes (o := ⟨dst, .store t x y, type, pos, after, guard⟩) hW hTS rfl q7
            refine s4 F n _ Q hF ?_
            refine ih (R.erase i) _ (p + 1) φ _ w' hRi hall' (I.next X ho hr hL hpre s3 ?_) hcnt' ⟨W2, q6, by omega, .inl ⟨hff.2 hf, s2⟩⟩
            rw [s1]; exact VRel.undef φ
          · rcases z4 with z4 | z4
            · exact absurd (hpre f z4) hf
            · obtain ⟨⟨v2, B1⟩, hB⟩ := Option.isSome_iff_exists.1 z4
              simp only [heavyOp] at hB
              obtain ⟨t1, t2, t3, t4, t5⟩ := hStore_without q7 hB
              rw [hsm] at hB
              obtain ⟨s1, w', s2, s3, s4⟩ := store_goes (o := ⟨dst, .store t x y, type, pos, after, guard⟩) hW hTS rfl hB
              have hpl := Y.plain W2 (List.mem_of_getElem? q6)
              have hcs' : W2.heap.get M0.size = some (.cells (Tr.ofL zs 0 .nil) none) := by
                cases e : W2.heap.get M0.size with
                | none => rw [e] at hpl; cases hpl
                | some ob => rw [← t5 ob e]; exact hcs
              refine s4 F n _ Q hF ?_
              refine ih (R.erase i) _ (p + 1) φ _ w' hRi hall' (I.next X ho hr hL hpre s3 ?_) hcnt' ⟨W2, q6, by omega, .inr ⟨fun h => hf (hff.1 h), ?_, hn, hcs'⟩⟩
              · rw [← t1, s1]; exact VRel.undef φ
              · refine s2.sub (by show B1.size ≤ W2.size; omega) (fun b ob e => ?_)
                rw [set_get] at e
                split at e
                · cases e
                · rename_i hb; exact t4 b ob hb e
      | false =>
        have hlight := hacts.symm.trans ha
        obtain ⟨l1, l2, l3⟩ := oneOp_light hlight hone
        obtain ⟨d1, d2⟩ := calm ha rfl
        have go : ∀ {B : AW}, WRel φ B w → (isRead o.op = true → readOp P r.T B o.op = some r.v) → o.wpIn F n P a w (fun a' w' => wpAnyIn F n P .any ops Q fuel (L.setIfInBounds i true) a' w') Q := by
          intro B hB hrd
          have hnow : oneOp P pt call round r.T B o.type o.op = some (r.v, B) := by
            cases hx : isRead o.op with
            | false => exact l2 hx B
            | true => exact l3 B r.v (hrd hx) hx
          rw [oneOp_same hsame] at hnow
          refine light_goes hp hB hTS ?_ hnow F n _ Q hF (fun v' hv => ?_)
          · rw [← hlight]; exact (actsB_same hsame).symm
          · exact ih (R.erase i) _ j φ _ w hRi hall' (I.next X ho hr hL hpre (WStep.refl _ _) hv) d1 d2
        obtain ⟨M, hM, hlt, hmem⟩ := hmem
        have hrs : isRead o.op = true → readsSame P r.T o r.v (ms ++ ms.map fun M => M.set M0.size none) = true := Y.same i o r ho hr hwt
        have hMm := List.mem_of_getElem? hM
        rcases hmem with ⟨_, hW⟩ | ⟨_, hW, _⟩
        · exact go hW (fun h => readsSame_mem (hrs h) M (List.mem_append_left _ hMm))
        · exact go hW (fun h => readsSame_mem (hrs h) _ (List.mem_append_right _ (List.mem_map.2 ⟨M, hMm, rfl⟩)))
/-- such a region, from its start -/
theorem drawLate_start (hp : PtOk P pt) {F : Fence} {n : Nat} (hF : Wide F) {Q : Exit → Act → World → Prop} (X : Facts0 P pt call round nt ops T W T' W' rs) (hl : drawLate P ops W' rs = true) {φ : Emb} {w : World} {a : Act}
    (hT : TRel φ T a.tmps) (hW : WRel φ W w) (hs : a.tmps.size = nt) (hq : ∀ ψ a' w', On φ w a T' W' ψ a' w' → Q .normal a' w') :
    wpAnyIn F n P .any ops Q ops.size (Array.replicate ops.size false) a w := by
  obtain ⟨f, st, M0, ms, Y⟩ := late_of hl
  obtain ⟨m1, _, m3⟩ := X.chain.mems 0
  rw [Y.mems] at m1 m3
  have e0 : M0 = W := by simpa using m1
  obtain ⟨_, o, r, W1, q1, q2, _, _, q5, q6, q7⟩ := m3 0 f (by rw [Y.acts]; rfl)
  rw [Nat.sub_zero] at q1
  simp only [List.getElem?_cons_zero, Option.some.injEq, List.getElem?_cons_succ, Nat.zero_add] at q5 q6
  obtain ⟨o2, z1, z2⟩ := Y.make
  have : o2 = o := Option.some.inj (z1.symm.trans (by simpa using q1))
  subst this
  obtain ⟨dst, op, type, pos, after, guard⟩ := o2
  cases op <;> try (simp [isMake] at z2; done)
  rename_i t l c
  simp only [oneOp_def, oneOpM] at q7
  have hk : ∃ zs, W1 = newCells M0 zs none := by
    unfold hMakeSlice at q7
    split at q7
    · split at q7
      · obtain ⟨_, q8⟩ := bif_some q7
        simp only [Option.some.injEq, Prod.mk.injEq] at q8
        exact ⟨_, by rw [← q8.2, q5]⟩
      · cases q7
    · cases q7
  obtain ⟨zs, rfl⟩ := hk
  refine drawLate_ok hp hF X Y q6 (φ0 := φ) (w0 := w) (a0 := a) hq hs ops.size (List.range ops.size) _ 0 φ a w (by simp) (fun i hi => .inr (by simpa using hi)) ?_ (fun p h _ => ?_) ⟨_, q6, ?_, .inr ⟨?_, ?_, ?_, ?_⟩⟩
  · refine ⟨by simp, fun i j hi => ?_, fun t v e => ?_, hs, rfl, WStep.refl _ _⟩
    · simp [Array.getElem?_replicate] at hi
    · refine hT t v ?_
      unfold EV at e
      split at e
      · rw [if_neg (by simp [Array.getElem?_replicate])] at e; exact e
      · exact e
  · simp [Array.getElem?_replicate]
  · show M0.size < M0.size + 1; omega
  · simp [Array.getElem?_replicate]
  · subst e0
    refine hW.sub (by show M0.size ≤ M0.size + 1; omega) (fun b ob e => ?_)
    rw [set_get] at e
    split at e
    · cases e
    · rename_i hb; rw [newCells_get, if_neg hb] at e; exact e
  · subst e0
    cases e : φ M0.size with
    | none => rfl
    | some i => have := hW.dom _ _ e; omega
  · rw [newCells_get, if_pos rfl]
end Go.Proofs.YtcpafphgkbfahaaGreat
