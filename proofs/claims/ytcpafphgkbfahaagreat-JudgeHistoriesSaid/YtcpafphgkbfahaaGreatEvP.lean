/- An evaluator of closed runs: rows of operations. -/
import Derived.Test.YtcpafphgkbfahaaGreatEvO
namespace Go.Proofs.YtcpafphgkbfahaaGreat
open Go Go.RowKit

variable {P : Program} {φ : Emb}
theorem put_size (a : Act) (dst : Option Tmp) (v : Value) : (a.put dst v).tmps.size = a.tmps.size := by cases dst <;> simp [Act.put]
theorem put_defers (a : Act) (dst : Option Tmp) (v : Value) : (a.put dst v).defers = a.defers := by cases dst <;> rfl
theorem putT_rel {nt : Nat} {T T' : Tr Value} {dst : Option Tmp} {v v' : Value} (h : putT nt T dst v = some T') {a : Act} (hs : a.tmps.size = nt) (hT : TRel φ T a.tmps) (r : VRel φ v v') : TRel φ T' (a.put dst v').tmps := by
  unfold putT at h
  split at h
  · cases h; exact hT
  · rename_i d
    obtain ⟨h1, h2⟩ := bif_some h
    cases h2
    rw [nat_blt_eq, decide_eq_true_iff] at h1
    intro t u e
    rw [Tr.get_put] at e
    simp only [Act.put, Array.getElem?_setIfInBounds]
    by_cases ht : t = d
    · subst ht
      rw [if_pos rfl] at e
      cases e
      rw [if_pos rfl, if_pos (by omega)]
      exact ⟨v', rfl, r⟩
    · rw [if_neg ht] at e
      rw [if_neg (Ne.symm ht)]
      exact hT t u e
theorem aWanted_rel {ops : Array Oper} {T : Tr Value} {a : Act} (hT : TRel φ T a.tmps) {o : Oper} {b : Bool} (h : aWanted ops T o = some b) : Region.wanted o (yielded ops a.tmps) = b := by
  unfold aWanted at h
  unfold Region.wanted
  split at h
  · rename_i hg; cases h; rw [hg]
  · rename_i j want hg
    rw [hg]
    simp only []
    split at h
    · cases h
    · rename_i d hd
      split at h
      · rename_i c hc
        cases h
        obtain ⟨v', e, r⟩ := hT d _ hc
        cases r
        have : yielded ops a.tmps j = some c := by simp [yielded, hd, e]
        rw [this]
        cases c <;> cases want <;> rfl
      · rename_i vs hc
        cases h
        obtain ⟨v', e, r⟩ := hT d _ hc
        cases r
        have : yielded ops a.tmps j = none := by simp [yielded, hd, e]
        rw [this]; rfl
      · cases h
/-- a state that goes on: the same frame, a memory that stands for the evaluator's -/
structure On (φ : Emb) (w : World) (a : Act) (T' : Tr Value) (A' : AW) (ψ : Emb) (a' : Act) (w' : World) : Prop where
  step : WStep φ w ψ w'
  tmps : TRel ψ T' a'.tmps
  size : a'.tmps.size = a.tmps.size
  defers : a'.defers = a.defers
  mem : WRel ψ A' w'
theorem runOps_ok {pt : Pt} {call : Callee'} {round : Rounder} (hc : CallOk P call) (hr : RoundOk P round) (hp : PtOk P pt) {F : Fence} {n : Nat} (hF : Wide F) {nt : Nat} {ops : Array Oper} {Q : Exit → Act → World → Prop} :
    ∀ (l : List Oper) (k : Nat) (φ : Emb) (T : Tr Value) (A : AW) (a : Act) (w : World) (T' : Tr Value) (A' : AW), (∀ j, j < l.length → ops[k + j]? = l[j]?) → runOps P pt call round nt ops l T A = some (T', A') →
      a.tmps.size = nt → TRel φ T a.tmps → WRel φ A w → (∀ ψ a' w', On φ w a T' A' ψ a' w' → Q .normal a' w') → wpOpsIn F n P ops Q (List.range' k l.length) a w
  | [], k, φ, T, A, a, w, T', A', _, h, hs, hT, hW, hq => by
    simp only [runOps_nil, Option.some.injEq, Prod.mk.injEq] at h
    obtain ⟨rfl, rfl⟩ := h
    exact hq φ a w ⟨WStep.refl _ _, hT, rfl, rfl, hW⟩
  | o :: rest, k, φ, T, A, a, w, T', A', hl, h, hs, hT, hW, hq => by
    have h0 : ops[k]? = some o := by simpa using hl 0 (by simp)
    have hrest : ∀ j, j < rest.length → ops[k + 1 + j]? = rest[j]? := fun j hj => by
      have := hl (j + 1) (by simp; omega)
      rw [show k + (j + 1) = k + 1 + j by omega] at this
      simpa using this
    simp only [runOps_cons] at h
    rw [List.length_cons, List.range'_succ]
    unfold wpOpsIn
    rw [h0]
    simp only []
    split at h
    · rename_i hw
      rw [if_pos (aWanted_rel hT hw)]
      split at h
      · rename_i v A1 ho
        split at h
        · rename_i T1 ht
          refine oneOp_goes hc hr hp hW hT ho F n _ Q hF (fun ψ w' v' q1 q2 q3 => ?_)
          refine runOps_ok hc hr hp hF rest (k + 1) ψ T1 A1 _ w' T' A' hrest h (by rw [put_size]; exact hs) (putT_rel ht hs (hT.mono q3.ext) q1) q2 (fun χ a' w2 hon => hq χ a' w2 ?_)
          exact ⟨q3.trans hon.step, hon.tmps, by rw [hon.size, put_size], by rw [hon.defers, put_defers], hon.mem⟩
        · cases h
      · cases h
    · rename_i hw
      rw [if_neg (by rw [aWanted_rel hT hw]; simp)]
      split at h
      · rename_i T1 ht
        refine ⟨fun f _ => hF.1 f, ?_⟩
        refine runOps_ok hc hr hp hF rest (k + 1) φ T1 A _ w T' A' hrest h (by rw [put_size]; exact hs) (putT_rel ht hs hT (VRel.undef φ)) hW (fun χ a' w2 hon => hq χ a' w2 ?_)
        exact ⟨hon.step, hon.tmps, by rw [hon.size, put_size], by rw [hon.defers, put_defers], hon.mem⟩
      · cases h
    · cases h

/-! ### What an operation asks of the temporaries -/
def Same (T S : Tr Value) (ts : List Tmp) : Prop := ∀ t ∈ ts, T.get t = S.get t
theorem aev_same {T S : Tr Value} {x : Operand} (h : ∀ t, x = .tmp t → T.get t = S.get t) : aev T x = aev S x := by
  cases x with
  | tmp t => exact h t rfl
  | _ => rfl
theorem aevs_same {T S : Tr Value} : ∀ {xs : List Operand}, (∀ x ∈ xs, aev T x = aev S x) → aevs T xs = aevs S xs
  | [], _ => rfl
  | x :: xs, h => by
    rw [aevs, aevs, h x (by simp), aevs_same fun y hy => h y (by simp [hy])]
theorem aevo_same {T S : Tr Value} {x : Option Operand} (h : ∀ y, x = some y → aev T y = aev S y) : aevo T x = aevo S x := by
  cases x with
  | none => rfl
  | some y => simp only [aevo, h y rfl]
theorem aParts_same {T S : Tr Value} : ∀ {xs : List (Nat × Operand)}, (∀ x ∈ xs, aev T x.2 = aev S x.2) → aParts T xs = aParts S xs
  | [], _ => rfl
  | (i, x) :: xs, h => by
    rw [aParts, aParts, h (i, x) (by simp), aParts_same fun y hy => h y (by simp [hy])]
theorem operand_same {T S : Tr Value} {o : Oper} (h : Same T S (tmpsOf o)) : ∀ x ∈ o.op.operands, aev T x = aev S x := fun x hx => aev_same fun t e => h t (by
  subst e
  simp only [tmpsOf, List.mem_filterMap]
  exact ⟨.tmp t, by simpa using hx, rfl⟩)
theorem pureOp_same {T S : Tr Value} {type : TypeId} {op : Op} (h : ∀ x ∈ op.operands, aev T x = aev S x) : pureOp P T type op = pureOp P S type op := by
  cases op <;> simp only [pureOp, Op.operands, Array.mem_append, List.mem_toArray, List.mem_cons, List.not_mem_nil, or_false, forall_eq_or_imp, forall_eq] at h ⊢
  case move x => exact h
  case assign x => exact h
  case pick c a b => simp only [pPick, h.1, h.2.1, h.2.2]
  case build t ps =>
    simp only [pBuild]
    rw [aParts_same (T := T) (S := S) fun x hx => h x.2 (by simp; exact ⟨x.1, by simpa using hx⟩)]
  case nilCheck x => simp only [pNilCheck, h]
  case binOp op t x y yt => simp only [pBin, h.1, h.2]
  case unOp op t x => simp only [pUn, h]
  case convert s d x => simp only [pConvert, h]
  case makeInterface t x => simp only [pIface, h]
  case makeFunc fn f c => simp only [pFunc, aevs_same (T := T) (S := S) (xs := f.toList) fun x hx => h x (.inl (by simpa using hx)), aevs_same (T := T) (S := S) (xs := c.toList) fun x hx => h x (.inr (by simpa using hx))]
  case slice t x lo hi mx =>
    simp only [pSlice]
    rw [h x (by simp), aevo_same (x := lo) fun y e => h y (by simp [e]), aevo_same (x := hi) fun y e => h y (by simp [e]), aevo_same (x := mx) fun y e => h y (by simp [e])]
  case fieldAddr s x f => simp only [pFieldAddr, h]
  case field t x f => simp only [pField, h]
  case indexAddr t x i => simp only [pIndexAddr, h.1, h.2]
  case index t x i => simp only [pIndex, h.1, h.2]
  case typeAssert x xt as ok => simp only [pAssert, h]
  case extract t ix => simp only [pExtract, h]
  case call c =>
    have ha : ∀ x ∈ c.args, aev T x = aev S x := fun x hx => h x (by simp [Call.operands, hx])
    have hl : aevs T c.args.toList = aevs S c.args.toList := aevs_same fun x hx => ha x (by simpa using hx)
    unfold pCall
    split
    · unfold pCap
      split
      · rename_i e x ht hx
        rw [ha x (by rw [toList_one hx]; simp)]
      · rfl
    · simp only [pMinMax, hl]
    · simp only [pMinMax, hl]
    · rfl
theorem pLen_same {T S : Tr Value} {args : Array Operand} {argTypes : Array TypeId} (ha : ∀ x ∈ args, aev T x = aev S x) : pLen P T args argTypes = pLen P S args argTypes := by
  unfold pLen
  split
  · rename_i e x ht hx; rw [ha x (by rw [toList_one hx]; simp)]
  · rename_i x ht hx; rw [ha x (by rw [toList_one hx]; simp)]
  · rename_i n e x ht hx; rw [ha x (by rw [toList_one hx]; simp)]
  · rfl
theorem rLen_same {T S : Tr Value} {A : AW} {args : Array Operand} {argTypes : Array TypeId} (ha : ∀ x ∈ args, aev T x = aev S x) : rLen P T A args argTypes = rLen P S A args argTypes := by
  unfold rLen
  split
  · rename_i k e x ht hx; rw [ha x (by rw [toList_one hx]; simp)]
  · exact pLen_same ha
theorem readOp_same {T S : Tr Value} {A : AW} {op : Op} (h : ∀ x ∈ op.operands, aev T x = aev S x) : readOp P T A op = readOp P S A op := by
  cases op <;> simp only [readOp, Op.operands, List.mem_toArray, List.mem_cons, List.not_mem_nil, or_false, forall_eq_or_imp, forall_eq] at h ⊢
  case load t x => simp only [rLoad, h]
  case lookup t m k ok => simp only [rLookup, h.1, h.2]
  case call c =>
    have ha : ∀ x ∈ c.args, aev T x = aev S x := fun x hx => h x (by simp [Call.operands, hx])
    unfold rCall
    split
    · exact rLen_same ha
    · rfl
theorem heavyOp_same {T S : Tr Value} {A : AW} {op : Op} (h : ∀ x ∈ op.operands, aev T x = aev S x) : heavyOp P T A op = heavyOp P S A op := by
  cases op <;> simp only [heavyOp, Op.operands, List.mem_toArray, List.mem_cons, List.not_mem_nil, or_false, forall_eq_or_imp, forall_eq] at h ⊢
  case box t x => simp only [hBox, h]
  case buildSlice t len ps =>
    simp only [hBuildSlice]
    rw [aParts_same (T := T) (S := S) fun x hx => h x.2 (by simp; exact ⟨x.1, by simpa using hx⟩)]
  case insert t m k x => simp only [hUpdate, h.1, h.2.1, h.2.2]
  case store t x y => simp only [hStore, h.1, h.2]
  case makeMap t r =>
    cases r with
    | none => rfl
    | some x => simp only [hMakeMap, h x (by simp)]
  case makeSlice t l c => simp only [hMakeSlice, h.1, h.2]
  case mapUpdate t m k x => simp only [hUpdate, h.1, h.2.1, h.2.2]
  case mapEntry t m k => simp only [hMapEntry, h.1, h.2]
  case entryStore t m s x => simp only [hEntryStore, h.1, h.2.1, h.2.2]
  case range t x => simp only [hRange, h]
  case next x s => simp only [hNext, h]
  case entry x => simp only [hEntry, h]
  case call c =>
    have ha : ∀ x ∈ c.args, aev T x = aev S x := fun x hx => h x (by simp [Call.operands, hx])
    have hl : aevs T c.args.toList = aevs S c.args.toList := aevs_same fun x hx => ha x (by simpa using hx)
    unfold hCall
    split
    · simp only [hBuiltin, hl]
    · rfl
theorem oneOp_same {pt : Pt} {call : Callee'} {round : Rounder} {T S : Tr Value} {A : AW} {type : TypeId} {op : Op} (h : ∀ x ∈ op.operands, aev T x = aev S x) : oneOp P pt call round T A type op = oneOp P pt call round S A type op := by
  have hp := pureOp_same (P := P) (type := type) h
  have hr := readOp_same (P := P) (A := A) h
  have hh := heavyOp_same (P := P) (A := A) h
  cases op <;> simp only [oneOp_def, oneOpM] <;> first
    | rfl
    | exact hh
    | exact congrArg (withW A) hp
    | exact congrArg (withW A) hr
    | skip
  case call c =>
    have ha : ∀ x ∈ c.args, aev T x = aev S x := fun x hx => h x (by simp [Op.operands, Call.operands, hx])
    have hl : aevs T c.args.toList = aevs S c.args.toList := aevs_same fun x hx => ha x (by simpa using hx)
    unfold callAny
    split
    · rename_i f hf
      have hf' : aev T f = aev S f := h f (by simp [Op.operands, Call.operands, hf])
      simp only [callOp, hf', hl]
    · exact congrArg (withW A) (rLen_same ha)
    · unfold pCap
      split
      · rename_i e x ht hx
        rw [ha x (by rw [toList_one hx]; simp)]
      · rfl
    · simp only [pMinMax, hl]
    · simp only [pMinMax, hl]
    · simp only [hBuiltin, hl]
    · rfl
end Go.Proofs.YtcpafphgkbfahaaGreat
