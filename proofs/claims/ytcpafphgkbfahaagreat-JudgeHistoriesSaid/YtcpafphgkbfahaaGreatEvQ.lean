/- An evaluator of closed runs: a region that draws its order: what its record says. -/
import Derived.Test.YtcpafphgkbfahaaGreatEvP
namespace Go.Proofs.YtcpafphgkbfahaaGreat
open Go Go.RowKit
set_option linter.unusedSimpArgs false

variable {P : Program} {φ : Emb}
theorem zip_eq (n : Nat) (ih : ∀ a b, veq n a b = true → a = b) : ∀ (l m : List Value), l.length = m.length → ((l.zip m).all fun (x, y) => veq n x y) = true → l = m
  | [], [], _, _ => rfl
  | [], _ :: _, h, _ => by simp at h
  | _ :: _, [], h, _ => by simp at h
  | x :: l, y :: m, h, e => by
    simp only [List.zip_cons_cons, List.all_cons, Bool.and_eq_true] at e
    rw [ih _ _ e.1, zip_eq n ih l m (by simpa using h) e.2]
theorem arr_eq (n : Nat) (ih : ∀ a b, veq n a b = true → a = b) {a b : Array Value} (h : (a.size == b.size && (a.toList.zip b.toList).all fun (x, y) => veq n x y) = true) : a = b := by
  simp only [Bool.and_eq_true, beq_iff_eq] at h
  exact Array.ext' (zip_eq n ih _ _ (by simpa using h.1) h.2)
theorem byte_ext {a b : ByteArray} (h : (a.data.toList == b.data.toList) = true) : a = b := by
  rw [beq_iff_eq] at h
  obtain ⟨a⟩ := a
  obtain ⟨b⟩ := b
  exact congrArg ByteArray.mk (Array.ext' h)
theorem veq_eq : ∀ (n : Nat) (a b : Value), veq n a b = true → a = b := by
  intro n
  induction n with
  | zero =>
    intro a b h
    unfold veq at h
    split at h <;> first
      | (cases h; done)
      | (rename_i e _; simp at e; done)
      | (rename_i e; simp at e; done)
      | skip
    all_goals first
      | rfl
      | (exact congrArg Value.string (byte_ext h))
      | (simp only [Bool.and_eq_true, beq_iff_eq, nat_beq_eq, ieq_eq, decide_eq_true_eq] at h; simp [h]; done)
  | succ n ih =>
    intro a b h
    unfold veq at h
    split at h <;> first
      | (cases h; done)
      | rfl
      | (exact congrArg Value.string (byte_ext h))
      | (rename_i h0
         have : n = _ := Nat.succ.inj h0
         subst this
         first
          | (rw [arr_eq _ ih h]; done)
          | (rw [Bool.and_eq_true, Bool.and_eq_true, beq_iff_eq] at h
             rw [h.1.1, arr_eq _ ih h.1.2, arr_eq _ ih h.2]
             done)
          | (rw [Bool.and_eq_true, nat_beq_eq, decide_eq_true_eq] at h
             rw [h.1, ih _ _ h.2]
             done))
      | (simp only [Bool.and_eq_true, beq_iff_eq, nat_beq_eq, ieq_eq, decide_eq_true_eq] at h; simp [h]; done)
/-- an operation that does not act leaves memory alone; if it does not read, it says the same of every memory -/
theorem oneOp_light {pt : Pt} {call : Callee'} {round : Rounder} {T : Tr Value} {A A1 : AW} {type : TypeId} {op : Op} {v : Value} (ha : actsB pt T op = false) (h : oneOp P pt call round T A type op = some (v, A1)) :
    A1 = A ∧ (isRead op = false → ∀ M, oneOp P pt call round T M type op = some (v, M)) ∧ (∀ M v', readOp P T M op = some v' → isRead op = true → oneOp P pt call round T M type op = some (v', M)) := by
  have pw : ∀ {x : Option Value}, withW A x = some (v, A1) → A1 = A ∧ ∀ M, withW M x = some (v, M) := by
    intro x e
    obtain ⟨rfl, rfl⟩ := withW_some e
    exact ⟨rfl, fun M => rfl⟩
  cases op <;> simp only [oneOp_def, oneOpM] at h <;> try (cases h; done)
  case load t x => exact ⟨(pw h).1, fun e => by simp [isRead] at e, fun M v' e _ => by simp only [readOp] at e; simp only [oneOp_def, oneOpM, e, withW]⟩
  case lookup t m k ok => exact ⟨(pw h).1, fun e => by simp [isRead] at e, fun M v' e _ => by simp only [readOp] at e; simp only [oneOp_def, oneOpM, e, withW]⟩
  case call c =>
    obtain ⟨callee, args, argTypes⟩ := c
    cases callee with
    | invoke r m => simp [callAny] at h
    | value f =>
      simp only [callAny, callOp] at h
      simp only [actsB, isPure, isRead, Bool.or_self, cond_false] at ha
      split at h
      · rename_i g first captured vs hf hvs
        simp only [hf, hvs, Option.isNone_eq_false_iff] at ha
        obtain ⟨u, hu⟩ := Option.isSome_iff_exists.1 ha
        rw [hu] at h
        cases h
        exact ⟨rfl, fun _ M => by simp only [oneOp_def, oneOpM, callAny, callOp, hf, hvs, hu], fun M v' e e2 => by simp [isRead] at e2⟩
      · rename_i l first captured vs hf hvs
        simp [hf, hvs] at ha
      · cases h
    | builtin b =>
      cases b <;> first
        | (simp [actsB, isPure, isRead] at ha; done)
        | skip
      all_goals simp only [callAny] at h
      case cap => exact ⟨(pw h).1, fun _ M => by simpa only [oneOp_def, oneOpM, callAny] using (pw h).2 M, fun M v' e e2 => by simp [isRead] at e2⟩
      case len => exact ⟨(pw h).1, fun e => by simp [isRead] at e, fun M v' e _ => by simp only [readOp, rCall] at e; simp only [oneOp_def, oneOpM, callAny, e, withW]⟩
      case max => exact ⟨(pw h).1, fun _ M => by simpa only [oneOp_def, oneOpM, callAny] using (pw h).2 M, fun M v' e e2 => by simp [isRead] at e2⟩
      case min => exact ⟨(pw h).1, fun _ M => by simpa only [oneOp_def, oneOpM, callAny] using (pw h).2 M, fun M v' e e2 => by simp [isRead] at e2⟩
  all_goals first
    | exact ⟨(pw h).1, fun _ M => by simpa only [oneOp_def, oneOpM] using (pw h).2 M, fun M v' e e2 => by simp [isRead] at e2⟩
    | (simp [actsB, isPure, isRead] at ha; done)

/-! ### The record of the row in the order of the text -/
inductive Chain (P : Program) (pt : Pt) (call : Callee') (round : Rounder) (nt : Nat) (ops : Array Oper) : List Oper → Tr Value → AW → Tr Value → AW → List Rec → Prop
  | nil (T : Tr Value) (W : AW) : Chain P pt call round nt ops [] T W T W []
  | done {o : Oper} {rest : List Oper} {T T1 T' : Tr Value} {W W1 W' : AW} {v : Value} {rs : List Rec} (hw : aWanted ops T o = some true) (ho : oneOp P pt call round T W o.type o.op = some (v, W1)) (ht : putT nt T o.dst v = some T1)
      (c : Chain P pt call round nt ops rest T1 W1 T' W' rs) : Chain P pt call round nt ops (o :: rest) T W T' W' (⟨true, actsB pt T o.op, v, T, W⟩ :: rs)
  | skip {o : Oper} {rest : List Oper} {T T1 T' : Tr Value} {W W' : AW} {rs : List Rec} (hw : aWanted ops T o = some false) (ht : putT nt T o.dst undef = some T1)
      (c : Chain P pt call round nt ops rest T1 W T' W' rs) : Chain P pt call round nt ops (o :: rest) T W T' W' (⟨false, false, undef, T, W⟩ :: rs)
section
variable {pt : Pt} {call : Callee'} {round : Rounder} {nt : Nat} {ops : Array Oper}
theorem chain_of : ∀ {l : List Oper} {T T' : Tr Value} {W W' : AW} {rs : List Rec}, runRec P pt call round nt ops l T W = some (T', W', rs) → Chain P pt call round nt ops l T W T' W' rs
  | [], T, T', W, W', rs, h => by simp only [runRec, Option.some.injEq, Prod.mk.injEq] at h; obtain ⟨rfl, rfl, rfl⟩ := h; exact .nil _ _
  | o :: rest, T, T', W, W', rs, h => by
    simp only [runRec] at h
    split at h
    · rename_i hw
      split at h
      · rename_i v W1 ho
        split at h
        · rename_i T1 ht
          split at h
          · rename_i T2 W2 rs2 hr
            cases h
            exact .done hw ho ht (chain_of hr)
          · cases h
        · cases h
      · cases h
    · rename_i hw
      split at h
      · rename_i T1 ht
        split at h
        · rename_i T2 W2 rs2 hr
          cases h
          exact .skip hw ht (chain_of hr)
        · cases h
      · cases h
    · cases h
variable {l : List Oper} {T T' : Tr Value} {W W' : AW} {rs : List Rec}
theorem Chain.length (h : Chain P pt call round nt ops l T W T' W' rs) : rs.length = l.length := by
  induction h with
  | nil => rfl
  | done _ _ _ _ ih => simp [ih]
  | skip _ _ _ ih => simp [ih]
/-- what one record says -/
theorem Chain.at (h : Chain P pt call round nt ops l T W T' W' rs) : ∀ (j : Nat) (o : Oper) (r : Rec), l[j]? = some o → rs[j]? = some r →
    aWanted ops r.T o = some r.want ∧ (r.want = true → ∃ W1, oneOp P pt call round r.T r.W o.type o.op = some (r.v, W1)) ∧ (r.want = true → r.acts = actsB pt r.T o.op) ∧ (r.want = false → r.v = undef ∧ r.acts = false) ∧ (∃ T1, putT nt r.T o.dst r.v = some T1) := by
  induction h with
  | nil => intro j o r e; simp at e
  | done hw ho ht _ ih =>
    intro j o r e f
    cases j with
    | zero => simp at e f; subst e; subst f; exact ⟨hw, fun _ => ⟨_, ho⟩, fun _ => rfl, fun e => by simp at e, _, ht⟩
    | succ j => exact ih j o r (by simpa using e) (by simpa using f)
  | skip hw ht _ ih =>
    intro j o r e f
    cases j with
    | zero => simp at e f; subst e; subst f; exact ⟨hw, fun e => by simp at e, fun e => by simp at e, fun _ => ⟨rfl, rfl⟩, _, ht⟩
    | succ j => exact ih j o r (by simpa using e) (by simpa using f)
noncomputable def Tat (rs : List Rec) (T' : Tr Value) (j : Nat) : Tr Value :=
  match rs[j]? with
  | some r => r.T
  | none => T'
theorem putT_get {T1 : Tr Value} {dst : Option Tmp} {v : Value} (h : putT nt T dst v = some T1) (t : Nat) : T1.get t = if dst = some t then some v else T.get t := by
  unfold putT at h
  split at h
  · cases h; simp
  · rename_i d
    obtain ⟨_, h2⟩ := bif_some h
    cases h2
    rw [Tr.get_put]
    by_cases e : t = d
    · subst e; simp
    · rw [if_neg e, if_neg (by simpa using Ne.symm e)]
/-- a temporary that none ahead has written -/
theorem Chain.old (h : Chain P pt call round nt ops l T W T' W' rs) : ∀ (j t : Nat), j ≤ l.length → (∀ i o, i < j → l[i]? = some o → o.dst ≠ some t) → (Tat rs T' j).get t = T.get t := by
  induction h with
  | nil => intro j t _ _; simp [Tat]
  | done hw ho ht _ ih =>
    intro j t hj hn
    cases j with
    | zero => simp [Tat]
    | succ j =>
      have := ih j t (by simp at hj; omega) (fun i o hi e => hn (i + 1) o (by omega) (by simpa using e))
      have h0 := hn 0 _ (by omega) rfl
      rw [putT_get ht, if_neg h0] at this
      simpa [Tat] using this
  | skip hw ht _ ih =>
    intro j t hj hn
    cases j with
    | zero => simp [Tat]
    | succ j =>
      have := ih j t (by simp at hj; omega) (fun i o hi e => hn (i + 1) o (by omega) (by simpa using e))
      have h0 := hn 0 _ (by omega) rfl
      rw [putT_get ht, if_neg h0] at this
      simpa [Tat] using this
/-- a temporary that one ahead has written, and none since -/
theorem Chain.new (h : Chain P pt call round nt ops l T W T' W' rs) : ∀ (j t i : Nat) (o : Oper) (r : Rec), j ≤ l.length → i < j → l[i]? = some o → rs[i]? = some r → o.dst = some t → (∀ k o', i < k → k < j → l[k]? = some o' → o'.dst ≠ some t) →
    (Tat rs T' j).get t = some r.v := by
  induction h with
  | nil => intro j t i o r hj hi; simp at hj; omega
  | done hw ho ht c ih =>
    intro j t i o r hj hi e f hd hn
    cases j with
    | zero => omega
    | succ j =>
      cases i with
      | zero =>
        simp at e f; subst e; subst f
        have := c.old j t (by simp at hj; omega) (fun k o' hk e => hn (k + 1) o' (by omega) (by omega) (by simpa using e))
        rw [putT_get ht, if_pos hd] at this
        simpa [Tat] using this
      | succ i =>
        have := ih j t i o r (by simp at hj; omega) (by omega) (by simpa using e) (by simpa using f) hd (fun k o' h1 h2 e' => hn (k + 1) o' (by omega) (by omega) (by simpa using e'))
        simpa [Tat] using this
  | skip hw ht c ih =>
    intro j t i o r hj hi e f hd hn
    cases j with
    | zero => omega
    | succ j =>
      cases i with
      | zero =>
        simp at e f; subst e; subst f
        have := c.old j t (by simp at hj; omega) (fun k o' hk e => hn (k + 1) o' (by omega) (by omega) (by simpa using e))
        rw [putT_get ht, if_pos hd] at this
        simpa [Tat] using this
      | succ i =>
        have := ih j t i o r (by simp at hj; omega) (by omega) (by simpa using e) (by simpa using f) hd (fun k o' h1 h2 e' => hn (k + 1) o' (by omega) (by omega) (by simpa using e'))
        simpa [Tat] using this
/-- the memories -/
theorem Chain.mems (h : Chain P pt call round nt ops l T W T' W' rs) : ∀ i0, (memsOf rs ++ [W'])[0]? = some W ∧ (memsOf rs).length = (actsOf rs i0).length ∧
    ∀ p i, (actsOf rs i0)[p]? = some i → i0 ≤ i ∧ ∃ o r W1, l[i - i0]? = some o ∧ rs[i - i0]? = some r ∧ r.acts = true ∧ r.want = true ∧ (memsOf rs ++ [W'])[p]? = some r.W ∧ (memsOf rs ++ [W'])[p + 1]? = some W1 ∧
      oneOp P pt call round r.T r.W o.type o.op = some (r.v, W1) := by
  induction h with
  | nil => intro i0; exact ⟨rfl, rfl, fun p i e => by simp [actsOf] at e⟩
  | @done o rest T T1 T' W W1 W' v rs hw ho ht c ih =>
    intro i0
    obtain ⟨a1, a2, a3⟩ := ih (i0 + 1)
    cases hacts : actsB pt T o.op with
    | true =>
      simp only [memsOf, actsOf, cond_true]
      refine ⟨rfl, by simp [a2], fun p i e => ?_⟩
      cases p with
      | zero =>
        simp at e; subst e
        exact ⟨Nat.le_refl _, o, _, W1, by simp, by simp; rfl, rfl, rfl, rfl, by simpa using a1, ho⟩
      | succ p =>
        obtain ⟨b1, o', r', W2, b2, b3, b4, b5, b6, b7, b8⟩ := a3 p i (by simpa using e)
        refine ⟨by omega, o', r', W2, ?_, ?_, b4, b5, by simpa using b6, by simpa using b7, b8⟩
        · rw [show i - i0 = i - (i0 + 1) + 1 by omega]; simpa using b2
        · rw [show i - i0 = i - (i0 + 1) + 1 by omega]; simpa using b3
    | false =>
      have hW := (oneOp_light hacts ho).1
      subst hW
      simp only [memsOf, actsOf, cond_false]
      refine ⟨a1, a2, fun p i e => ?_⟩
      obtain ⟨b1, o', r', W2, b2, b3, b4, b5, b6, b7, b8⟩ := a3 p i e
      refine ⟨by omega, o', r', W2, ?_, ?_, b4, b5, b6, b7, b8⟩
      · rw [show i - i0 = i - (i0 + 1) + 1 by omega]; simpa using b2
      · rw [show i - i0 = i - (i0 + 1) + 1 by omega]; simpa using b3
  | @skip o rest T T1 T' W W' rs hw ht c ih =>
    intro i0
    obtain ⟨a1, a2, a3⟩ := ih (i0 + 1)
    simp only [memsOf, actsOf, cond_false]
    refine ⟨a1, a2, fun p i e => ?_⟩
    obtain ⟨b1, o', r', W2, b2, b3, b4, b5, b6, b7, b8⟩ := a3 p i e
    refine ⟨by omega, o', r', W2, ?_, ?_, b4, b5, b6, b7, b8⟩
    · rw [show i - i0 = i - (i0 + 1) + 1 by omega]; simpa using b2
    · rw [show i - i0 = i - (i0 + 1) + 1 by omega]; simpa using b3
theorem actsOf_mem : ∀ {rs : List Rec} {i0 i : Nat} {r : Rec}, rs[i]? = some r → r.acts = true → ∃ p : Nat, (actsOf rs i0)[p]? = some (i0 + i)
  | [], i0, i, r, h, _ => by simp at h
  | x :: rs, i0, 0, r, h, ha => by simp at h; subst h; exact ⟨0, by simp [actsOf, ha]⟩
  | x :: rs, i0, i + 1, r, h, ha => by
    obtain ⟨p, hp⟩ := actsOf_mem (i0 := i0 + 1) (i := i) (by simpa using h) ha
    simp only [actsOf]
    cases x.acts with
    | true => exact ⟨p + 1, by simp only [cond_true, List.getElem?_cons_succ]; rw [hp]; congr 1; omega⟩
    | false => exact ⟨p, by simp only [cond_false]; rw [hp]; congr 1; omega⟩
theorem actsOf_lt : ∀ {rs : List Rec} {i0 : Nat} {p q i j : Nat}, (actsOf rs i0)[p]? = some i → (actsOf rs i0)[q]? = some j → p < q → i < j
  | [], i0, p, q, i, j, h, _, _ => by simp [actsOf] at h
  | x :: rs, i0, p, q, i, j, h, k, hpq => by
    have low : ∀ {rs : List Rec} {i0 : Nat} {p i : Nat}, (actsOf rs i0)[p]? = some i → i0 ≤ i := by
      intro rs
      induction rs with
      | nil => intro i0 p i h; simp [actsOf] at h
      | cons y rs ih =>
        intro i0 p i h
        simp only [actsOf] at h
        cases hy : y.acts with
        | true =>
          rw [hy, cond_true] at h
          cases p with
          | zero => simp at h; omega
          | succ p => have := ih (i0 := i0 + 1) (p := p) (i := i) (by simpa using h); omega
        | false => rw [hy, cond_false] at h; have := ih h; omega
    simp only [actsOf] at h k
    cases hx : x.acts with
    | true =>
      rw [hx, cond_true] at h k
      cases q with
      | zero => omega
      | succ q =>
        have k' : (actsOf rs (i0 + 1))[q]? = some j := by simpa using k
        cases p with
        | zero => simp at h; have := low k'; omega
        | succ p => exact actsOf_lt (by simpa using h) k' (by omega)
    | false => rw [hx, cond_false] at h k; exact actsOf_lt h k hpq
/-- if nothing acts, memory stays -/
theorem Chain.still (h : Chain P pt call round nt ops l T W T' W' rs) : ∀ i0, actsOf rs i0 = [] → W' = W ∧ ∀ (j : Nat) (r : Rec), rs[j]? = some r → r.W = W := by
  induction h with
  | nil => intro i0 _; exact ⟨rfl, fun j r e => by simp at e⟩
  | @done o rest T T1 T' W W1 W' v rs hw ho ht c ih =>
    intro i0 e
    simp only [actsOf] at e
    cases hacts : actsB pt T o.op with
    | true => rw [hacts] at e; cases e
    | false =>
      rw [hacts, cond_false] at e
      have hW := (oneOp_light hacts ho).1
      subst hW
      obtain ⟨a, b⟩ := ih _ e
      refine ⟨a, fun j r e => ?_⟩
      cases j with
      | zero => simp at e; subst e; rfl
      | succ j => exact b j r (by simpa using e)
  | @skip o rest T T1 T' W W' rs hw ht c ih =>
    intro i0 e
    simp only [actsOf, cond_false] at e
    obtain ⟨a, b⟩ := ih _ e
    refine ⟨a, fun j r e => ?_⟩
    cases j with
    | zero => simp at e; subst e; rfl
    | succ j => exact b j r (by simpa using e)
end
end Go.Proofs.YtcpafphgkbfahaaGreat
