/- An evaluator of closed runs: operations that ask nothing of memory. -/
import Derived.IntWalk
import Derived.Test.YtcpafphgkbfahaaGreatEvD
namespace Go.Proofs.YtcpafphgkbfahaaGreat
open Go Go.RowKit

variable {P : Program} {φ : Emb}
theorem run_isAgg' {t : TypeId} {d : TypeDesc} (h : P.underlying t = some d) (w : World) : (isAgg t).run P w = .ok (aggB d) w := by
  unfold isAgg
  rw [Sem.run_bind, run_underlying h]
  cases d <;> rfl
theorem arr_get {a b : Array Value} (h : LRel φ a.toList b.toList) {j : Nat} {x : Value} (e : a[j]? = some x) : ∃ y, b[j]? = some y ∧ VRel φ x y := by
  obtain ⟨y, p, q⟩ := h.get (j := j) (x := x) (by simpa using e)
  exact ⟨y, by simpa using p, q⟩
theorem arr_extract {a b : Array Value} (h : LRel φ a.toList b.toList) (s e : Nat) : LRel φ (a.extract s e).toList (b.extract s e).toList := by
  have hs : a.size = b.size := by simpa using h.1
  refine LRel.of_array (by simp [hs]) (fun j x y p q => ?_)
  rw [Array.getElem?_extract] at p q
  rw [hs] at p
  split at p
  · rename_i hlt
    rw [if_pos hlt] at q
    exact h.2 (s + j) x y (by simpa using p) (by simpa using q)
  · cases p
theorem part_ok {t : TypeId} {cs cs' : Array Value} {off : Nat} {v : Value} (h : apart' P t cs off = some v) (r : LRel φ cs.toList cs'.toList) (w : World) :
    ∃ v', (part t cs' off).run P w = .ok v' w ∧ VRel φ v v' := by
  unfold apart' at h
  split at h
  · rename_i d i hd hi
    unfold part
    rw [Sem.run_bind, run_isAgg' hd]
    simp only [Result.andThen_ok]
    cases ha : aggB d with
    | true =>
      rw [ha] at h; simp only [cond_true, Option.some.injEq] at h; subst h
      refine ⟨.agg (cs'.extract off (off + i.size)), by simp [run_sz hi], VRel.agg_list (arr_extract r _ _)⟩
    | false =>
      rw [ha] at h; simp only [cond_false] at h
      obtain ⟨y, p, q⟩ := arr_get r h
      exact ⟨y, by simp [p], q⟩
  · cases h

/-! ### numbers -/
theorem wrapF_eq (k : IntKind) (n : Int) : wrapF k n = k.wrap n := by
  unfold wrapF
  split
  · rename_i m
    cases h : Nat.ble m 9223372036854775807 with
    | false => rw [cond_false]
    | true =>
      have := Nat.le_of_ble_eq_true h
      exact (IntWalk.i64_in (m : Int) ⟨by omega, by omega⟩).symm
  · rename_i m
    cases h : Nat.ble m 9223372036854775807 with
    | false => rw [cond_false]
    | true =>
      have := Nat.le_of_ble_eq_true h
      have e : Int.negSucc m = -((m : Int) + 1) := Int.negSucc_eq m
      exact (IntWalk.i64_in (Int.negSucc m) (by rw [e]; exact ⟨by omega, by omega⟩)).symm
  · rfl
theorem nat_beq_eq (a b : Nat) : Nat.beq a b = decide (a = b) := by
  cases h : Nat.beq a b with
  | true => simp [Nat.eq_of_beq_eq_true h]
  | false => have := Nat.ne_of_beq_eq_false h; simp [this]
theorem nat_ble_eq (a b : Nat) : Nat.ble a b = decide (a ≤ b) := by
  by_cases h : a ≤ b
  · rw [Nat.ble_eq_true_of_le h]; simp [h]
  · cases e : Nat.ble a b with
    | true => exact absurd (Nat.le_of_ble_eq_true e) h
    | false => simp [h]
theorem nat_blt_eq (a b : Nat) : Nat.blt a b = decide (a < b) := by
  unfold Nat.blt
  rw [nat_ble_eq]; rfl
theorem ilt_eq (a b : Int) : ilt a b = decide (a < b) := by
  cases a with
  | ofNat a => cases b with
    | ofNat b => rw [ilt, nat_blt_eq, Bool.eq_iff_iff]; simp
    | negSucc b => rw [ilt, Bool.eq_iff_iff]; simp; omega
  | negSucc a => cases b with
    | ofNat b => rw [ilt, Bool.eq_iff_iff]; simp; omega
    | negSucc b => rw [ilt, nat_blt_eq, Bool.eq_iff_iff, decide_eq_true_iff, decide_eq_true_iff]; omega
theorem ieq_eq (a b : Int) : ieq a b = decide (a = b) := by
  cases a with
  | ofNat a => cases b with
    | ofNat b => rw [ieq, nat_beq_eq, Bool.eq_iff_iff, decide_eq_true_iff, decide_eq_true_iff]; exact Int.ofNat_inj.symm
    | negSucc b => rw [ieq, Bool.eq_iff_iff] <;> simp
  | negSucc a => cases b with
    | ofNat b => rw [ieq, Bool.eq_iff_iff] <;> simp
    | negSucc b => rw [ieq, nat_beq_eq, Bool.eq_iff_iff, decide_eq_true_iff, decide_eq_true_iff]; omega
theorem aIntBin_ok {op : BinOp} {k : IntKind} {a b : Int} {v : Value} (h : aIntBin P op k a b = some v) (hs : op ≠ .shl ∧ op ≠ .shr) (t : TypeId) (w : World) : (binOp op t (.int k a) (.int k b)).run P w = .ok v w ∧ Ground v := by
  have gi : ∀ (k : IntKind) (n : Int), Ground (.int k n) := fun k n => ground_of 0 _ rfl
  have gb : ∀ b, Ground (.bool b) := fun b => ground_of 0 _ rfl
  cases op with
  | add => simp only [aIntBin, wrapF_eq, Option.some.injEq] at h; subst h; exact ⟨by simp [binOp, Op.intArith], gi _ _⟩
  | sub => simp only [aIntBin, wrapF_eq, Option.some.injEq] at h; subst h; exact ⟨by simp [binOp, Op.intArith], gi _ _⟩
  | mul => simp only [aIntBin, wrapF_eq, Option.some.injEq] at h; subst h; exact ⟨by simp [binOp, Op.intArith], gi _ _⟩
  | quo => simp only [aIntBin] at h; have := runG_run h w; exact ⟨by simpa [binOp] using this.1, this.2⟩
  | rem => simp only [aIntBin] at h; have := runG_run h w; exact ⟨by simpa [binOp] using this.1, this.2⟩
  | and => simp only [aIntBin] at h; have := runG_run h w; exact ⟨by simpa [binOp] using this.1, this.2⟩
  | or => simp only [aIntBin] at h; have := runG_run h w; exact ⟨by simpa [binOp] using this.1, this.2⟩
  | xor => simp only [aIntBin] at h; have := runG_run h w; exact ⟨by simpa [binOp] using this.1, this.2⟩
  | andNot => simp only [aIntBin] at h; have := runG_run h w; exact ⟨by simpa [binOp] using this.1, this.2⟩
  | shl => exact absurd rfl hs.1
  | shr => exact absurd rfl hs.2
  | eql => simp only [aIntBin, ieq_eq, Option.some.injEq] at h; subst h; exact ⟨by simp [binOp, Op.intCmp]; rw [Bool.eq_iff_iff]; simp, gb _⟩
  | neq => simp only [aIntBin, ieq_eq, Option.some.injEq] at h; subst h; exact ⟨by simp [binOp, Op.intCmp]; rw [Bool.eq_iff_iff]; simp, gb _⟩
  | lss => simp only [aIntBin, ilt_eq, Option.some.injEq] at h; subst h; exact ⟨by simp [binOp, Op.intCmp], gb _⟩
  | leq => simp only [aIntBin, ilt_eq, Option.some.injEq] at h; subst h; exact ⟨by simp [binOp, Op.intCmp]; rw [Bool.eq_iff_iff]; simp, gb _⟩
  | gtr => simp only [aIntBin, ilt_eq, Option.some.injEq] at h; subst h; exact ⟨by simp [binOp, Op.intCmp], gb _⟩
  | geq => simp only [aIntBin, ilt_eq, Option.some.injEq] at h; subst h; exact ⟨by simp [binOp, Op.intCmp]; rw [Bool.eq_iff_iff]; simp, gb _⟩
theorem eqGuard_int (op : BinOp) (t : TypeId) (x y : Operand) (k k' : IntKind) (m n : Int) (w : World) : (eqGuard op t x y (.int k m) (.int k' n)).run P w = .ok () w := by
  cases op <;> simp [eqGuard]
theorem equal_nil {t : TypeId} {d : TypeDesc} (hd : P.underlying t = some d) {a b a' b' : Value} {r : Bool} (h : aNil d a b = some r) (ra : VRel φ a a') (rb : VRel φ b b') (w : World) :
    (Op.equal t a' b').run P w = .ok r w := by
  have hm : Op.maxDepth = 9999 + 1 := rfl
  rw [Op.equal, hm, Op.equalIn, Sem.run_bind, run_underlying hd]
  simp only [Result.andThen_ok]
  unfold aNil at h
  split at h
  · cases ra; simp only [Option.some.injEq] at h; subst h
    cases rb <;> simp
  · cases ra; cases rb; simp only [Option.some.injEq] at h; subst h; simp
  · cases ra; simp only [Option.some.injEq] at h; subst h
    cases rb <;> simp
  · cases rb; simp only [Option.some.injEq] at h; subst h
    cases ra <;> simp
  · cases ra; simp only [Option.some.injEq] at h; subst h
    cases rb <;> simp
  · cases rb; simp only [Option.some.injEq] at h; subst h
    cases ra <;> simp
  · cases ra; simp only [Option.some.injEq] at h; subst h
    cases rb <;> simp
  · cases rb; simp only [Option.some.injEq] at h; subst h
    cases ra <;> simp
  · cases ra; simp only [Option.some.injEq] at h; subst h
    cases rb; simp
  · cases rb; simp only [Option.some.injEq] at h; subst h
    cases ra; simp
  · cases h
end Go.Proofs.YtcpafphgkbfahaaGreat
