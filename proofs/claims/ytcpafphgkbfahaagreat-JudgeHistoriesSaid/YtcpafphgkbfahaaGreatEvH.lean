/- An evaluator of closed runs: plain operations as the machine carries them out; readings. -/
import Derived.Test.YtcpafphgkbfahaaGreatEvG
namespace Go.Proofs.YtcpafphgkbfahaaGreat
open Go Go.RowKit

variable {P : Program} {φ : Emb}
theorem optB {α β : Type} {x : Option α} {f : α → Option β} {v : β} (h : x.bind f = some v) : ∃ y, x = some y ∧ f y = some v := by
  cases x with
  | none => cases h
  | some y => exact ⟨y, rfl, h⟩
theorem toList_one {α : Type} {a : Array α} {x : α} (h : a.toList = [x]) : a = #[x] := Array.ext' (by simpa using h)
theorem pMinMax_ok {T : Tr Value} {a : Act} (hT : TRel φ T a.tmps) {f : Array Value → Sem Value} {args : Array Operand} {v : Value} (h : pMinMax P T f args = some v) (w : World) : Vals P φ (f (args.map a.eval)) w v := by
  unfold pMinMax at h
  split at h
  · rename_i vs hvs
    obtain ⟨h1, h2⟩ := bif_some h
    have r := aevs_rel hT hvs
    have e := all_ground_eq h1 r
    have e2 : args.map a.eval = vs.toArray := Array.ext' (by simp [e])
    rw [e2]
    have := runG_run h2 w
    exact ⟨v, this.1, this.2.1 φ⟩
  · cases h
theorem pCap_ok {T : Tr Value} {a : Act} (hT : TRel φ T a.tmps) {args : Array Operand} {argTypes : Array TypeId} {type : TypeId} {v : Value} (h : pCap P T args argTypes = some v) (w : World) : Vals P φ (Builtin.cap_ argTypes type (args.map a.eval)) w v := by
  unfold pCap at h
  split at h
  · rename_i e x ht hx
    obtain ⟨t, h0, h1⟩ := optB ht
    rw [toList_one hx]
    split at h
    · rename_i n hv
      cases h
      have r := aev_rel hT hv
      generalize hq : a.eval x = q at r
      cases r
      exact ⟨.int .i64 n, by simp [Builtin.cap_, h0, run_underlying h1, goInt, hq], .int _ _⟩
    · cases h
  · cases h
theorem pLen_ok {T : Tr Value} {a : Act} (hT : TRel φ T a.tmps) {args : Array Operand} {argTypes : Array TypeId} {type : TypeId} {v : Value} (h : pLen P T args argTypes = some v) (w : World) : Vals P φ (Builtin.len_ argTypes type (args.map a.eval)) w v := by
  unfold pLen at h
  split at h
  · rename_i e x ht hx
    obtain ⟨t, h0, h1⟩ := optB ht
    rw [toList_one hx]
    split at h
    · rename_i b n c hv
      cases h
      have r := aev_rel hT hv
      generalize hq : a.eval x = q at r
      cases r <;> exact ⟨.int .i64 _, by simp [Builtin.len_, h0, run_underlying h1, goInt, hq], .int _ _⟩
    · cases h
  · rename_i x ht hx
    obtain ⟨t, h0, h1⟩ := optB ht
    rw [toList_one hx]
    split at h
    · rename_i s hv
      cases h
      have r := aev_rel hT hv
      generalize hq : a.eval x = q at r
      cases r
      exact ⟨.int .i64 _, by simp [Builtin.len_, h0, run_underlying h1, goInt, hq], .int _ _⟩
    · cases h
  · rename_i n e x ht hx
    obtain ⟨t, h0, h1⟩ := optB ht
    rw [toList_one hx]
    split at h
    · rename_i hv
      cases h
      have r := aev_rel hT hv
      exact ⟨.int .i64 _, by simp [Builtin.len_, h0, run_underlying h1, goInt], .int _ _⟩
    · cases h
  · cases h
theorem pureOp_ok {T : Tr Value} {a : Act} (hT : TRel φ T a.tmps) {o : Oper} {v : Value} (h : pureOp P T o.type o.op = some v) (w : World) :
    ∃ v', (execOp a.eval o).run P w = .ok (.value v') w ∧ VRel φ v v' := by
  obtain ⟨dst, op, type, pos, after, guard⟩ := o
  simp only [] at h
  cases op <;> simp only [pureOp] at h <;> try (cases h; done)
  case move x => exact ⟨a.eval x, rfl, aev_rel hT h⟩
  case assign x => exact ⟨a.eval x, rfl, aev_rel hT h⟩
  case pick c x y =>
    unfold pPick at h
    split at h
    · rename_i hc
      have r := aev_rel hT hc
      generalize hq : a.eval c = q at r
      cases r
      exact ⟨a.eval x, by simp [execOp, hq, asBool], aev_rel hT h⟩
    · rename_i hc
      have r := aev_rel hT hc
      generalize hq : a.eval c = q at r
      cases r
      exact ⟨a.eval y, by simp [execOp, hq, asBool], aev_rel hT h⟩
    · cases h
  case build t parts => exact (pBuild_ok hT h w).next
  case nilCheck x =>
    unfold pNilCheck at h
    split at h <;> first
      | (cases h; done)
      | (rename_i hx
         have r := aev_rel hT hx
         cases h
         generalize hq : a.eval x = q at r
         refine ⟨q, ?_, r⟩
         cases r <;> simp [execOp, hq])
  case binOp op t x y yt =>
    unfold pBin at h
    split at h
    · rename_i u v' hx hy
      exact Vals.next (aBin_ok h (aev_rel hT hx) (aev_rel hT hy) w)
    · cases h
  case unOp op t x =>
    unfold pUn at h
    split at h
    · rename_i b hx
      have r := aev_rel hT hx
      cases h
      generalize hq : a.eval x = q at r
      cases r
      exact ⟨.bool (!b), by simp [execOp, hq, Op.unary], .bool _⟩
    · rename_i k n hx _
      have r := aev_rel hT (‹aev T x = some _›)
      generalize hq : a.eval x = q at r
      cases r
      have := runG_run h w
      exact ⟨v, by simp [execOp, hq, this.1], this.2.1 φ⟩
    · cases h
  case convert src dst x =>
    unfold pConvert at h
    split at h
    · rename_i u hx
      obtain ⟨h1, h2⟩ := bif_some h
      have r := aev_rel hT hx
      have e := groundB_eq h1 r
      have := runG_run h2 w
      exact ⟨v, by simp [execOp, e, this.1], this.2.1 φ⟩
    · cases h
  case makeInterface t x =>
    unfold pIface at h
    split at h
    · cases h
    · rename_i d u hni hd hx
      cases h
      have r := aev_rel hT hx
      refine ⟨.iface t (a.eval x), ?_, .iface t r⟩
      have : (Instr.makeInterface t (a.eval x)).run P w = .ok (.iface t (a.eval x)) w := by
        unfold Instr.makeInterface
        rw [Sem.run_bind, run_underlying hd]
        cases d <;> first | (exact absurd rfl (hni _)) | rfl
      simp [execOp, this]
    · cases h
  case makeFunc fn first captured =>
    unfold pFunc at h
    split at h
    · rename_i x y hx hy
      obtain ⟨h1, h2⟩ := bif_some h
      cases h2
      have r1 := aevs_rel hT hx
      have r2 := aevs_rel hT hy
      refine ⟨.func fn (first.map a.eval) (captured.map a.eval), by simp [execOp, Instr.makeFunc], ?_⟩
      exact .func h1 (by simpa using r1.1) (fun j u u' p q => r1.2 j u u' (by simpa using p) (by simpa using q)) (by simpa using r2.1) (fun j u u' p q => r2.2 j u u' (by simpa using p) (by simpa using q))
    · cases h
  case slice t x lo hi mx => exact (pSlice_ok hT h w).next
  case fieldAddr s x f => exact (pFieldAddr_ok hT h w).next
  case field t x f => exact (pField_ok hT h w).next
  case indexAddr t x i => exact (pIndexAddr_ok hT h w).next
  case index t x i => exact (pIndex_ok hT h w).next
  case typeAssert x xt asserted ok => exact (pAssert_ok hT h w).next
  case extract t ix => exact (pExtract_ok hT h w).next
  case call c =>
    obtain ⟨callee, args, argTypes⟩ := c
    unfold pCall at h
    simp only [] at h
    split at h
    · obtain ⟨v', p1, p2⟩ := pCap_ok (type := type) hT h w
      exact ⟨v', by simp [execOp, resolve, invoke, builtin, p1], p2⟩
    · obtain ⟨v', p1, p2⟩ := pMinMax_ok hT h w
      exact ⟨v', by simp [execOp, resolve, invoke, builtin, p1], p2⟩
    · obtain ⟨v', p1, p2⟩ := pMinMax_ok hT h w
      exact ⟨v', by simp [execOp, resolve, invoke, builtin, p1], p2⟩
    · cases h

/-! ### Reading -/
theorem cells_at {A : AW} {w : World} (h : WRel φ A w) {b : Nat} {cs : Tr Value} (hb : A.cells b = some cs) {i : BI} (hi : φ b = some i) {j : Nat} {v : Value} (e : cs.get j = some v) :
    ∃ v', w.cell? ⟨i.r, i.δ + j, none⟩ = some v' ∧ VRel φ v v' := by
  unfold AW.cells at hb
  split at hb
  · rename_i cs' m hl
    cases hb
    obtain ⟨i', p, c, e', h1, h2, h3⟩ := h.live b _ hl
    have : i' = i := Option.some.inj (p.symm.trans hi)
    subst this
    obtain ⟨v', q1, q2⟩ := h3 j v e
    exact ⟨v', by simp [World.cell?, h1, q1], q2⟩
  · cases hb
theorem loadN_rel {A : AW} {w : World} (h : WRel φ A w) {b : Nat} {cs : Tr Value} (hb : A.cells b = some cs) {i : BI} (hi : φ b = some i) : ∀ {n o : Nat} {vs : List Value}, loadN cs o n = some vs →
    vs.length = n ∧ ∃ vs', LRel φ vs vs' ∧ ∀ j v, vs'[j]? = some v → w.cell? ((⟨i.r, i.δ + o, none⟩ : Addr).add j) = some v
  | 0, o, vs, e => by simp [loadN] at e; subst e; exact ⟨rfl, [], LRel.nil _, fun j v q => by simp at q⟩
  | n + 1, o, vs, e => by
    simp only [loadN] at e
    split at e
    · rename_i v ws h1 h2
      cases e
      obtain ⟨v', p1, p2⟩ := cells_at h hb hi h1
      obtain ⟨hl, vs', q1, q2⟩ := loadN_rel h hb hi h2
      refine ⟨by simp [hl], v' :: vs', LRel.cons p2 q1, fun j u q => ?_⟩
      cases j with
      | zero => simp at q; subst q; rw [add_at]; exact p1
      | succ j =>
        have := q2 j u (by simpa using q)
        rw [add_at] at this ⊢
        rw [← this]; congr 2; omega
    · cases e
theorem load_rel {A : AW} {w : World} (h : WRel φ A w) {b o n : Nat} {sp : Option Nat} {i : BI} (hi : φ b = some i) {vs : List Value} (e : A.load ⟨b, o, sp⟩ n = some vs) :
    ∃ vs', (loadCells ⟨i.r, i.δ + o, none⟩ n).run P w = .ok vs'.toArray w ∧ LRel φ vs vs' ∧ vs.length = n := by
  unfold AW.load at e
  split at e
  · rename_i cs hcs
    obtain ⟨hl, vs', q1, q2⟩ := loadN_rel h hcs hi e
    have := run_loadCells_list (P := P) w ⟨i.r, i.δ + o, none⟩ vs' q2
    rw [← q1.1, hl] at this
    exact ⟨vs', this, q1, hl⟩
  · cases e
theorem loadVar_rel {A : AW} {w : World} (h : WRel φ A w) {t : TypeId} {ad : Addr} {v : Value} (e : A.loadVar P t ad = some v) {p : Value} (hp : VRel φ (.pointer (some ad)) p) :
    ∃ ad' v', p = .pointer (some ad') ∧ (loadVar t ad').run P w = .ok v' w ∧ VRel φ v v' := by
  cases hp with
  | ptr hi =>
    rename_i b o i
    unfold AW.loadVar at e
    split at e
    · rename_i d ti hd hti
      cases ha : aggB d with
      | true =>
        rw [ha] at e; simp only [cond_true] at e
        split at e
        · rename_i vs hvs
          cases e
          obtain ⟨vs', q1, q2, _⟩ := load_rel (P := P) h hi hvs
          refine ⟨_, .agg vs'.toArray, rfl, ?_, VRel.agg_list (by simpa using q2)⟩
          simp [loadVar, run_isAgg' hd, ha, run_sz hti, q1]
        · cases e
      | false =>
        rw [ha] at e; simp only [cond_false] at e
        split at e
        · rename_i v0 hvs
          cases e
          unfold AW.load at hvs
          split at hvs
          · rename_i cs hcs
            simp only [loadN] at hvs
            split at hvs
            · rename_i v1 ws h1 h2
              cases h2; cases hvs
              obtain ⟨v', q1, q2⟩ := cells_at h hcs hi h1
              refine ⟨_, v', rfl, ?_, q2⟩
              simp [loadVar, run_isAgg' hd, ha, q1]
            · cases hvs
          · cases hvs
        · cases e
    · cases e
theorem map_rel {A : AW} {w : World} (h : WRel φ A w) {m : Option Nat} {es : List MapEntry} (e : A.map m = some es) {p : Value} (hp : VRel φ (.map m) p) :
    (m = none ∧ es = [] ∧ p = .map none) ∨ ∃ r es' clock, p = .map (some r) ∧ w.heap[r]? = some (.map es' clock) ∧ ERel φ es es'.toList := by
  unfold AW.map at e
  split at e
  · cases e; cases hp; exact .inl ⟨rfl, rfl, rfl⟩
  · rename_i b
    split at e
    · rename_i es0 clock hl
      cases e
      cases hp with
      | map hi =>
        obtain ⟨i', p, es', h1, h2⟩ := h.live b _ hl
        have : i' = _ := Option.some.inj (p.symm.trans hi)
        subst this
        exact .inr ⟨_, es', clock, rfl, h1, h2⟩
    · cases e
theorem findNow_rel {d : TypeDesc} {k : Value} : ∀ {es es' : List MapEntry} {n : Nat} {r : Option (Nat × Value)}, ERel φ es es' → Instr.findNow d k es n = some r →
    ∃ r', Instr.findNow d k es' n = some r' ∧ (match r, r' with
      | none, none => True
      | some (i, v), some (j, v') => i = j ∧ VRel φ v v' ∧ n ≤ i ∧ i < n + es.length ∧ ∃ e, es[i - n]? = some e ∧ e.val = v
      | _, _ => False)
  | [], es', n, r, h, e => by
    have : es' = [] := by cases es' with
      | nil => rfl
      | cons _ _ => simp [ERel] at h
    subst this
    simp only [Instr.findNow, Option.some.injEq] at e; subst e
    exact ⟨none, rfl, trivial⟩
  | x :: es, es', n, r, h, e => by
    cases es' with
    | nil => simp [ERel] at h
    | cons y es' =>
      have hxy := h.2 0 x y rfl rfl
      have ht : ERel φ es es' := ⟨by simpa using h.1, fun j u v p q => h.2 (j + 1) u v (by simpa using p) (by simpa using q)⟩
      simp only [Instr.findNow] at e ⊢
      rw [hxy.key]
      split at e
      · rename_i hs
        cases e
        exact ⟨some (n, y.val), rfl, rfl, hxy.val, Nat.le_refl _, by simp, x, by simp, rfl⟩
      · rename_i hs
        obtain ⟨r', p, q⟩ := findNow_rel ht e
        refine ⟨r', p, ?_⟩
        cases r with
        | none => cases r' with
          | none => trivial
          | some _ => exact q
        | some u => cases r' with
          | none => exact q
          | some u' =>
            obtain ⟨q1, q2, q3, q4, e1, q5, q6⟩ := q
            exact ⟨q1, q2, by omega, by simp; omega, e1, by rw [show u.1 - n = u.1 - (n + 1) + 1 by omega]; simpa using q5, q6⟩
      · cases e
theorem askKey_rel {kt : TypeId} {k : Value} (w : World) : ∀ {es es' : List MapEntry} {n : Nat} {r : Option (Nat × Value)}, ERel φ es es' → askKey P kt k es n = some r →
    ∃ r', (Instr.findAsking kt k es' n).run P w = .ok r' w ∧ (match r, r' with
      | none, none => True
      | some (i, v), some (j, v') => i = j ∧ VRel φ v v' ∧ n ≤ i ∧ i < n + es.length ∧ ∃ e, es[i - n]? = some e ∧ e.val = v
      | _, _ => False)
  | [], es', n, r, h, e => by
    have : es' = [] := by cases es' with
      | nil => rfl
      | cons _ _ => simp [ERel] at h
    subst this
    simp only [askKey, Option.some.injEq] at e; subst e
    exact ⟨none, by simp [Instr.findAsking], trivial⟩
  | x :: es, es', n, r, h, e => by
    cases es' with
    | nil => simp [ERel] at h
    | cons y es' =>
      have hxy := h.2 0 x y rfl rfl
      have ht : ERel φ es es' := ⟨by simpa using h.1, fun j u v p q => h.2 (j + 1) u v (by simpa using p) (by simpa using q)⟩
      simp only [askKey] at e
      simp only [Instr.findAsking, Sem.run_bind, hxy.key]
      split at e
      · rename_i hs
        cases e
        rw [runPure_run hs w]
        exact ⟨some (n, y.val), by simp, rfl, hxy.val, Nat.le_refl _, by simp, x, by simp, rfl⟩
      · rename_i hs
        rw [runPure_run hs w]
        obtain ⟨r', p, q⟩ := askKey_rel w ht e
        refine ⟨r', by simpa using p, ?_⟩
        cases r with
        | none => cases r' with
          | none => trivial
          | some _ => exact q
        | some u => cases r' with
          | none => exact q
          | some u' =>
            obtain ⟨q1, q2, q3, q4, e1, q5, q6⟩ := q
            exact ⟨q1, q2, by omega, by simp; omega, e1, by rw [show u.1 - n = u.1 - (n + 1) + 1 by omega]; simpa using q5, q6⟩
      · cases e
end Go.Proofs.YtcpafphgkbfahaaGreat
