/- An evaluator of closed runs: memories that stand for each other, and what keeps them so. -/
import Derived.Test.YtcpafphgkbfahaaGreatEvC
namespace Go.Proofs.YtcpafphgkbfahaaGreat
open Go Go.RowKit

def TRel (φ : Emb) (T : Tr Value) (a : Array Value) : Prop := ∀ t v, T.get t = some v → ∃ v', a[t]? = some v' ∧ VRel φ v v'
theorem TRel.mono {φ ψ : Emb} (h : Ext φ ψ) {T : Tr Value} {a : Array Value} (r : TRel φ T a) : TRel ψ T a := fun t v e => let ⟨v', e', k⟩ := r t v e; ⟨v', e', k.mono h⟩
structure EntRel (φ : Emb) (e e' : MapEntry) : Prop where
  key : e'.key = e.key
  ground : Ground e.key
  born : e'.born = e.born
  val : VRel φ e.val e'.val
def ERel (φ : Emb) (es es' : List MapEntry) : Prop := es.length = es'.length ∧ ∀ (j : Nat) (x y : MapEntry), es[j]? = some x → es'[j]? = some y → EntRel φ x y
theorem ERel.mono {φ ψ : Emb} (h : Ext φ ψ) {es es' : List MapEntry} (r : ERel φ es es') : ERel ψ es es' :=
  ⟨r.1, fun j x y e f => let k := r.2 j x y e f; ⟨k.key, k.ground, k.born, k.val.mono h⟩⟩
def MRel (φ : Emb) : Option Nat → Option Nat → Prop
  | none, none => True
  | some b, some r => ∃ i, φ b = some i ∧ i.r = r
  | _, _ => False
theorem MRel.mono {φ ψ : Emb} (h : Ext φ ψ) {a b : Option Nat} (r : MRel φ a b) : MRel ψ a b := by
  cases a <;> cases b <;> first | exact r | (obtain ⟨i, e, q⟩ := r; exact ⟨i, h _ _ e, q⟩)
def AObj.mate : AObj → Option Nat
  | .cells _ m => m
  | _ => none
def ObjAt (φ : Emb) (w : World) (i : BI) : AObj → Prop
  | .cells cs _ => ∃ c e, w.heap[i.r]? = some (.cells c e (0, 0)) ∧ c.size = i.sz ∧ ∀ j v, cs.get j = some v → ∃ v', c[i.δ + j]? = some v' ∧ VRel φ v v'
  | .map es clock => ∃ es' : Array MapEntry, w.heap[i.r]? = some (.map es' clock) ∧ ERel φ es es'.toList
  | .iter m since seen last => ∃ m', w.heap[i.r]? = some (.mapIter m' since seen.toArray last) ∧ MRel φ m m' ∧ i.δ = 0
  | .loop st p T nt ps a b d => ∃ T' fn d', w.heap[i.r]? = some (.loop { state := st, pending := p, fn := fn, tmps := T', params := ps, assign := a, body := b, defers := d' }) ∧ T'.size = nt ∧ TRel φ T T' ∧ MRel φ (some d) (some d')
  | .marks => w.heap[i.r]? = some (.deferred (some []))
theorem ObjAt.mono {φ ψ : Emb} {w w' : World} {i : BI} {o : AObj} (h : Ext φ ψ) (hw : w'.heap[i.r]? = w.heap[i.r]?) (r : ObjAt φ w i o) : ObjAt ψ w' i o := by
  cases o with
  | cells cs m => obtain ⟨c, e, h1, h2, h3⟩ := r; exact ⟨c, e, hw.trans h1, h2, fun j v q => let ⟨v', e', k⟩ := h3 j v q; ⟨v', e', k.mono h⟩⟩
  | map es clock => obtain ⟨es', h1, h2⟩ := r; exact ⟨es', hw.trans h1, h2.mono h⟩
  | iter m since seen last => obtain ⟨m', h1, h2, h3⟩ := r; exact ⟨m', hw.trans h1, h2.mono h, h3⟩
  | loop st p T nt ps a b d => obtain ⟨T', fn, d', h1, h2, h3, h4⟩ := r; exact ⟨T', fn, d', hw.trans h1, h2, h3.mono h, h4.mono h⟩
  | marks => exact hw.trans r
structure WRel (φ : Emb) (A : AW) (w : World) : Prop where
  dom : ∀ b i, φ b = some i → b < A.size
  real : ∀ b i, φ b = some i → i.r < w.heap.size
  live : ∀ b o, A.heap.get b = some o → ∃ i, φ b = some i ∧ ObjAt φ w i o
  sep : ∀ b1 b2 o1 o2 i1 i2, A.heap.get b1 = some o1 → A.heap.get b2 = some o2 → φ b1 = some i1 → φ b2 = some i2 → i1.r = i2.r → b1 ≠ b2 → o1.mate = some b2
structure WStep (φ : Emb) (w : World) (ψ : Emb) (w' : World) : Prop where
  os : w'.os = w.os
  tape : w'.tape = w.tape
  output : w'.output = w.output
  size : w.heap.size ≤ w'.heap.size
  ext : Ext φ ψ
  fresh : ∀ b i, ψ b = some i → φ b = some i ∨ w.heap.size ≤ i.r ∨ ∃ b0 i0, φ b0 = some i0 ∧ i0.r = i.r
  frame : ∀ r, r < w.heap.size → (∀ b i, φ b = some i → i.r ≠ r) → w'.heap[r]? = w.heap[r]?
theorem WStep.refl (φ : Emb) (w : World) : WStep φ w φ w := ⟨rfl, rfl, rfl, Nat.le_refl _, Ext.refl _, fun _ _ h => .inl h, fun _ _ _ => rfl⟩
theorem WStep.trans {φ ψ χ : Emb} {a b c : World} (h : WStep φ a ψ b) (k : WStep ψ b χ c) : WStep φ a χ c where
  os := k.os.trans h.os
  tape := k.tape.trans h.tape
  output := k.output.trans h.output
  size := Nat.le_trans h.size k.size
  ext := h.ext.trans k.ext
  fresh := fun x i e => by
    rcases k.fresh x i e with e1 | e1 | ⟨b0, i0, e1, e2⟩
    · exact h.fresh x i e1
    · exact .inr (.inl (Nat.le_trans h.size e1))
    · rcases h.fresh b0 i0 e1 with e3 | e3 | ⟨b1, i1, e3, e4⟩
      · exact .inr (.inr ⟨b0, i0, e3, e2⟩)
      · exact .inr (.inl (e2 ▸ e3))
      · exact .inr (.inr ⟨b1, i1, e3, e4.trans e2⟩)
  frame := fun r hr hn => (k.frame r (Nat.lt_of_lt_of_le hr h.size) (fun b i e => by
    rcases h.fresh b i e with e1 | e1 | ⟨b0, i0, e1, e2⟩
    · exact hn b i e1
    · omega
    · exact e2 ▸ hn b0 i0 e1)).trans (h.frame r hr hn)
theorem WStep.below {w : World} {ψ : Emb} {w' : World} (h : WStep (fun _ => none) w ψ w') : Below w.heap.size w w' :=
  ⟨h.os, h.tape, h.output, h.size, fun r hr => h.frame r hr (fun _ _ e => by cases e)⟩
theorem WRel.start (w : World) : WRel (fun _ => none) ⟨.nil, 0⟩ w :=
  ⟨fun _ _ h => (by cases h), fun _ _ h => (by cases h), fun _ _ h => (by cases h), fun _ _ _ _ _ _ h => (by cases h)⟩
/-- the same blocks: a draw -/
theorem WRel.heap {φ : Emb} {A : AW} {w w' : World} (h : WRel φ A w) (hh : w'.heap = w.heap) : WRel φ A w' :=
  ⟨h.dom, fun b i e => hh ▸ h.real b i e, fun b o e => let ⟨i, p, q⟩ := h.live b o e; ⟨i, p, q.mono (Ext.refl _) (by rw [hh])⟩, h.sep⟩
theorem WStep.heap (φ : Emb) {w w' : World} (hh : w'.heap = w.heap) (h1 : w'.os = w.os) (h2 : w'.tape = w.tape) (h3 : w'.output = w.output) : WStep φ w φ w' :=
  ⟨h1, h2, h3, by rw [hh]; exact Nat.le_refl _, Ext.refl _, fun _ _ h => .inl h, fun _ _ _ => by rw [hh]⟩
def Emb.put (φ : Emb) (b : Nat) (i : BI) : Emb := fun x => if x = b then some i else φ x
theorem Emb.put_same (φ : Emb) (b : Nat) (i : BI) : φ.put b i b = some i := by simp [Emb.put]
theorem Emb.put_ext {φ : Emb} {b : Nat} (i : BI) (h : φ b = none) : Ext φ (φ.put b i) := fun x j e => by
  unfold Emb.put
  split
  · rename_i h0; subst h0; rw [h] at e; cases e
  · exact e
theorem WRel.noNew {φ : Emb} {A : AW} {w : World} (h : WRel φ A w) : φ A.size = none := by
  cases e : φ A.size with
  | none => rfl
  | some i => exact absurd (h.dom _ _ e) (Nat.lt_irrefl _)
theorem alloc_get (A : AW) (o : AObj) (b : Nat) : (A.alloc o).heap.get b = if b = A.size then some o else A.heap.get b := Tr.get_put _ _ _ _
theorem set_get (A : AW) (b : Nat) (o : Option AObj) (x : Nat) : (A.set b o).heap.get x = if x = b then o else A.heap.get x := Tr.get_put _ _ _ _
/-- a new block -/
theorem WRel.alloc {φ : Emb} {A : AW} {w : World} (h : WRel φ A w) (o : AObj) (o' : Obj) (sz es : Nat)
    (ho : ∀ ψ w', Ext φ ψ → w'.heap[w.heap.size]? = some o' → ObjAt ψ w' ⟨w.heap.size, 0, sz, es⟩ o) :
    WRel (φ.put A.size ⟨w.heap.size, 0, sz, es⟩) (A.alloc o) (w.alloc o') ∧ WStep φ w (φ.put A.size ⟨w.heap.size, 0, sz, es⟩) (w.alloc o') := by
  have hx : Ext φ (φ.put A.size ⟨w.heap.size, 0, sz, es⟩) := Emb.put_ext _ h.noNew
  have hnew : (w.alloc o').heap[w.heap.size]? = some o' := by show (w.heap.push o')[w.heap.size]? = _; simp
  refine ⟨⟨fun b i e => ?_, fun b i e => ?_, fun b o1 e => ?_, ?_⟩, ⟨rfl, rfl, rfl, by simp, hx, fun b i e => ?_, fun r hr _ => Below.heap_alloc w o' r hr⟩⟩
  · unfold Emb.put at e
    show b < A.size + 1
    split at e
    · omega
    · have := h.dom b i e; omega
  · unfold Emb.put at e
    split at e
    · cases e; simp
    · have := h.real b i e; simp; omega
  · rw [alloc_get] at e
    split at e
    · rename_i hb; cases e; subst hb
      exact ⟨_, Emb.put_same _ _ _, ho _ _ hx hnew⟩
    · obtain ⟨i, p, q⟩ := h.live b o1 e
      exact ⟨i, hx _ _ p, q.mono hx (Below.heap_alloc w o' _ (h.real _ _ p))⟩
  · intro b1 b2 o1 o2 i1 i2 e1 e2 p1 p2 hr hne
    rw [alloc_get] at e1 e2
    unfold Emb.put at p1 p2
    split at e1
    · rename_i hb1
      rw [if_pos hb1] at p1
      cases p1
      split at e2
      · omega
      · rename_i hb2
        rw [if_neg hb2] at p2
        have := h.real _ _ p2
        simp at hr; omega
    · rename_i hb1
      rw [if_neg hb1] at p1
      split at e2
      · rename_i hb2
        rw [if_pos hb2] at p2
        cases p2
        have := h.real _ _ p1
        simp at hr; omega
      · rename_i hb2
        rw [if_neg hb2] at p2
        exact h.sep b1 b2 o1 o2 i1 i2 e1 e2 p1 p2 hr hne
  · unfold Emb.put at e
    split at e
    · cases e; exact .inr (.inl (Nat.le_refl _))
    · exact .inl e
/-- what is known of a block is given up -/
theorem WRel.kill {φ : Emb} {A : AW} {w : World} (h : WRel φ A w) (b : Nat) : WRel φ (A.set b none) w := by
  refine ⟨h.dom, h.real, fun x o e => ?_, fun b1 b2 o1 o2 i1 i2 e1 e2 => ?_⟩
  · rw [set_get] at e; split at e
    · cases e
    · exact h.live x o e
  · rw [set_get] at e1 e2
    split at e1
    · cases e1
    · split at e2
      · cases e2
      · exact h.sep b1 b2 o1 o2 i1 i2 e1 e2
/-- one block is turned: no other that is known lies in its place -/
theorem WRel.turn {φ : Emb} {A : AW} {w w' : World} (h : WRel φ A w) {b : Nat} {i : BI} {o2 : AObj} (hb : φ b = some i)
    (hone : ∀ b2 o3 i2, A.heap.get b2 = some o3 → φ b2 = some i2 → b2 ≠ b → i2.r ≠ i.r)
    (hw : ∀ r, r ≠ i.r → w'.heap[r]? = w.heap[r]?) (hs : w'.heap.size = w.heap.size) (ho : ObjAt φ w' i o2)
    (h1 : w'.os = w.os) (h2 : w'.tape = w.tape) (h3 : w'.output = w.output) :
    WRel φ (A.set b (some o2)) w' ∧ WStep φ w φ w' := by
  refine ⟨⟨h.dom, fun x j e => hs ▸ h.real x j e, fun x o3 e => ?_, fun b1 b2 o1 o3 i1 i2 e1 e2 p1 p2 hr hne => ?_⟩, ⟨h1, h2, h3, by omega, Ext.refl _, fun _ _ e => .inl e, fun r _ hn => hw r (fun e => hn b i hb e.symm)⟩⟩
  · rw [set_get] at e; split at e
    · rename_i hx; cases e; subst hx; exact ⟨i, hb, ho⟩
    · rename_i hx
      obtain ⟨j, p, q⟩ := h.live x o3 e
      exact ⟨j, p, q.mono (Ext.refl _) (hw _ (hone x o3 j e p hx))⟩
  · rw [set_get] at e1 e2
    split at e1
    · rename_i hx; subst hx
      rw [hb] at p1; cases p1
      split at e2
      · rename_i hy; exact absurd hy.symm hne
      · rename_i hy
        exact absurd hr.symm (hone b2 o3 i2 e2 p2 hy)
    · rename_i hx
      split at e2
      · rename_i hy; subst hy
        rw [hb] at p2; cases p2
        exact absurd hr (hone b1 o1 i1 e1 p1 hx)
      · exact h.sep b1 b2 o1 o3 i1 i2 e1 e2 p1 p2 hr hne
/-- a block without a mate lies alone -/
theorem WRel.alone {φ : Emb} {A : AW} {w : World} (h : WRel φ A w) {b : Nat} {i : BI} {o : AObj} (hl : A.heap.get b = some o) (hb : φ b = some i) (hm : o.mate = none) :
    ∀ b2 o3 i2, A.heap.get b2 = some o3 → φ b2 = some i2 → b2 ≠ b → i2.r ≠ i.r := by
  intro b2 o3 i2 e p hne hr
  have := h.sep b b2 o o3 i i2 hl e hb p hr.symm (Ne.symm hne)
  rw [hm] at this; cases this
/-- a block whose mate is given up lies alone -/
theorem WRel.alone_kill {φ : Emb} {A : AW} {w : World} (h : WRel φ A w) {b m : Nat} {i : BI} {o : AObj} (hl : A.heap.get b = some o) (hb : φ b = some i) (hm : o.mate = some m) :
    ∀ b2 o3 i2, (A.set m none).heap.get b2 = some o3 → φ b2 = some i2 → b2 ≠ b → i2.r ≠ i.r := by
  intro b2 o3 i2 e p hne hr
  rw [set_get] at e
  split at e
  · cases e
  · rename_i hx
    have := h.sep b b2 o o3 i i2 hl e hb p hr.symm (Ne.symm hne)
    rw [hm] at this; cases this; exact hx rfl

/-! ### What is plain -/
theorem runPure_run {P : Program} {α : Type} {s : Sem α} {a : α} (h : runPure P s = some a) (w : World) : s.run P w = .ok a w := by
  induction s with
  | pure b => simp [runPure] at h; subst h; rfl
  | program k ih => simp only [runPure] at h; simp only [Sem.run]; exact ih P h
  | _ => simp [runPure] at h
theorem runG_run {P : Program} {s : Sem Value} {v : Value} (h : runG P s = some v) (w : World) : s.run P w = .ok v w ∧ Ground v := by
  unfold runG at h
  split at h
  · rename_i u hu
    cases hg : groundB 8 u with
    | false => rw [hg] at h; cases h
    | true => rw [hg] at h; simp at h; subst h; exact ⟨runPure_run hu w, ground_of 8 _ hg⟩
  · cases h
theorem aev_rel {φ : Emb} {T : Tr Value} {a : Act} (hT : TRel φ T a.tmps) {x : Operand} {v : Value} (h : aev T x = some v) : VRel φ v (a.eval x) := by
  cases x with
  | tmp t =>
    obtain ⟨v', e, r⟩ := hT t v h
    have : a.eval (.tmp t) = v' := by simp [Act.eval, Array.getD_eq_getD_getElem?, e]
    rw [this]; exact r
  | const c =>
    simp only [aev] at h
    cases hg : groundB 8 c with
    | false => rw [hg] at h; cases h
    | true => rw [hg] at h; simp at h; subst h; exact (ground_of 8 c hg).1 φ
  | global g => cases h
  | func f => simp [aev] at h; subst h; exact .func rfl rfl (fun j x y e => by simp at e) rfl (fun j x y e => by simp at e)
theorem aevs_rel {φ : Emb} {T : Tr Value} {a : Act} (hT : TRel φ T a.tmps) : ∀ {xs : List Operand} {vs : List Value}, aevs T xs = some vs → LRel φ vs (xs.map a.eval)
  | [], vs, h => by simp [aevs] at h; subst h; exact LRel.nil _
  | x :: xs, vs, h => by
    simp only [aevs] at h
    split at h
    · rename_i v ws h1 h2
      cases h
      exact LRel.cons (aev_rel hT h1) (aevs_rel hT h2)
    · cases h
theorem groundB_eq {φ : Emb} {n : Nat} {v v' : Value} (h : groundB n v = true) (r : VRel φ v v') : v' = v := (ground_of n v h).2 φ v' r
theorem all_ground_eq {φ : Emb} {n : Nat} : ∀ {vs vs' : List Value}, vs.all (groundB n) = true → LRel φ vs vs' → vs' = vs
  | [], vs', _, r => r.nil_inv
  | v :: vs, vs', h, r => by
    obtain ⟨y, b', rfl, h1, h2⟩ := r.cons_inv
    simp at h
    rw [groundB_eq h.1 h1, all_ground_eq (by simpa using h.2) h2]
theorem run_ti {P : Program} {t : TypeId} {i : TypeInfo} (h : P.info? t = some i) (w : World) : (typeInfo t).run P w = .ok i w := by simp [typeInfo, h]
theorem run_sz {P : Program} {t : TypeId} {i : TypeInfo} (h : P.info? t = some i) (w : World) : (sizeOf t).run P w = .ok i.size w := by simp [sizeOf, run_ti h]
theorem zeroOf_run {P : Program} {t : TypeId} {z : Value} (h : zeroOf P t = some z) (w : World) : (zeroValue t).run P w = .ok z w ∧ Ground z := by
  unfold zeroOf at h
  split at h
  · rename_i i hi
    split at h
    · rename_i z' hz
      cases hg : groundB 8 z' with
      | false => rw [hg] at h; cases h
      | true =>
        rw [hg] at h; simp at h; subst h
        exact ⟨by simp [zeroValue, run_ti hi, hz], ground_of 8 _ hg⟩
    · cases h
  · cases h
end Go.Proofs.YtcpafphgkbfahaaGreat
