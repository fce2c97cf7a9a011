/- An evaluator of closed runs: a long run cut in pieces, the memory between the pieces written out. -/
import Derived.Test.YthengmpnfcclbaaGreatDoorEvZ
namespace Go.Proofs.YthengmpnfcclbaaGreatDoor
open Go Go.RowKit

/-! ### States written out -/
inductive OLit where
  | cells (l : List Value) (mate : Option Nat)
  | map (es : List MapEntry) (clock : Nat)
  | marks
  | glob (g : Nat) (cs : List Value)
structure SLit where
  T : List (Nat × Value)
  marks : List Nat
  size : Nat
  heap : List (Nat × OLit)
noncomputable def OLit.obj : OLit → AObj
  | .cells l m => .cells (Tr.ofL l 0 .nil) m
  | .map es c => .map es c
  | .marks => .marks
  | .glob g cs => .glob g cs
noncomputable def heapOf : List (Nat × OLit) → Tr AObj
  | [] => .nil
  | (b, o) :: l => (heapOf l).put b (some o.obj)
noncomputable def SLit.W (z : SLit) : AW := ⟨heapOf z.heap, z.size⟩
noncomputable def SLit.st (z : SLit) : ASt := ⟨trOf z.T, z.marks, z.W⟩
noncomputable def cellsIn (cs : Tr Value) : List Value → Nat → Bool
  | [], _ => true
  | v :: l, j => match cs.get j with
    | some u => veq 8 u v && cellsIn cs l (j + 1)
    | none => false
def mateEq : Option Nat → Option Nat → Bool
  | none, none => true
  | some a, some b => Nat.beq a b
  | _, _ => false
def entriesEq : List MapEntry → List MapEntry → Bool
  | [], [] => true
  | a :: as, b :: bs => veq 8 a.key b.key && veq 8 a.val b.val && Nat.beq a.born b.born && entriesEq as bs
  | _, _ => false
def natsEq : List Nat → List Nat → Bool
  | [], [] => true
  | a :: as, b :: bs => Nat.beq a b && natsEq as bs
  | _, _ => false
def valsEq : List Value → List Value → Bool
  | [], [] => true
  | a :: as, b :: bs => veq 8 a b && valsEq as bs
  | _, _ => false
noncomputable def osub : OLit → AObj → Bool
  | .cells l m, .cells cs m' => mateEq m m' && cellsIn cs l 0
  | .map es c, .map es' c' => Nat.beq c c' && entriesEq es' es
  | .marks, .marks => true
  | .glob g cs, .glob g' cs' => Nat.beq g g' && valsEq cs' cs
  | _, _ => false
noncomputable def heapIn (W : AW) : List (Nat × OLit) → Bool
  | [] => true
  | (b, o) :: l => match W.heap.get b with
    | some o' => osub o o' && heapIn W l
    | none => false
noncomputable def tmpsIn (T : Tr Value) : List (Nat × Value) → Bool
  | [] => true
  | (t, v) :: l => match T.get t with
    | some u => veq 8 u v && tmpsIn T l
    | none => false
noncomputable def subSt (z : SLit) (s : ASt) : Bool := Nat.ble s.W.size z.size && natsEq s.marks z.marks && tmpsIn s.T z.T && heapIn s.W z.heap
noncomputable def litChk (x : Res) (e : AExit) (z : SLit) : Bool :=
  match x with
  | some (e', s) => exitEq e' e && subSt z s
  | none => false

theorem mateEq_eq {a b : Option Nat} (h : mateEq a b = true) : a = b := by
  cases a <;> cases b <;> simp [mateEq] at h <;> first | rfl | rw [h]
theorem natsEq_eq : ∀ {a b : List Nat}, natsEq a b = true → a = b
  | [], [], _ => rfl
  | [], _ :: _, h => by simp [natsEq] at h
  | _ :: _, [], h => by simp [natsEq] at h
  | x :: a, y :: b, h => by
    simp [natsEq] at h
    rw [h.1, natsEq_eq h.2]
theorem valsEq_eq : ∀ {a b : List Value}, valsEq a b = true → a = b
  | [], [], _ => rfl
  | [], _ :: _, h => by simp [valsEq] at h
  | _ :: _, [], h => by simp [valsEq] at h
  | x :: a, y :: b, h => by
    simp only [valsEq, Bool.and_eq_true] at h
    rw [veq_eq 8 x y h.1, valsEq_eq h.2]
theorem entriesEq_eq : ∀ {a b : List MapEntry}, entriesEq a b = true → a = b
  | [], [], _ => rfl
  | [], _ :: _, h => by simp [entriesEq] at h
  | _ :: _, [], h => by simp [entriesEq] at h
  | ⟨k, v, n⟩ :: a, ⟨k', v', n'⟩ :: b, h => by
    simp only [entriesEq, Bool.and_eq_true] at h
    obtain ⟨⟨⟨h1, h2⟩, h3⟩, h4⟩ := h
    rw [veq_eq 8 k k' h1, veq_eq 8 v v' h2, Nat.eq_of_beq_eq_true h3, entriesEq_eq h4]
theorem cellsIn_get {cs : Tr Value} : ∀ {l : List Value} {j : Nat}, cellsIn cs l j = true → ∀ (k : Nat) (v : Value), l[k]? = some v → cs.get (j + k) = some v
  | [], j, _, k, v, e => by simp at e
  | x :: l, j, h, k, v, e => by
    simp only [cellsIn] at h
    split at h
    · rename_i u hu
      rw [Bool.and_eq_true] at h
      cases k with
      | zero => simp at e; subst e; rw [Nat.add_zero, hu, veq_eq 8 u x h.1]
      | succ k => have := cellsIn_get h.2 k v (by simpa using e); rw [show j + (k + 1) = j + 1 + k by omega]; exact this
    · cases h
theorem tmpsIn_get {T : Tr Value} : ∀ {l : List (Nat × Value)}, tmpsIn T l = true → ∀ t v, (t, v) ∈ l → T.get t = some v
  | [], _, t, v, e => by simp at e
  | (t0, v0) :: l, h, t, v, e => by
    simp only [tmpsIn] at h
    split at h
    · rename_i u hu
      rw [Bool.and_eq_true] at h
      rcases List.mem_cons.1 e with e | e
      · cases e; rw [hu, veq_eq 8 u _ h.1]
      · exact tmpsIn_get h.2 t v e
    · cases h
theorem heapOf_get : ∀ (l : List (Nat × OLit)) (b : Nat) (o : AObj), (heapOf l).get b = some o → ∃ x, (b, x) ∈ l ∧ o = x.obj
  | [], b, o, h => by simp [heapOf, Tr.get_nil] at h
  | (c, x) :: l, b, o, h => by
    rw [heapOf, Tr.get_put] at h
    split at h
    · rename_i e; cases h; subst e; exact ⟨x, by simp, rfl⟩
    · obtain ⟨y, q1, q2⟩ := heapOf_get l b o h; exact ⟨y, List.mem_cons_of_mem _ q1, q2⟩
theorem heapIn_get {W : AW} : ∀ {l : List (Nat × OLit)}, heapIn W l = true → ∀ b x, (b, x) ∈ l → ∃ o', W.heap.get b = some o' ∧ osub x o' = true
  | [], _, b, x, e => by simp at e
  | (c, y) :: l, h, b, x, e => by
    simp only [heapIn] at h
    split at h
    · rename_i u hu
      rw [Bool.and_eq_true] at h
      rcases List.mem_cons.1 e with e | e
      · cases e; exact ⟨u, hu, h.1⟩
      · exact heapIn_get h.2 b x e
    · cases h
theorem osub_at {φ : Emb} {w : World} {i : BI} {x : OLit} {o : AObj} (h : osub x o = true) (r : ObjAt φ w i o) : ObjAt φ w i x.obj ∧ x.obj.mate = o.mate := by
  cases x <;> cases o <;> simp only [osub, Bool.false_eq_true] at h
  · rename_i l m cs m'
    rw [Bool.and_eq_true] at h
    obtain ⟨c, e, h1, h2, h3⟩ := r
    refine ⟨⟨c, e, h1, h2, fun j v q => h3 j v ?_⟩, mateEq_eq h.1⟩
    rw [Tr.get_ofL0] at q
    have := cellsIn_get h.2 j v q
    simpa using this
  · rename_i es c es' c'
    rw [Bool.and_eq_true] at h
    rw [Nat.eq_of_beq_eq_true h.1, ← entriesEq_eq h.2]
    exact ⟨r, rfl⟩
  · exact ⟨r, rfl⟩
  · rename_i g cs g' cs'
    simp only [Bool.and_eq_true] at h
    rw [Nat.eq_of_beq_eq_true h.1, ← valsEq_eq h.2]
    exact ⟨r, rfl⟩
theorem WRel.weak {φ : Emb} {A : AW} {w : World} {z : SLit} (h : WRel φ A w) (hs : A.size ≤ z.size) (hh : heapIn A z.heap = true) : WRel φ z.W w := by
  have key : ∀ b o, z.W.heap.get b = some o → ∃ x o', A.heap.get b = some o' ∧ osub x o' = true ∧ o = x.obj := by
    intro b o e
    obtain ⟨x, q1, q2⟩ := heapOf_get z.heap b o e
    obtain ⟨o', q3, q4⟩ := heapIn_get hh b x q1
    exact ⟨x, o', q3, q4, q2⟩
  refine ⟨fun b i e => Nat.lt_of_lt_of_le (h.dom b i e) hs, h.real, fun b o e => ?_, fun b1 b2 o1 o2 i1 i2 e1 e2 p1 p2 hr hne => ?_⟩
  · obtain ⟨x, o', q1, q2, rfl⟩ := key b o e
    obtain ⟨i, r1, r2⟩ := h.live b o' q1
    exact ⟨i, r1, (osub_at q2 r2).1⟩
  · obtain ⟨x1, o1', q1, q2, rfl⟩ := key b1 o1 e1
    obtain ⟨x2, o2', q3, q4, rfl⟩ := key b2 o2 e2
    have hm := h.sep b1 b2 o1' o2' i1 i2 q1 q3 p1 p2 hr hne
    obtain ⟨i, r1, r2⟩ := h.live b1 o1' q1
    rw [(osub_at q2 r2).2]
    exact hm
theorem SRel.weak {φ : Emb} {s : ASt} {nt : Nat} {a : Act} {w : World} {z : SLit} (h : SRel φ s nt a w) (hz : subSt z s = true) : SRel φ z.st nt a w := by
  simp only [subSt, Bool.and_eq_true] at hz
  obtain ⟨⟨⟨h1, h2⟩, h3⟩, h4⟩ := hz
  refine ⟨fun t v e => h.tmps t v (tmpsIn_get h3 t v (trOf_get z.T t v e)), h.size, ?_, h.mem.weak (Nat.le_of_ble_eq_true h1) h4⟩
  have := h.marks
  rw [natsEq_eq h2] at this
  exact this

/-! ### Pieces -/
variable {P : Program}
/-- a code, from a state, leaves by an exit with a state -/
def CodeAt (P : Program) (ro : Option Nat) (nt : Nat) (c : Code) (s : ASt) (e : AExit) (s' : ASt) : Prop :=
  ∀ (φ : Emb) (a : Act) (w : World) (F : Fence) (n : Nat) (Q : Exit → Act → World → Prop), SRel φ s nt a w → Wide F → RoRel φ ro F →
    (∀ ψ a' w', WStep φ w ψ w' → SRel ψ s' nt a' w' → Q e.real a' w') → c.wpIn F n P Q a w
theorem codeAt_of_ev {pt : Pt} {told : Told} {lf n nt : Nat} (hE : ∀ f fn, P.funcs[f]? = some fn → fn.body.isSome = true → Enters P f) (hm : P.follows .mixedOrders = true) (hp : PtOk P pt) (ht : ToldOk P told) {c : Code} {s : ASt} {e : AExit} {z : SLit}
    (h : litChk (evCode P pt (evCall P pt told lf n) (evRnd P pt told lf n) none nt lf c s) e z = true) : CodeAt P none nt c s e z.st := by
  intro φ a w F k Q hs hF hro hq
  unfold litChk at h
  split at h
  · rename_i e' s' hev
    rw [Bool.and_eq_true] at h
    have e1 := exitEq_eq h.1
    subst e1
    obtain ⟨hc, hr⟩ := evCall_ok (lf := lf) hE hm hp ht n
    exact evCode_ok hc hr hp hm (ro := none) (nt := nt) (lf := lf) c φ s e' s' a w F k _ hev hs hF hro (fun ψ a' w' st hs' => hq ψ a' w' st (hs'.weak h.2))
  · cases h
variable {ro : Option Nat} {nt : Nat} {s s1 s2 : ASt} {e : AExit}
theorem CodeAt.seq {x y : Code} (h : CodeAt P ro nt x s .normal s1) (k : CodeAt P ro nt y s1 e s2) : CodeAt P ro nt (.seq x y) s e s2 := by
  intro φ a w F n Q hs hF hro hq
  refine wpIn_seq (h φ a w F n _ hs hF hro (fun ψ a1 w1 st hs1 => ?_))
  exact k ψ a1 w1 F n Q hs1 hF (hro.mono st.ext) (fun χ a2 w2 st2 hs2 => hq χ a2 w2 (st.trans st2) hs2)
theorem CodeAt.seqOut {x y : Code} (h : CodeAt P ro nt x s e s1) (he : e ≠ .normal) : CodeAt P ro nt (.seq x y) s e s1 := by
  intro φ a w F n Q hs hF hro hq
  refine wpIn_seq (h φ a w F n _ hs hF hro (fun ψ a1 w1 st hs1 => ?_))
  have := hq ψ a1 w1 st hs1
  cases e with
  | normal => exact absurd rfl he
  | exit id => exact this
  | goto l => exact this
  | ret => exact this
theorem CodeAt.block {x : Code} {id : Nat} (h : CodeAt P ro nt x s (.exit id) s1) : CodeAt P ro nt (.block id x) s .normal s1 := by
  intro φ a w F n Q hs hF hro hq
  refine wpIn_block (h φ a w F n _ hs hF hro (fun ψ a1 w1 st hs1 => ?_))
  have := hq ψ a1 w1 st hs1
  simpa [Exit.inBlock, AExit.real] using this
theorem CodeAt.blockRet {x : Code} {id : Nat} (h : CodeAt P ro nt x s .ret s1) : CodeAt P ro nt (.block id x) s .ret s1 := by
  intro φ a w F n Q hs hF hro hq
  refine wpIn_block (h φ a w F n _ hs hF hro (fun ψ a1 w1 st hs1 => ?_))
  exact hq ψ a1 w1 st hs1
/-- so many rounds of a loop, and then what the loop comes to -/
def Rounds (P : Program) (ro : Option Nat) (nt : Nat) (c : Code) (m : Nat) (s s' : ASt) : Prop :=
  ∀ (φ : Emb) (a : Act) (w : World) (F : Fence) (n : Nat) (Q : Exit → Act → World → Prop) (j : Nat), SRel φ s nt a w → Wide F → RoRel φ ro F →
    (∀ ψ a' w', WStep φ w ψ w' → SRel ψ s' nt a' w' → Code.roundsIn F n P c Q j a' w') → Code.roundsIn F n P c Q (m + j) a w
theorem Rounds.trans {c : Code} {m m' : Nat} (h : Rounds P ro nt c m s s1) (k : Rounds P ro nt c m' s1 s2) : Rounds P ro nt c (m + m') s s2 := by
  intro φ a w F n Q j hs hF hro hq
  rw [Nat.add_assoc]
  exact h φ a w F n Q (m' + j) hs hF hro (fun ψ a1 w1 st hs1 => k ψ a1 w1 F n Q j hs1 hF (hro.mono st.ext) (fun χ a2 w2 st2 hs2 => hq χ a2 w2 (st.trans st2) hs2))
theorem Rounds.nil {c : Code} : Rounds P ro nt c 0 s s := by
  intro φ a w F n Q j hs hF hro hq
  rw [Nat.zero_add]
  exact hq φ a w (WStep.refl _ _) hs
theorem CodeAt.loop {c : Code} {m : Nat} (h : Rounds P ro nt c m s s1) (l : CodeAt P ro nt c s1 e s2) (he : e ≠ .normal) : CodeAt P ro nt (.loop c) s e s2 := by
  intro φ a w F n Q hs hF hro hq
  refine wpIn_loop_rounds (m + 1) (h φ a w F n Q 1 hs hF hro (fun ψ a1 w1 st hs1 => ?_))
  rw [roundsIn_succ]
  refine l ψ a1 w1 F n _ hs1 hF (hro.mono st.ext) (fun χ a2 w2 st2 hs2 => ?_)
  have := hq χ a2 w2 (st.trans st2) hs2
  cases e with
  | normal => exact absurd rfl he
  | exit id => exact this
  | goto l => exact this
  | ret => exact this
/-- rounds, one after another, by the evaluator -/
noncomputable def evRounds (f : ASt → Res) : Nat → ASt → Res
  | 0, s => some (.normal, s)
  | m + 1, s => match f s with
    | some (.normal, s') => evRounds f m s'
    | _ => none
theorem rounds_of_ev {pt : Pt} {told : Told} {lf n nt : Nat} (hE : ∀ f fn, P.funcs[f]? = some fn → fn.body.isSome = true → Enters P f) (hm : P.follows .mixedOrders = true) (hp : PtOk P pt) (ht : ToldOk P told) {c : Code} {s : ASt} {m : Nat} {z : SLit}
    (h : litChk (evRounds (evCode P pt (evCall P pt told lf n) (evRnd P pt told lf n) none nt lf c) m s) .normal z = true) : Rounds P none nt c m s z.st := by
  intro φ a w F k Q j hs hF hro hq
  unfold litChk at h
  split at h
  · rename_i e' s' hev
    rw [Bool.and_eq_true] at h
    obtain ⟨hc, hr⟩ := evCall_ok (lf := lf) hE hm hp ht n
    have key : ∀ (m : Nat) (φ : Emb) (s : ASt) (a : Act) (w : World), evRounds (evCode P pt (evCall P pt told lf n) (evRnd P pt told lf n) none nt lf c) m s = some (e', s') → SRel φ s nt a w → RoRel φ none F →
        (∀ ψ a' w', WStep φ w ψ w' → SRel ψ s' nt a' w' → Code.roundsIn F k P c Q j a' w') → Code.roundsIn F k P c Q (m + j) a w := by
      intro m
      induction m with
      | zero =>
        intro φ s a w hev hs hro hq
        simp only [evRounds, Option.some.injEq, Prod.mk.injEq] at hev
        obtain ⟨_, rfl⟩ := hev
        rw [Nat.zero_add]
        exact hq φ a w (WStep.refl _ _) hs
      | succ m ih =>
        intro φ s a w hev hs hro hq
        simp only [evRounds] at hev
        split at hev
        · rename_i s1 h1
          rw [show m + 1 + j = (m + j) + 1 by omega, roundsIn_succ]
          exact evCode_ok hc hr hp hm (ro := none) (nt := nt) (lf := lf) c φ s .normal s1 a w F k _ h1 hs hF hro (fun ψ a1 w1 st hs1 =>
            ih ψ s1 a1 w1 hev hs1 (hro.mono st.ext) (fun χ a2 w2 st2 hs2 => hq χ a2 w2 (st.trans st2) hs2))
        · cases hev
    exact key m φ s a w hev hs hro (fun ψ a' w' st hs' => hq ψ a' w' st (hs'.weak h.2))
  · cases h

/-! ### Calls -/
/-- a call, of arguments and memory written out -/
def CallAt (P : Program) (f : FuncId) (args : List Value) (A : AW) (v : Value) (A' : AW) : Prop :=
  ∀ (φ : Emb) w (args' : Array Value), WRel φ A w → LRel φ args args'.toList → ∀ F n, Wide F → CallsIn F n P f args' w (Out φ w v A')
theorem callAt_of {f : FuncId} {fn : Func} {c : Code} {args : List Value} {A A1 : AW} {z : SLit} {vs : List Value} (hf : P.funcs[f]? = some fn) (hb : fn.body = some c) (hl : args.length ≤ fn.ntmps) (he : e = .normal ∨ e = .ret)
    (h : CodeAt P none fn.ntmps c ⟨Tr.ofL args 0 .nil, [], A⟩ e z.st) (hmk : takeMarks z.W z.marks = some A1) (hres : aResults P z.st.T A1 fn.results.toList = some vs) : CallAt P f args A (oneOf vs) A1 := by
  intro φ w args' hW hargs F k hF
  have hal : args'.size = args.length := by have := hargs.1; simp at this; omega
  have init : SRel φ ⟨Tr.ofL args 0 .nil, [], A⟩ fn.ntmps { tmps := args' ++ Array.replicate (fn.ntmps - args'.size) undef, defers := [] } w := by
    refine ⟨fun t u e => ?_, by simp; omega, trivial, hW⟩
    rw [Tr.get_ofL0] at e
    obtain ⟨y, q1, q2⟩ := hargs.get e
    refine ⟨y, ?_, q2⟩
    have hlt := (List.getElem?_eq_some_iff.1 q1).1
    simp at hlt
    rw [Array.getElem?_append_left hlt]
    simpa using q1
  show CallsIn F.plain k P f args' w (Out φ w (oneOf vs) A1)
  refine callsIn_of_wp_marks hf hb (hF.1 f) ?_
  refine h φ _ w F.plain k _ init (wide_plain hF) rfl (fun ψ a' w' st hs => ?_)
  have := takeMarks_ok (P := P) (F := F.plain) (n := k) (fn := fn) (tmps := a'.tmps) (R := Out φ w (oneOf vs) A1) z.marks a'.defers ψ z.W A1 w' hmk hs.marks hs.mem (fun w2 h2 st2 => by
    obtain ⟨v', r1, r2⟩ := results_ok hs.tmps h2 hres
    exact ⟨v', r1, ψ, v', rfl, r2, h2, st.trans st2⟩)
  rcases he with rfl | rfl
  · exact this
  · exact this
/-- it is told wherever memory holds as much -/
noncomputable def toldAt (args0 : List Value) (z : SLit) (v : Value) (A' : AW) (args : List Value) (A : AW) : Option (Value × AW) :=
  bif valsEq args args0 && (Nat.ble A.size z.size && heapIn A z.heap) then some (v, A') else none
theorem toldAt_ok {f : FuncId} {args0 : List Value} {z : SLit} {v0 : Value} {A0 : AW} (h : CallAt P f args0 z.W v0 A0) {args : List Value} {A : AW} {v : Value} {A' : AW} (ht : toldAt args0 z v0 A0 args A = some (v, A')) : CallAt P f args A v A' := by
  unfold toldAt at ht
  obtain ⟨h1, h2⟩ := bif_some ht
  cases h2
  simp only [Bool.and_eq_true] at h1
  obtain ⟨h1, h3, h4⟩ := h1
  intro φ w args' hW hargs F n hF
  rw [valsEq_eq h1] at hargs
  exact h φ w args' (hW.weak (Nat.le_of_ble_eq_true h3) h4) hargs F n hF
/-! ### How values are written out -/
abbrev qi (n : Int) : Value := .int .i64 n
abbrev qT : Value := .bool true
abbrev qF : Value := .bool false
abbrev qn : Value := .pointer none
abbrev qN : Value := .nilFunc
abbrev qI : Value := .nilIface
abbrev qp (b o : Nat) : Value := .pointer (some ⟨b, o, none⟩)
abbrev qs (b o l c : Nat) : Value := .slice (some ⟨b, o, none⟩) l c
abbrev qg (b o e l c : Nat) : Value := .slice (some ⟨b, o, some e⟩) l c
abbrev qt (l : List UInt8) : Value := .string ⟨l.toArray⟩
abbrev qc (l : List Value) (m : Option Nat) : OLit := .cells l m
end Go.Proofs.YthengmpnfcclbaaGreatDoor
