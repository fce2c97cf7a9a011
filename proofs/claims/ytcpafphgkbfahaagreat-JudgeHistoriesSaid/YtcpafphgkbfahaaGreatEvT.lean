/- An evaluator of closed runs: codes, rounds, calls: sound. -/
import Derived.LoopNIn
import Derived.Scope
import Derived.RangeFuncNested
import Derived.RangeFuncLeaves
import Derived.Test.YtcpafphgkbfahaaGreatEvW
namespace Go.Proofs.YtcpafphgkbfahaaGreat
open Go Go.RowKit

variable {P : Program}
section
variable {b : Frame} {a : Act} {k : List Item} {cs : List Frame} {w : World}
theorem stepR_scope' {c : Code} : step P (lone (b.atR a (.code (.scope c) :: k)) cs w) = .next (lone (b.atR a (.code c :: .inScope c :: k)) cs w) :=
  step_lone_go (by simp [stepG, stepG.exec, Frame.atR])
theorem stepR_inScope' {c : Code} : step P (lone (b.atR a (.inScope c :: k)) cs w) = .next (lone (b.atR a k) cs w) :=
  step_lone_go (by simp [stepG, stepG.exec, Frame.atR])
end
theorem wpIn_scope' {F : Fence} {n : Nat} {Q : Exit → Act → World → Prop} {a : Act} {w : World} {c : Code} (h : c.wpIn F n P (Exit.noGoto Q) a w) : (Code.scope c).wpIn F n P Q a w := by
  intro b k cs hro hb hr
  have h0 : (lone (b.atR a (.code (.scope c) :: k)) cs w).fenced P F := fenced_calm hb hr rfl
  obtain ⟨e, a₁, w₁, hq, harr⟩ := h b (.inScope c :: k) cs hro hb hr
  cases e with
  | normal => exact ⟨.normal, a₁, w₁, hq, .head h0 stepR_scope' (StepsIn.trans harr (.one (fenced_calm hb hr rfl) stepR_inScope'))⟩
  | exit id =>
    have hx : exitTo id (.inScope c :: k) = exitTo id k := by simp [exitTo]
    exact ⟨.exit id, a₁, w₁, hq, fun k' hk => .head h0 stepR_scope' (harr.1 k' (by rw [hx]; exact hk)),
      fun hr' hk => let ⟨k₁, h1, h2⟩ := harr.2 hr' (by rw [hx]; exact hk); ⟨k₁, h1, .head h0 stepR_scope' h2⟩⟩
  | goto l => exact hq.elim
  | ret => exact ⟨_, a₁, w₁, hq, .of_steps (.one h0 stepR_scope') harr⟩
  | panic ch => exact ⟨_, a₁, w₁, hq, .of_steps (.one h0 stepR_scope') harr⟩
  | outgrown => exact ⟨_, a₁, w₁, hq, .of_steps (.one h0 stepR_scope') harr⟩
def MkRel (φ : Emb) : List Nat → List Deferred → Prop
  | [], [] => True
  | b :: bs, d :: ds => (∃ i, φ b = some i ∧ d.target = .collected i.r) ∧ MkRel φ bs ds
  | _, _ => False
theorem MkRel.mono {φ ψ : Emb} (h : Ext φ ψ) : ∀ {bs : List Nat} {ds : List Deferred}, MkRel φ bs ds → MkRel ψ bs ds
  | [], [], _ => trivial
  | _ :: _, _ :: _, ⟨⟨i, p, q⟩, r⟩ => ⟨⟨i, h _ _ p, q⟩, r.mono h⟩
  | [], _ :: _, r => r.elim
  | _ :: _, [], r => r.elim
structure SRel (φ : Emb) (s : ASt) (nt : Nat) (a : Act) (w : World) : Prop where
  tmps : TRel φ s.T a.tmps
  size : a.tmps.size = nt
  marks : MkRel φ s.marks a.defers
  mem : WRel φ s.W w
def AExit.real : AExit → Exit
  | .normal => .normal
  | .exit id => .exit id
  | .goto l => .goto l
  | .ret => .ret
def RoRel (φ : Emb) : Option Nat → Fence → Prop
  | none, F => F.round = none
  | some l, F => ∃ i, φ l = some i ∧ F.round = some i.r
theorem RoRel.mono {φ ψ : Emb} (h : Ext φ ψ) {ro : Option Nat} {F : Fence} (r : RoRel φ ro F) : RoRel ψ ro F := by
  cases ro with
  | none => exact r
  | some l => obtain ⟨i, p, q⟩ := r; exact ⟨i, h _ _ p, q⟩
theorem wide_inRound {F : Fence} (h : Wide F) (l : Nat) : Wide (F.inRound l) := h
theorem wide_plain {F : Fence} (h : Wide F) : Wide F.plain := h
/-- the state goes on, left by an exit -/
def CodeOk (P : Program) (ro : Option Nat) (nt : Nat) (f : ASt → Res) (c : Code) : Prop :=
  ∀ (φ : Emb) (s : ASt) (e : AExit) (s' : ASt) (a : Act) (w : World) (F : Fence) (n : Nat) (Q : Exit → Act → World → Prop), f s = some (e, s') → SRel φ s nt a w → Wide F → RoRel φ ro F →
    (∀ ψ a' w', WStep φ w ψ w' → SRel ψ s' nt a' w' → Q e.real a' w') → c.wpIn F n P Q a w
theorem iter_ok {ro : Option Nat} {nt : Nat} {f : ASt → Res} {c : Code} (h : CodeOk P ro nt f c) : ∀ (m : Nat) (φ : Emb) (s : ASt) (e : AExit) (s' : ASt) (a : Act) (w : World) (F : Fence) (n : Nat) (Q : Exit → Act → World → Prop),
    iter f m s = some (e, s') → SRel φ s nt a w → Wide F → RoRel φ ro F → (∀ ψ a' w', WStep φ w ψ w' → SRel ψ s' nt a' w' → Q e.real a' w') → Code.roundsIn F n P c Q m a w
  | 0, φ, s, e, s', a, w, F, n, Q, hi, _, _, _, _ => by simp [iter] at hi
  | m + 1, φ, s, e, s', a, w, F, n, Q, hi, hs, hF, hro, hq => by
    rw [roundsIn_succ]
    simp only [iter] at hi
    split at hi
    · rename_i s1 h1
      exact h φ s .normal s1 a w F n _ h1 hs hF hro (fun ψ a' w' st hs' =>
        iter_ok h m ψ s1 e s' a' w' F n Q hi hs' hF (hro.mono st.ext) (fun χ a2 w2 st2 hs2 => hq χ a2 w2 (st.trans st2) hs2))
    · rename_i hne
      refine h φ s e s' a w F n _ hi hs hF hro (fun ψ a' w' st hs' => ?_)
      have hQ := hq ψ a' w' st hs'
      cases e with
      | normal => exact absurd hi (hne s')
      | exit id => exact hQ
      | goto l => exact hQ
      | ret => exact hQ
theorem region_ok {pt : Pt} {call : Callee'} {round : Rounder} (hc : CallOk P call) (hr : RoundOk P round) (hp : PtOk P pt) (hm : P.follows .mixedOrders = true) {ro : Option Nat} {nt : Nat} {id : Nat} {ops : Array Oper} {draw : Bool}
    {φ : Emb} {s : ASt} {T' : Tr Value} {A' : AW} (h : (if draw then runDraw P pt call round nt ops s.T s.W else runOps P pt call round nt ops ops.toList s.T s.W) = some (T', A')) {a : Act} {w : World} {F : Fence} {n : Nat} {Q : Exit → Act → World → Prop}
    (hs : SRel φ s nt a w) (hF : Wide F) (hq : ∀ ψ a' w', WStep φ w ψ w' → SRel ψ ⟨T', s.marks, A'⟩ nt a' w' → Q .normal a' w') : (Code.region id ops draw).wpIn F n P Q a w := by
  have _ := ro
  have fin : ∀ {w0 : World}, WStep φ w φ w0 → ∀ ψ a' w', On φ w0 a T' A' ψ a' w' → Q .normal a' w' := fun st ψ a' w' hon =>
    hq ψ a' w' (st.trans hon.step) ⟨hon.tmps, by rw [hon.size]; exact hs.size, by rw [hon.defers]; exact hs.marks.mono hon.step.ext, hon.mem⟩
  cases draw with
  | false =>
    simp only [Bool.false_eq_true, if_false] at h
    refine wpIn_region ?_
    have := runOps_ok hc hr hp hF (n := n) (Q := Q) ops.toList 0 φ s.T s.W a w T' A' (fun j hj => by simp) h hs.size hs.tmps hs.mem (fin (WStep.refl _ _))
    rw [List.range_eq_range']
    simpa using this
  | true =>
    simp only [if_true] at h
    unfold runDraw at h
    obtain ⟨h1, h⟩ := bif_some h
    split at h
    · rename_i T1 A1 rs hrec
      obtain ⟨h2, h⟩ := bif_some h
      cases h
      refine wpIn_region_any hm ?_
      have hd : ({ w with drawn := w.drawn + 1 } : World) = w.drew := rfl
      rw [hd]
      cases hrd : drawReads P ops A' rs with
      | true =>
        have X := facts_of (chain_of hrec) h1 hrd
        refine drawAny_ok hc hr hp hF X (φ0 := φ) (w0 := w.drew) (a0 := a) (fin (WStep.drew φ w)) hs.size ops.size (List.range ops.size) _ 0 φ a w.drew (by simp) (fun i hi => .inr (by simpa using hi)) ?_
        refine ⟨by simp, fun i j hi => ?_, fun p x hx => ?_, ⟨s.W, (X.chain.mems 0).1, hs.mem.drew⟩, fun t v e => ?_, hs.size, rfl, WStep.refl _ _⟩
        · simp [Array.getElem?_replicate] at hi
        · simp [Array.getElem?_replicate]
        · refine hs.tmps t v ?_
          unfold EV at e
          split at e
          · rw [if_neg (by simp [Array.getElem?_replicate])] at e; exact e
          · exact e
      | false =>
        rw [hrd, Bool.false_or] at h2
        exact drawLate_start hp hF (facts0_of (chain_of hrec) h1) h2 hs.tmps hs.mem.drew hs.size (fin (WStep.drew φ w))
    · cases h
theorem getLoopObj {φ : Emb} {A : AW} {w : World} (h : WRel φ A w) {l : Nat} {st : LoopState} {p : Option Code} {T : Tr Value} {nt : Nat} {ps : Array Tmp} {as_ body : Code} {d : Nat} (hl : A.heap.get l = some (.loop st p T nt ps as_ body d)) {i : BI} (hi : φ l = some i) :
    ∃ T' fn d', w.heap[i.r]? = some (.loop { state := st, pending := p, fn := fn, tmps := T', params := ps, assign := as_, body := body, defers := d' }) ∧ T'.size = nt ∧ TRel φ T T' ∧ MRel φ (some d) (some d') := by
  obtain ⟨i', q, o⟩ := h.live l _ hl
  have : i' = i := Option.some.inj (q.symm.trans hi)
  subst this
  exact o
/-- a loop's record is turned -/
theorem loop_put {φ : Emb} {A : AW} {w : World} (h : WRel φ A w) {l : Nat} {o : AObj} (hl : A.heap.get l = some o) (hm : o.mate = none) {i : BI} (hi : φ l = some i) {st : LoopState} {p : Option Code} {T : Tr Value} {nt : Nat} {ps : Array Tmp} {as_ body : Code} {d : Nat} {T' : Array Value} {fn d' : Nat}
    (h1 : T'.size = nt) (h2 : TRel φ T T') (h3 : MRel φ (some d) (some d')) :
    WRel φ (A.set l (some (.loop st p T nt ps as_ body d))) (w.putObj i.r (.loop { state := st, pending := p, fn := fn, tmps := T', params := ps, assign := as_, body := body, defers := d' })) ∧
    WStep φ w φ (w.putObj i.r (.loop { state := st, pending := p, fn := fn, tmps := T', params := ps, assign := as_, body := body, defers := d' })) :=
  put_rel h hl hi hm (fun _ hw => ⟨T', fn, d', hw, h1, h2, h3⟩)
theorem jump_ok {c : Code} {s s' : ASt} {e : AExit} (h : jump c s = some (e, s')) {F : Fence} {n : Nat} {Q : Exit → Act → World → Prop} {a : Act} {w : World} (hq : Q e.real a w) : s' = s ∧ c.wpIn F n P Q a w := by
  unfold jump at h
  split at h
  · cases h; exact ⟨rfl, wpIn_ret hq⟩
  · cases h; exact ⟨rfl, wpIn_exit hq⟩
  · cases h; exact ⟨rfl, wpIn_goto hq⟩
  · cases h
theorem rangeF_ok {call : Callee'} (hc : CallOk P call) {ro : Option Nat} {nt : Nat} {g : Operand} {ps : Array Tmp} {as_ body : Code} : CodeOk P ro nt (rangeF call ro nt jump g ps as_ body) (.rangeFunc g ps as_ body) := by
  intro φ s e s' a w F n Q h hs hF hro hq
  unfold rangeF at h
  split at h
  · cases h
  · rename_i d marks A1 hstart
    simp only [] at h
    split at h
    · rename_i f first captured hg
      split at h
      · rename_i v0 A2 hcall
        split at h
        · rename_i st p T2 nt' ps' a2 b2 d2 hl
          -- the record is laid
          obtain ⟨φ1, w1, mark, l', d', k1, k2, k3, k4, k5, k6⟩ : ∃ (φ1 : Emb) (w1 : World) (mark : List Deferred) (l' d' : Nat),
              (∀ fn, (Instr.enterLoop fn a.tmps ps as_ body F.round).run P w = .ok (l', mark) (w1.alloc (.loop { state := .ready, pending := none, fn := fn, tmps := a.tmps, params := ps, assign := as_, body := body, defers := d' }))) ∧
              l' = w1.heap.size ∧ WRel φ1 A1 w1 ∧ WStep φ w φ1 w1 ∧ MRel φ1 (some d) (some d') ∧ MkRel φ1 marks (mark ++ a.defers) := by
            cases ro with
            | none =>
              simp only [Option.some.injEq, Prod.mk.injEq] at hstart
              obtain ⟨rfl, rfl, rfl⟩ := hstart
              have hF0 : F.round = none := hro
              obtain ⟨q1, q2⟩ := hs.mem.alloc .marks (.deferred (some [])) 0 0 (fun ψ w' _ hw => hw)
              refine ⟨_, _, [{ target := .collected w.heap.size, args := #[] }], w.heap.size + 1, w.heap.size, fun fn => ?_, by simp, q1, q2, ⟨_, Emb.put_same _ _ _, rfl⟩, ⟨⟨_, Emb.put_same _ _ _, rfl⟩, hs.marks.mono q2.ext⟩⟩
              rw [hF0]; exact run_enterLoop_outer fn a.tmps ps as_ body
            | some l0 =>
              simp only [] at hstart
              split at hstart
              · rename_i s0 p0 T0 n0 ps0 a0 b0 d0 hl0
                simp only [Option.some.injEq, Prod.mk.injEq] at hstart
                obtain ⟨rfl, rfl, rfl⟩ := hstart
                obtain ⟨i0, hi0, hF0⟩ := hro
                obtain ⟨T0', fn0, d0', g1, g2, g3, g4⟩ := getLoopObj hs.mem hl0 hi0
                refine ⟨φ, w, [], w.heap.size, d0', fun fn => ?_, rfl, hs.mem, WStep.refl _ _, g4, hs.marks⟩
                rw [hF0]; exact run_enterLoop_inner g1 fn a.tmps ps as_ body
              · cases hstart
          have rg := aev_rel hs.tmps hg
          generalize hq0 : a.eval g = q0 at rg
          cases rg with
          | func hfn ha q1 hcc q2 =>
            rename_i first' captured'
            -- for whatever function the activation is of
            refine wpIn_rangeFunc (fun fn _ => ?_)
            have k1' := k1 fn
            obtain ⟨r1, r2⟩ := k3.alloc (.loop .ready none s.T nt ps as_ body d) (.loop { state := .ready, pending := none, fn := fn, tmps := a.tmps, params := ps, assign := as_, body := body, defers := d' }) 0 0
              (fun ψ w' hx hw => ⟨a.tmps, fn, d', hw, hs.size, (hs.tmps.mono k4.ext).mono hx, k5.mono hx⟩)
            obtain ⟨w2, hw2⟩ : ∃ w2, w2 = w1.alloc (.loop { state := .ready, pending := none, fn := fn, tmps := a.tmps, params := ps, assign := as_, body := body, defers := d' }) := ⟨_, rfl⟩
            rw [← hw2] at k1' r1 r2
            obtain ⟨he, hcalls⟩ := hc f _ _ v0 A2 hcall
            have hargs : LRel (φ1.put A1.size ⟨w1.heap.size, 0, 0, 0⟩) (first.toList ++ [.func (.yield A1.size) #[] #[]] ++ captured.toList) (first' ++ #[Value.func (.yield w1.heap.size) #[] #[]] ++ captured').toList := by
              have hx := k4.ext.trans r2.ext
              have e1 : (first' ++ #[Value.func (.yield w1.heap.size) #[] #[]] ++ captured').toList = first'.toList ++ [Value.func (.yield w1.heap.size) #[] #[]] ++ captured'.toList := by simp
              rw [e1]
              exact (((LRel.of_array ha q1).mono hx).append (LRel.cons (.yield (Emb.put_same _ _ _)) (LRel.nil _))).append ((LRel.of_array hcc q2).mono hx)
            subst k2
            refine ⟨w1.heap.size, mark, w2, { target := .fn (.func f) captured', args := first' ++ #[Value.func (.yield w1.heap.size) #[] #[]] }, w2, f, first' ++ #[Value.func (.yield w1.heap.size) #[] #[]] ++ captured', w2, k1', ?_, fun f' _ => hF.1 f', ?_, wide_depth hF, ?_⟩
            · have hy : a.eval (.const (.func (.yield w1.heap.size) #[] #[])) = .func (.yield w1.heap.size) #[] #[] := rfl
              simp [resolve, hq0, Deferred.ofValue, hy]
            · simp [invoke, he _ _]
            · refine (hcalls _ _ _ r1 hargs F (n - 1) hF).mono ?_
              rintro e' w3 ⟨ψ, v', rfl, m1, m2, m3⟩
              have hext := (k4.trans r2).trans m3
              have hli : ψ A1.size = some ⟨w1.heap.size, 0, 0, 0⟩ := m3.ext _ _ (Emb.put_same _ _ _)
              obtain ⟨T3, fn3, d3, g1, g2, g3, g4⟩ := getLoopObj m2 hl hli
              simp only [rangePost]
              have key : ∀ (hb : st ≠ .busy), ∃ w4, (Instr.endLoop w1.heap.size).run P w3 = .ok p w4 ∧ WRel ψ (A2.set A1.size (some (.loop .exhausted p T2 nt' ps' a2 b2 d2))) w4 ∧ WStep ψ w3 ψ w4 := by
                intro hb
                obtain ⟨u1, u2⟩ := loop_put (st := .exhausted) (p := p) (ps := ps') (as_ := a2) (body := b2) (fn := fn3) m2 hl rfl hli g2 g3 g4
                exact ⟨_, run_endLoop g1 hb, u1, u2⟩
              have fin : ∀ (hb : st ≠ .busy), (match p with
                  | none => some (AExit.normal, (⟨s.T, marks, A2.set A1.size (some (.loop .exhausted p T2 nt' ps' a2 b2 d2))⟩ : ASt))
                  | some c => jump c ⟨s.T, marks, A2.set A1.size (some (.loop .exhausted p T2 nt' ps' a2 b2 d2))⟩) = some (e, s') →
                  ∃ jmp w4, (Instr.endLoop w1.heap.size).run P w3 = .ok jmp w4 ∧ (match jmp with
                    | none => Q .normal { a with defers := mark ++ a.defers } w4
                    | some c => c.wpIn F n P Q { a with defers := mark ++ a.defers } w4) := by
                intro hb hh
                obtain ⟨w4, u1, u2, u3⟩ := key hb
                have hsr : SRel ψ ⟨s.T, marks, A2.set A1.size (some (.loop .exhausted p T2 nt' ps' a2 b2 d2))⟩ nt { a with defers := mark ++ a.defers } w4 :=
                  ⟨hs.tmps.mono hext.ext, hs.size, k6.mono (r2.trans m3).ext, u2⟩
                refine ⟨p, w4, u1, ?_⟩
                cases p with
                | none =>
                  simp only [Option.some.injEq, Prod.mk.injEq] at hh
                  obtain ⟨rfl, rfl⟩ := hh
                  exact hq ψ _ w4 (hext.trans u3) hsr
                | some c =>
                  simp only [] at hh ⊢
                  have es : s' = ⟨s.T, marks, A2.set A1.size (some (.loop .exhausted (some c) T2 nt' ps' a2 b2 d2))⟩ := by
                    unfold jump at hh
                    split at hh <;> first | (cases hh; rfl) | cases hh
                  subst es
                  exact (jump_ok hh (hq ψ _ w4 (hext.trans u3) hsr)).2
              cases st with
              | busy => cases h
              | ready =>
                refine fin (by simp) ?_
                cases p <;> exact h
              | done =>
                refine fin (by simp) ?_
                cases p <;> exact h
              | exhausted =>
                refine fin (by simp) ?_
                cases p <;> exact h
        · cases h
      · cases h
    · cases h
end Go.Proofs.YtcpafphgkbfahaaGreat
