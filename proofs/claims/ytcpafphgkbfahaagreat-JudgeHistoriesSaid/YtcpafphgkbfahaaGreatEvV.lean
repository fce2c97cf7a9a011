/- An evaluator of closed runs: calls: sound. -/
import Derived.Test.YtcpafphgkbfahaaGreatEvU
namespace Go.Proofs.YtcpafphgkbfahaaGreat
open Go Go.RowKit

variable {P : Program}
theorem takeMarks_ok {F : Fence} {n : Nat} {fn : Func} {tmps : Array Value} {R : Ending → World → Prop} : ∀ (bs : List Nat) (ds : List Deferred) (φ : Emb) (A A' : AW) (w : World), takeMarks A bs = some A' → MkRel φ bs ds → WRel φ A w →
    (∀ w', WRel φ A' w' → WStep φ w φ w' → ∃ v, (results fn tmps).run P w' = .ok v w' ∧ R (.returned v) w') → LeavesInM F n P fn tmps R ds .returning w
  | [], [], φ, A, A', w, h, _, hW, hq => by
    simp only [takeMarks, Option.some.injEq] at h; subst h
    exact hq w hW (WStep.refl _ _)
  | b :: bs, d :: ds, φ, A, A', w, h, hm, hW, hq => by
    obtain ⟨⟨i, hi, hd⟩, hms⟩ := hm
    simp only [takeMarks] at h
    split at h
    · rename_i hl
      obtain ⟨i', q, o⟩ := hW.live b _ hl
      have : i' = i := Option.some.inj (q.symm.trans hi)
      subst this
      have o : w.heap[i'.r]? = some (.deferred (some [])) := o
      have hlt := hW.real _ _ hi
      have hW1 : WRel φ (A.set b none) (w.putObj i'.r (.deferred none)) := by
        refine ⟨hW.dom, fun x j e => by simpa using hW.real x j e, fun x o3 e => ?_, (hW.kill b).sep⟩
        rw [set_get] at e
        split at e
        · cases e
        · rename_i hx
          obtain ⟨j, p, r⟩ := hW.live x o3 e
          exact ⟨j, p, r.mono (Ext.refl _) (World.putObj_heap_other (w := w) (hW.alone hl hi rfl x o3 j e p hx))⟩
      have hst : WStep φ w φ (w.putObj i'.r (.deferred none)) :=
        ⟨rfl, rfl, rfl, by simp, Ext.refl _, fun _ _ e => .inl e, fun r _ hn => World.putObj_heap_other (w := w) (fun e => hn b i' hi e.symm)⟩
      refine ⟨by simp, .inl ⟨i'.r, _, hd, run_takeDeferred o, ?_⟩⟩
      exact takeMarks_ok bs ds φ _ A' _ h hms hW1 (fun w' h1 h2 => hq w' h1 (hst.trans h2))
    · cases h
  | [], _ :: _, φ, A, A', w, h, hm, hW, hq => hm.elim
  | _ :: _, [], φ, A, A', w, h, hm, hW, hq => hm.elim
theorem run_mapM_list {α : Type} {f : α → Sem Value} {w : World} : ∀ {l : List α} {vs : List Value}, l.length = vs.length → (∀ (j : Nat) x v, l[j]? = some x → vs[j]? = some v → (f x).run P w = .ok v w) → (l.mapM f).run P w = .ok vs w
  | [], vs, h, _ => by
    have : vs = [] := List.eq_nil_of_length_eq_zero (by simpa using h.symm)
    subst this; rfl
  | x :: l, vs, h, hf => by
    cases vs with
    | nil => simp at h
    | cons v vs =>
      have h0 := hf 0 x v rfl rfl
      have ih := run_mapM_list (l := l) (vs := vs) (by simpa using h) (fun j y u p q => hf (j + 1) y u (by simpa using p) (by simpa using q))
      rw [List.mapM_cons, Sem.run_bind, h0]
      simp only [Result.andThen_ok, Sem.run_bind, ih, Sem.run_pure]
theorem aResults_ok {φ : Emb} {T : Tr Value} {A : AW} {w : World} {tmps : Array Value} (hT : TRel φ T tmps) (hW : WRel φ A w) {g : ResultVar → Sem Value} (g1 : ∀ t, g (.tmp t) = pure (tmps.getD t undef))
    (g2 : ∀ a t, g (.cell a t) = do loadVar t (← asAddr (tmps.getD a undef))) : ∀ {rs : List ResultVar} {vs : List Value}, aResults P T A rs = some vs →
    ∃ vs' : List Value, LRel φ vs vs' ∧ rs.length = vs'.length ∧ ∀ (j : Nat) x v, rs[j]? = some x → vs'[j]? = some v → (g x).run P w = .ok v w
  | [], vs, h => by simp only [aResults, Option.some.injEq] at h; subst h; exact ⟨[], LRel.nil _, rfl, fun j x v e => by simp at e⟩
  | .tmp t :: rs, vs, h => by
    simp only [aResults] at h
    split at h
    · rename_i v ws h1 h2
      cases h
      obtain ⟨v', p, q⟩ := hT t v h1
      obtain ⟨vs', r1, r2, r3⟩ := aResults_ok hT hW g1 g2 h2
      refine ⟨v' :: vs', LRel.cons q r1, by simp [r2], fun j x u e f => ?_⟩
      cases j with
      | zero => simp at e f; subst e; subst f; rw [g1]; simp [Array.getD_eq_getD_getElem?, p]
      | succ j => exact r3 j x u (by simpa using e) (by simpa using f)
    · cases h
  | .cell a t :: rs, vs, h => by
    simp only [aResults] at h
    split at h
    · rename_i p hp
      split at h
      · rename_i v ws h1 h2
        cases h
        obtain ⟨pv, q1, q2⟩ := hT a _ hp
        obtain ⟨ad', v', e1, e2, e3⟩ := loadVar_rel hW h1 q2
        obtain ⟨vs', r1, r2, r3⟩ := aResults_ok hT hW g1 g2 h2
        subst e1
        refine ⟨v' :: vs', LRel.cons e3 r1, by simp [r2], fun j x u e f => ?_⟩
        cases j with
        | zero => simp at e f; subst e; subst f; rw [g2]; simp [Array.getD_eq_getD_getElem?, q1, asAddr, e2]
        | succ j => exact r3 j x u (by simpa using e) (by simpa using f)
      · cases h
    · cases h
theorem results_gen {φ : Emb} {T : Tr Value} {A : AW} {w : World} {tmps : Array Value} (hT : TRel φ T tmps) (hW : WRel φ A w) {g : ResultVar → Sem Value} (g1 : ∀ t, g (.tmp t) = pure (tmps.getD t undef))
    (g2 : ∀ a t, g (.cell a t) = do loadVar t (← asAddr (tmps.getD a undef))) {rs : Array ResultVar} {vs : List Value} (h : aResults P T A rs.toList = some vs) :
    ∃ v', (rs.mapM g >>= fun vs => (pure (if h : vs.size = 1 then vs[0] else .tuple vs) : Sem Value)).run P w = .ok v' w ∧ VRel φ (oneOf vs) v' := by
  obtain ⟨vs', r1, r2, r3⟩ := aResults_ok hT hW g1 g2 h
  have hm := run_mapM_list (P := P) (w := w) (l := rs.toList) (vs := vs') r2 r3
  rw [Sem.run_bind, Array.mapM_eq_mapM_toList]
  simp only [Sem.run_map, hm, Result.andThen_ok, Sem.run_pure]
  refine ⟨_, rfl, ?_⟩
  cases vs with
  | nil =>
    rw [r1.nil_inv]
    simp only [oneOf, List.size_toArray, List.length_nil]
    exact VRel.tuple_list (LRel.nil _)
  | cons v vs =>
    obtain ⟨y, b', rfl, p1, p2⟩ := r1.cons_inv
    cases vs with
    | nil => rw [p2.nil_inv]; simpa [oneOf] using p1
    | cons u us =>
      obtain ⟨z, c', rfl, p3, p4⟩ := p2.cons_inv
      have : ¬ (y :: z :: c').toArray.size = 1 := by simp
      rw [dif_neg this]
      exact VRel.tuple_list (LRel.cons p1 (LRel.cons p3 p4))
theorem results_ok {φ : Emb} {T : Tr Value} {A : AW} {w : World} {fn : Func} {tmps : Array Value} (hT : TRel φ T tmps) (hW : WRel φ A w) {vs : List Value} (h : aResults P T A fn.results.toList = some vs) :
    ∃ v', (results fn tmps).run P w = .ok v' w ∧ VRel φ (oneOf vs) v' :=
  results_gen hT hW (fun _ => rfl) (fun _ _ => rfl) h
def ToldOk (P : Program) (told : Told) : Prop :=
  ∀ f c args A v A', told f = some c → c args A = some (v, A') → Enters P f ∧ ∀ (φ : Emb) w (args' : Array Value), WRel φ A w → LRel φ args args'.toList → ∀ F n, Wide F → CallsIn F n P f args' w (Out φ w v A')
/-- THE THEOREM -/
theorem evCall_ok {pt : Pt} {told : Told} {lf : Nat} (hE : ∀ f fn, P.funcs[f]? = some fn → fn.body.isSome = true → Enters P f) (hm : P.follows .mixedOrders = true) (hp : PtOk P pt) (ht : ToldOk P told) :
    ∀ n, CallOk P (evCall P pt told lf n) ∧ RoundOk P (evRnd P pt told lf n) := by
  intro n
  induction n with
  | zero => exact ⟨fun f args A v A' h => by simp [evCall] at h, fun l args A v A' h => by simp [evRnd] at h⟩
  | succ n ih =>
    obtain ⟨hc, hr⟩ := ih
    refine ⟨fun f args A v A' h => ?_, fun l args A v A' h => ?_⟩
    · simp only [evCall] at h
      split at h
      · rename_i c hcd
        exact ht f c args A v A' hcd h
      · split at h
        · cases h
        · rename_i fn hfn0
          have hfn : P.funcs[f]? = some fn := by rw [Tr.get_ofL0] at hfn0; simpa using hfn0
          split at h
          · cases h
          · rename_i c hbody
            refine ⟨hE f fn hfn (by rw [hbody]; rfl), fun φ w args' hW hargs F k hF => ?_⟩
            obtain ⟨h1, h⟩ := bif_some h
            rw [nat_ble_eq, decide_eq_true_iff] at h1
            have hal : args'.size = args.length := by have := hargs.1; simp at this; omega
            have init : SRel φ ⟨Tr.ofL args 0 .nil, [], A⟩ fn.ntmps { tmps := args' ++ Array.replicate (fn.ntmps - args'.size) undef, defers := [] } w := by
              refine ⟨fun t u e => ?_, by simp; omega, trivial, hW⟩
              rw [Tr.get_ofL0] at e
              obtain ⟨y, q1, q2⟩ := hargs.get e
              refine ⟨y, ?_, q2⟩
              have hlt := (List.getElem?_eq_some_iff.1 q1).1
              simp at hlt
              rw [Array.getElem?_append_left hlt]
              simpa using q1
            have body : ∀ (e : AExit) (s : ASt) (A1 : AW) (vs : List Value), (e = .normal ∨ e = .ret) → evCode P pt (evCall P pt told lf n) (evRnd P pt told lf n) none fn.ntmps lf c ⟨Tr.ofL args 0 .nil, [], A⟩ = some (e, s) →
                takeMarks s.W s.marks = some A1 → aResults P s.T A1 fn.results.toList = some vs → CallsIn F k P f args' w (Out φ w (oneOf vs) A1) := by
              intro e s A1 vs he hev hmk hres
              show CallsIn F.plain k P f args' w (Out φ w (oneOf vs) A1)
              refine callsIn_of_wp_marks hfn hbody (hF.1 f) ?_
              refine evCode_ok hc hr hp hm (ro := none) (nt := fn.ntmps) (lf := lf) c φ _ e s _ w F.plain k _ hev init (wide_plain hF) rfl (fun ψ a' w' st hs => ?_)
              have := takeMarks_ok (P := P) (F := F.plain) (n := k) (fn := fn) (tmps := a'.tmps) (R := Out φ w (oneOf vs) A1) s.marks a'.defers ψ s.W A1 w' hmk hs.marks hs.mem (fun w2 h2 st2 => by
                obtain ⟨v', r1, r2⟩ := results_ok hs.tmps h2 hres
                exact ⟨v', r1, ψ, v', rfl, r2, h2, st.trans st2⟩)
              rcases he with rfl | rfl
              · exact this
              · exact this
            split at h
            · rename_i s hev
              split at h
              · rename_i A1 hmk
                split at h
                · rename_i vs hres
                  cases h
                  exact body .normal s _ vs (.inl rfl) hev hmk hres
                · cases h
              · cases h
            · rename_i s hev
              split at h
              · rename_i A1 hmk
                split at h
                · rename_i vs hres
                  cases h
                  exact body .ret s _ vs (.inr rfl) hev hmk hres
                · cases h
              · cases h
            · cases h
    · simp only [evRnd] at h
      exact evRound_ok hc hr hp hm l args A v A' h
/-- a closed call: no arguments, nothing in memory of its own -/
theorem calls_of_ev {pt : Pt} {told : Told} {lf n : Nat} (hE : ∀ f fn, P.funcs[f]? = some fn → fn.body.isSome = true → Enters P f) (hm : P.follows .mixedOrders = true) (hp : PtOk P pt) (ht : ToldOk P told) {f : FuncId} {b : Bool} {A' : AW}
    (h : evCall P pt told lf n f [] ⟨.nil, 0⟩ = some (.bool b, A')) (w : World) : Calls P f #[] w fun e w' => e = .returned (.bool b) ∧ Below w.heap.size w w' := by
  have := ((evCall_ok (lf := lf) hE hm hp ht n).1 f [] _ _ _ h).2 (fun _ => none) w #[] (WRel.start w) (LRel.nil _) Fence.wide 0 ⟨fun _ => trivial, rfl, rfl⟩
  refine (callsIn_wide.1 this).mono ?_
  rintro e w' ⟨ψ, v', rfl, r1, r2, r3⟩
  cases r1
  exact ⟨rfl, r3.below⟩
end Go.Proofs.YtcpafphgkbfahaaGreat
