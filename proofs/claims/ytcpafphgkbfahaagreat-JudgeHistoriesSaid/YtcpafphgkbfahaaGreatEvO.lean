/- An evaluator of closed runs: an operation, whatever it is. -/
import Derived.Test.YtcpafphgkbfahaaGreatEvN
namespace Go.Proofs.YtcpafphgkbfahaaGreat
open Go Go.RowKit
set_option linter.unusedSimpArgs false

variable {P : Program} {φ : Emb}
def Wide (F : Fence) : Prop := (∀ f, F.fn f) ∧ F.depth = none ∧ F.alive = false
def Enters (P : Program) (f : FuncId) : Prop := ∀ args w, (callFunc f args).run P w = .ok (.enter f args) w
/-- what a call's outcome says -/
def Out (φ : Emb) (w : World) (v : Value) (A' : AW) (e : Ending) (w' : World) : Prop := ∃ ψ v', e = .returned v' ∧ VRel ψ v v' ∧ WRel ψ A' w' ∧ WStep φ w ψ w'
def CallOk (P : Program) (call : Callee') : Prop :=
  ∀ f args A v A', call f args A = some (v, A') → Enters P f ∧ ∀ (φ : Emb) w (args' : Array Value), WRel φ A w → LRel φ args args'.toList → ∀ F n, Wide F → CallsIn F n P f args' w (Out φ w v A')
def RoundOk (P : Program) (round : Rounder) : Prop :=
  ∀ l args A v A', round l args A = some (v, A') → ∀ (φ : Emb) w (args' : Array Value) i, WRel φ A w → φ l = some i → LRel φ args args'.toList →
    ∃ f tmps assign body, (Instr.yield i.r args').run P w = .ok (.round i.r f tmps assign body) w ∧ ∀ F n, Wide F → RoundIn F n P i.r f tmps assign body w (Out φ w v A')
def PtOk (P : Program) (pt : Pt) : Prop :=
  ∀ g args v, ptAt pt g args = some v → Enters P g ∧ ∀ w F n, Wide F → CallsIn F n P g args.toArray w (fun e w' => e = .returned v ∧ w = w')
theorem wide_depth {F : Fence} {n : Nat} (h : Wide F) : F.depth.isSome = true → 1 ≤ n := fun e => by rw [h.2.1] at e; cases e
/-- an operation that the evaluator carries out goes on so -/
def Goes (P : Program) (φ : Emb) (w : World) (a : Act) (o : Oper) (v : Value) (A' : AW) : Prop :=
  ∀ F n next Q, Wide F → (∀ ψ w' v', VRel ψ v v' → WRel ψ A' w' → WStep φ w ψ w' → next (a.put o.dst v') w') → o.wpIn F n P a w next Q
theorem goes_of_value {A : AW} {w : World} {a : Act} {o : Oper} {v v' : Value} (hW : WRel φ A w) (hd : ∀ c, o.op ≠ .defer c) (h : (execOp a.eval o).run P w = .ok (.value v') w) (r : VRel φ v v') : Goes P φ w a o v A := by
  intro F n next Q hF hn
  refine ⟨fun f _ => hF.1 f, ?_⟩
  rw [Oper.semAt_eq _ _ _ hd, h]
  exact hn φ w v' r hW (WStep.refl _ _)
theorem goes_of_does {A' : AW} {w : World} {a : Act} {o : Oper} {v : Value} (hd : ∀ c, o.op ≠ .defer c) (h : Does P φ w (execOp a.eval o) v A') : Goes P φ w a o v A' := by
  intro F n next Q hF hn
  obtain ⟨nx, w', ψ, v', h1, h2, h3, h4, h5⟩ := h
  refine ⟨fun f _ => hF.1 f, ?_⟩
  rw [Oper.semAt_eq _ _ _ hd, h1]
  rcases h2 with rfl | ⟨rfl, rfl⟩
  · exact hn ψ w' v' h3 h4 h5
  · exact hn ψ w' _ h3 h4 h5
theorem does_skip {A' : AW} {w : World} {s : Sem Unit} {v : Value} (hv : v = undef) {w' : World} (h : s.run P w = .ok () w') (h2 : WRel φ A' w') (h3 : WStep φ w φ w') : Does P φ w (do s; pure Next.skip) v A' :=
  ⟨.skip, w', φ, undef, by simp [h], .inr ⟨rfl, rfl⟩, hv ▸ VRel.undef φ, h2, h3⟩
theorem withW_some {A A' : AW} {x : Option Value} {v : Value} (h : withW A x = some (v, A')) : x = some v ∧ A' = A := by
  cases x with
  | none => cases h
  | some u => cases h; exact ⟨rfl, rfl⟩
theorem hBuiltin_ok {A A' : AW} {w : World} (hW : WRel φ A w) {T : Tr Value} {a : Act} (hT : TRel φ T a.tmps) {b : Builtin} {args : Array Operand} {argTypes : Array TypeId} {v : Value} (h : hBuiltin P T A b args argTypes = some (v, A')) (type : TypeId) (consts : Array Bool) :
    Does P φ w (builtin b argTypes type consts (args.map a.eval)) v A' := by
  unfold hBuiltin at h
  split at h
  · rename_i vs hvs
    have r := aevs_rel hT hvs
    have hk := heavyBuiltin_ok (ty := type) hW r h
    have e : (args.toList.map a.eval).toArray = args.map a.eval := Array.ext' (by simp)
    rw [e] at hk
    rcases heavyBuiltin_kind h with rfl | rfl | rfl | rfl <;> exact hk.next
  · cases h
theorem heavy_goes {A A' : AW} {w : World} (hW : WRel φ A w) {T : Tr Value} {a : Act} (hT : TRel φ T a.tmps) {o : Oper} {v : Value} (h : heavyOp P T A o.op = some (v, A')) : Goes P φ w a o v A' := by
  obtain ⟨dst, op, type, pos, after, guard⟩ := o
  simp only [] at h
  cases op <;> simp only [heavyOp] at h <;> try (cases h; done)
  case alloc t => exact goes_of_does (fun c => by simp) (hAlloc_ok hW h).next
  case box t x => exact goes_of_does (fun c => by simp) (hBox_ok (t := t) hW hT h).next
  case buildSlice t len parts => exact goes_of_does (fun c => by simp) (hBuildSlice_ok hW hT h).next
  case insert t m k x => obtain ⟨e, w', p, q, r⟩ := hUpdate_ok hW hT h; exact goes_of_does (fun c => by simp) (does_skip e p q r)
  case store t x y => obtain ⟨e, w', p, q, r⟩ := hStore_ok hW hT h; exact goes_of_does (fun c => by simp) (does_skip e p q r)
  case makeMap t r => exact goes_of_does (fun c => by simp) (hMakeMap_ok hW hT h).next
  case makeSlice t l c => exact goes_of_does (fun c => by simp) (hMakeSlice_ok hW hT h).next
  case mapUpdate t m k x => obtain ⟨e, w', p, q, r⟩ := hUpdate_ok hW hT h; exact goes_of_does (fun c => by simp) (does_skip e p q r)
  case mapEntry t m k => exact goes_of_does (fun c => by simp) (hMapEntry_ok hW hT h).next
  case entryStore t m s x => obtain ⟨e, w', p, q, r⟩ := hEntryStore_ok (t := t) hW hT h; exact goes_of_does (fun c => by simp) (does_skip e p q r)
  case range t x => exact goes_of_does (fun c => by simp) (hRange_ok hW hT h).next
  case next x isS => exact goes_of_does (fun c => by simp) (hNext_ok (ty := type) hW hT h).next
  case entry x => exact goes_of_does (fun c => by simp) (hEntry_ok hW hT h).next
  case call c =>
    obtain ⟨callee, args, argTypes⟩ := c
    unfold hCall at h
    simp only [] at h
    split at h
    · rename_i b
      refine goes_of_does (fun c => by simp) ?_
      exact hBuiltin_ok hW hT h type _
    · cases h
theorem call_goes {pt : Pt} {call : Callee'} {round : Rounder} (hc : CallOk P call) (hr : RoundOk P round) (hp : PtOk P pt) {A A' : AW} {w : World} (hW : WRel φ A w) {T : Tr Value} {a : Act} (hT : TRel φ T a.tmps)
    {dst : Option Tmp} {f : Operand} {args : Array Operand} {argTypes : Array TypeId} {type : TypeId} {pos : String} {after : Array Edge} {guard : Option (Nat × Bool)} {v : Value} (h : callOp pt call round T A f args = some (v, A')) :
    Goes P φ w a ⟨dst, .call ⟨.value f, args, argTypes⟩, type, pos, after, guard⟩ v A' := by
  intro F n next Q hF hn
  refine ⟨fun f _ => hF.1 f, ?_⟩
  rw [Oper.semAt_eq _ _ _ (fun c => by simp)]
  unfold callOp at h
  split at h
  · rename_i g first captured vs hf hvs
    have rf := aev_rel hT hf
    have rv := aevs_rel hT hvs
    generalize hq : a.eval f = q at rf
    cases rf with
    | func hfn ha q1 hcc q2 =>
      rename_i first' captured'
      have rall : LRel φ (first.toList ++ vs ++ captured.toList) (first'.toList ++ args.toList.map a.eval ++ captured'.toList) := ((LRel.of_array ha q1).append rv).append (LRel.of_array hcc q2)
      have hex : ∀ (he : Enters P g), (execOp a.eval ⟨dst, .call ⟨.value f, args, argTypes⟩, type, pos, after, guard⟩).run P w = .ok (.enter g (first' ++ args.map a.eval ++ captured')) w := by
        intro he
        simp [execOp, resolve, hq, Deferred.ofValue, invoke, he _ _]
      have elist : (first' ++ args.map a.eval ++ captured').toList = first'.toList ++ args.toList.map a.eval ++ captured'.toList := by simp
      split at h
      · rename_i u hu
        cases h
        obtain ⟨he, hcall⟩ := hp g _ v hu
        rw [hex he]
        have hu' := hu
        unfold ptAt at hu'
        split at hu'
        · rename_i u' hu2
          obtain ⟨k1, k2⟩ := bif_some hu'
          simp only [Bool.and_eq_true] at k1
          have eargs := all_ground_eq k1.1 rall
          have : (first' ++ args.map a.eval ++ captured') = (first.toList ++ vs ++ captured.toList).toArray := Array.ext' (by rw [elist, eargs])
          rw [this]
          refine ⟨wide_depth hF, (hcall w F (n - 1) hF).mono ?_⟩
          rintro e w' ⟨rfl, rfl⟩
          cases k2
          exact hn φ w v ((ground_of 8 v k1.2).1 φ) hW (WStep.refl _ _)
        · cases hu'
      · obtain ⟨he, hcall⟩ := hc g _ A v A' h
        rw [hex he]
        refine ⟨wide_depth hF, (hcall φ w _ hW (by rw [elist]; exact rall) F (n - 1) hF).mono ?_⟩
        rintro e w' ⟨ψ, v', rfl, p1, p2, p3⟩
        exact hn ψ w' v' p1 p2 p3
  · rename_i l first captured vs hf hvs
    have rf := aev_rel hT hf
    have rv := aevs_rel hT hvs
    generalize hq : a.eval f = q at rf
    cases rf with
    | yield hi =>
      rename_i i
      obtain ⟨ff, tmps, assign, body, hy, hround⟩ := hr l vs A v A' h φ w (args.map a.eval) i hW hi (by simpa using rv)
      have hex : (execOp a.eval ⟨dst, .call ⟨.value f, args, argTypes⟩, type, pos, after, guard⟩).run P w = .ok (.round i.r ff tmps assign body) w := by
        simp [execOp, resolve, hq, Deferred.ofValue, invoke, hy]
      rw [hex]
      refine ⟨wide_depth hF, (hround F (n - 1) hF).mono ?_⟩
      rintro e w' ⟨ψ, v', rfl, p1, p2, p3⟩
      exact hn ψ w' v' p1 p2 p3
    | func hfn => simp [fnOk] at hfn
  · cases h
/-- ONE OPERATION -/
theorem oneOp_goes {pt : Pt} {call : Callee'} {round : Rounder} (hc : CallOk P call) (hr : RoundOk P round) (hp : PtOk P pt) {A A' : AW} {w : World} (hW : WRel φ A w) {T : Tr Value} {a : Act} (hT : TRel φ T a.tmps)
    {o : Oper} {v : Value} (h : oneOp P pt call round T A o.type o.op = some (v, A')) : Goes P φ w a o v A' := by
  have pureG : ∀ {x : Option Value}, withW A x = some (v, A') → (x = pureOp P T o.type o.op) → (∀ c, o.op ≠ .defer c) → Goes P φ w a o v A' := by
    intro x e1 e2 e3
    obtain ⟨q1, rfl⟩ := withW_some e1
    obtain ⟨v', r1, r2⟩ := pureOp_ok hT (e2 ▸ q1) w
    exact goes_of_value hW e3 r1 r2
  have readG : ∀ {x : Option Value}, withW A x = some (v, A') → (x = readOp P T A o.op) → (∀ c, o.op ≠ .defer c) → Goes P φ w a o v A' := by
    intro x e1 e2 e3
    obtain ⟨q1, rfl⟩ := withW_some e1
    obtain ⟨v', r1, r2⟩ := readOp_ok hT hW (e2 ▸ q1)
    exact goes_of_value hW e3 r1 r2
  obtain ⟨dst, op, type, pos, after, guard⟩ := o
  simp only [] at h
  cases op <;> simp only [oneOp_def, oneOpM] at h <;> try (cases h; done)
  case load t x => exact readG h rfl (fun c => by simp)
  case lookup t m k ok => exact readG h rfl (fun c => by simp)
  case call c =>
    obtain ⟨callee, args, argTypes⟩ := c
    unfold callAny at h
    simp only [] at h
    split at h
    · exact call_goes hc hr hp hW hT h
    · exact readG h rfl (fun c => by simp)
    · exact pureG h rfl (fun c => by simp)
    · exact pureG h rfl (fun c => by simp)
    · exact pureG h rfl (fun c => by simp)
    · exact heavy_goes hW hT h
    · cases h
  all_goals first
    | exact heavy_goes hW hT h
    | exact pureG h rfl (fun c => by simp)
end Go.Proofs.YtcpafphgkbfahaaGreat
