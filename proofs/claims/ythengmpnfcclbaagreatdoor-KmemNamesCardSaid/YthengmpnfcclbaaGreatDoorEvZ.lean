/- An evaluator of closed runs: a long run in pieces: between the pieces only temporaries that are the same in every world are kept. -/
import Derived.LoopNIn
import Derived.Test.YthengmpnfcclbaaGreatDoorEvV
namespace Go.Proofs.YthengmpnfcclbaaGreatDoor
open Go Go.RowKit

variable {P : Program}
def Holds (T : List (Nat × Value)) (a : Act) : Prop := ∀ tv ∈ T, a.tmps[tv.1]? = some tv.2
def Seg (P : Program) (nt : Nat) (c : Code) (T T' : List (Nat × Value)) (e : AExit) : Prop :=
  ∀ (a : Act) (w : World) (F : Fence) (n : Nat) (Q : Exit → Act → World → Prop), Holds T a → a.tmps.size = nt → a.defers = [] → Wide F → F.round = none →
    (∀ a' w', Holds T' a' → a'.tmps.size = nt → a'.defers = [] → Below w.heap.size w w' → Q e.real a' w') → c.wpIn F n P Q a w
def exitEq : AExit → AExit → Bool
  | .normal, .normal => true
  | .exit a, .exit b => Nat.beq a b
  | .goto a, .goto b => Nat.beq a b
  | .ret, .ret => true
  | _, _ => false
theorem exitEq_eq {a b : AExit} (h : exitEq a b = true) : a = b := by
  cases a <;> cases b <;> simp [exitEq] at h <;> first | rfl | (rw [h])
noncomputable def trOf : List (Nat × Value) → Tr Value
  | [] => .nil
  | (t, v) :: l => (trOf l).put t (some v)
theorem trOf_get : ∀ (l : List (Nat × Value)) (t : Nat) (v : Value), (trOf l).get t = some v → (t, v) ∈ l
  | [], t, v, h => by simp [trOf, Tr.get_nil] at h
  | (u, x) :: l, t, v, h => by
    rw [trOf, Tr.get_put] at h
    split at h
    · rename_i e; cases h; subst e; simp
    · exact List.mem_cons_of_mem _ (trOf_get l t v h)
noncomputable def segChk (x : Res) (e : AExit) (T' : List (Nat × Value)) : Bool :=
  match x with
  | some (e', s) => exitEq e' e && (s.marks.isEmpty && T'.all fun tv => groundB 8 tv.2 && (match s.T.get tv.1 with
    | some u => veq 8 u tv.2
    | none => false))
  | none => false
theorem seg_of_ev {pt : Pt} {told : Told} {lf n nt : Nat} (hE : ∀ f fn, P.funcs[f]? = some fn → fn.body.isSome = true → Enters P f) (hm : P.follows .mixedOrders = true) (hp : PtOk P pt) (ht : ToldOk P told) {c : Code} {T T' : List (Nat × Value)} {e : AExit}
    (h : segChk (evCode P pt (evCall P pt told lf n) (evRnd P pt told lf n) none nt lf c ⟨trOf T, [], ⟨.nil, 0⟩⟩) e T' = true) (hT : (T.all fun tv => groundB 8 tv.2) = true) : Seg P nt c T T' e := by
  intro a w F k Q ha hs hd hF hro hq
  unfold segChk at h
  split at h
  · rename_i e' s hev
    simp only [Bool.and_eq_true, List.isEmpty_iff, List.all_eq_true] at h
    obtain ⟨h1, h2, h3⟩ := h
    have e1 := exitEq_eq h1
    subst e1
    obtain ⟨hc, hr⟩ := evCall_ok (lf := lf) hE hm hp ht n
    have init : SRel (fun _ => none) ⟨trOf T, [], ⟨.nil, 0⟩⟩ nt a w := by
      refine ⟨fun t v ht => ?_, hs, by rw [hd]; trivial, WRel.start w⟩
      have hmem := trOf_get T t v ht
      exact ⟨v, ha _ hmem, (ground_of 8 v (List.all_eq_true.1 hT _ hmem)).1 _⟩
    refine evCode_ok hc hr hp hm (ro := none) (nt := nt) (lf := lf) c (fun _ => none) _ e' s a w F k _ hev init hF hro (fun ψ a' w' st hs' => ?_)
    refine hq a' w' (fun tv htv => ?_) hs'.size ?_ st.below
    · obtain ⟨g1, g2⟩ := h3 tv htv
      split at g2
      · rename_i u hu
        have eu := veq_eq 8 u tv.2 g2
        obtain ⟨v', q1, q2⟩ := hs'.tmps _ _ hu
        rw [q1, (ground_of 8 tv.2 g1).2 ψ v' (eu ▸ q2)]
      · cases g2
    · have hmk := hs'.marks
      rw [h2] at hmk
      cases hd' : a'.defers with
      | nil => rfl
      | cons d ds => rw [hd'] at hmk; exact hmk.elim
  · cases h
theorem below_trans {B B' : Nat} {a b c : World} (h : Below B a b) (k : Below B' b c) (hB : B ≤ B') : Below B a c :=
  ⟨k.os.trans h.os, k.tape.trans h.tape, k.output.trans h.output, Nat.le_trans h.size k.size, fun r hr => (k.block r (Nat.lt_of_lt_of_le hr hB)).trans (h.block r hr)⟩
theorem Seg.seq {nt : Nat} {x y : Code} {T T1 T2 : List (Nat × Value)} {e : AExit} (h : Seg P nt x T T1 .normal) (k : Seg P nt y T1 T2 e) : Seg P nt (.seq x y) T T2 e := by
  intro a w F n Q ha hs hd hF hro hq
  refine wpIn_seq (h a w F n _ ha hs hd hF hro (fun a1 w1 h1 h2 h3 h4 => ?_))
  exact k a1 w1 F n Q h1 h2 h3 hF hro (fun a2 w2 k1 k2 k3 k4 => hq a2 w2 k1 k2 k3 (below_trans h4 k4 h4.size))
theorem Seg.block {nt : Nat} {x : Code} {T T1 : List (Nat × Value)} {id : Nat} (h : Seg P nt x T T1 (.exit id)) : Seg P nt (.block id x) T T1 .normal := by
  intro a w F n Q ha hs hd hF hro hq
  refine wpIn_block (h a w F n _ ha hs hd hF hro (fun a1 w1 h1 h2 h3 h4 => ?_))
  have := hq a1 w1 h1 h2 h3 h4
  simpa [Exit.inBlock, AExit.real] using this
theorem Seg.loop {nt : Nat} {c : Code} {S : Nat → List (Nat × Value)} {T : List (Nat × Value)} {id : Nat} {m : Nat} (h : ∀ k, k < m → Seg P nt c (S k) (S (k + 1)) .normal) (l : Seg P nt c (S m) T (.exit id)) : Seg P nt (.loop c) (S 0) T (.exit id) := by
  intro a w F n Q ha hs hd hF hro hq
  refine wpIn_loop_rounds (m + 1) ?_
  have key : ∀ (j k : Nat) (a1 : Act) (w1 : World), k + j = m → Holds (S k) a1 → a1.tmps.size = nt → a1.defers = [] → Below w.heap.size w w1 → Code.roundsIn F n P c Q (j + 1) a1 w1 := by
    intro j
    induction j with
    | zero =>
      intro k a1 w1 hk h1 h2 h3 h4
      have : k = m := by omega
      subst this
      rw [roundsIn_succ]
      refine l a1 w1 F n _ h1 h2 h3 hF hro (fun a2 w2 k1 k2 k3 k4 => ?_)
      exact hq a2 w2 k1 k2 k3 (below_trans h4 k4 h4.size)
    | succ j ih =>
      intro k a1 w1 hk h1 h2 h3 h4
      rw [roundsIn_succ]
      refine h k (by omega) a1 w1 F n _ h1 h2 h3 hF hro (fun a2 w2 k1 k2 k3 k4 => ?_)
      exact ih (k + 1) a2 w2 (by omega) k1 k2 k3 (below_trans h4 k4 h4.size)
  exact key m 0 a w (by omega) ha hs hd ⟨rfl, rfl, rfl, Nat.le_refl _, fun _ _ => rfl⟩
theorem Seg.calls {nt : Nat} {c : Code} {T : List (Nat × Value)} {t : Tmp} {b : Bool} (h : Seg P nt c [] T .ret) {f : FuncId} {fn : Func} (hf : P.funcs[f]? = some fn) (hb : fn.body = some c) (hn : fn.ntmps = nt) (hr : fn.results = #[.tmp t]) (hm : (t, Value.bool b) ∈ T) (w : World) :
    Calls P f #[] w fun e w' => e = .returned (.bool b) ∧ Below w.heap.size w w' := by
  refine callsIn_wide.1 (callsIn_of_wp (n := 0) hf hb trivial ?_)
  refine h _ w Fence.wide 0 _ (fun tv htv => by simp at htv) (by simp [hn]) rfl ⟨fun _ => trivial, rfl, rfl⟩ rfl (fun a' w' h1 h2 h3 h4 => ?_)
  obtain ⟨v', r1, r2⟩ := results_ok (fn := fn) (tmps := a'.tmps) (φ := fun _ => none) (T := Tr.put .nil t (some (.bool b))) (A := ⟨.nil, 0⟩) (w := w') (P := P) (vs := [.bool b]) (fun u x e => by
    rw [Tr.get_put] at e
    split at e
    · rename_i hu; cases e; subst hu; exact ⟨_, h1 _ hm, .bool _⟩
    · rw [Tr.get_nil] at e; cases e) (WRel.start w') (by rw [hr]; simp [aResults, Tr.get_put])
  refine ⟨h3, v', r1, ?_, h4⟩
  simp only [oneOf] at r2
  cases r2
  rfl
def bodyOf (P : Program) (f : FuncId) : Code := ((P.funcs[f]?).bind (·.body)).getD .skip
def s1 : Code → Code
  | .seq a _ => a
  | _ => .skip
def s2 : Code → Code
  | .seq _ b => b
  | _ => .skip
def in1 : Code → Code
  | .block _ a => a
  | .loop a => a
  | _ => .skip
/-- a call that leaves what is below as it was, told -/
theorem Out.of_below {φ : Emb} {A : AW} {w w' : World} (h : WRel φ A w) (hb : Below w.heap.size w w') (b : Bool) : Out φ w (.bool b) A (.returned (.bool b)) w' := by
  refine ⟨φ, _, rfl, .bool _, ⟨h.dom, fun x i e => Nat.lt_of_lt_of_le (h.real x i e) hb.size, fun x o e => ?_, h.sep⟩, ⟨hb.os, hb.tape, hb.output, hb.size, Ext.refl _, fun _ _ e => .inl e, fun r hr _ => hb.block r hr⟩⟩
  obtain ⟨i, p, q⟩ := h.live x o e
  exact ⟨i, p, q.mono (Ext.refl _) (hb.block _ (h.real _ _ p))⟩
end Go.Proofs.YthengmpnfcclbaaGreatDoor
