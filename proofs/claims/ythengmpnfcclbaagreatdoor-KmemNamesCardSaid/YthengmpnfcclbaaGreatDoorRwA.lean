/- Run, as works calls it: told; works() is true wherever goesOn holds what it holds. -/
import Derived.Test.YthengmpnfcclbaaGreatDoorPcW0
import Derived.Test.YthengmpnfcclbaaGreatDoorPcW1
import Derived.Test.YthengmpnfcclbaaGreatDoorPcW2
import Derived.Test.YthengmpnfcclbaaGreatDoorPcW3
import Derived.Test.YthengmpnfcclbaaGreatDoorPcW4
import Derived.Test.YthengmpnfcclbaaGreatDoorPeW
namespace Go.Proofs.YthengmpnfcclbaaGreatDoor
open Go Go.RowKit
theorem c5_body : Tryz.f5.body = some c5 := by
  unfold c5 bodyOf
  rw [Tryz.func5]
  rfl
theorem runW_code : CodeAt Tryz.prog none 71 c5 ⟨Tr.ofL [qp 15 0, qi 1000] 0 .nil, [], stWA.W⟩ .ret stWE.st := by
  rw [c5_eq]
  exact (kat pcWA).seq ((kat pcWB).seq (((kat pcWC).seq (CodeAt.loop (((((kround pcW0).trans (kround pcW1)).trans (kround pcW2)).trans (kround pcW3)).trans (kround pcW4)) (kat pcWL) (by simp)).block).seq (kat pcWR)))
theorem runW_at : CallAt Tryz.prog 5 [qp 15 0, qi 1000] stWA.W (qi 74) stWE.W :=
  callAt_of (fn := Tryz.f5) (vs := [qi 74]) Tryz.func5 c5_body (by decide) (.inr rfl) runW_code rfl (by kernel_rfl)
/-! ### Closed calls beside the package variable -/
noncomputable def gA : AW := ⟨heapOf [(0, .glob 0 goesOn)], 1⟩
noncomputable def globIn (A : AW) : Bool :=
  match A.heap.get 0 with
  | some (.glob 0 l) => valsEq l goesOn
  | _ => false
noncomputable def chkT (x : Option (Value × AW)) : Bool :=
  match x with
  | some (.bool true, A) => globIn A
  | _ => false
theorem globIn_eq {A : AW} (h : globIn A = true) : A.heap.get 0 = some (.glob 0 goesOn) := by
  unfold globIn at h
  split at h
  · rename_i l hl; rw [hl, valsEq_eq h]
  · cases h
theorem chkT_some {x : Option (Value × AW)} (h : chkT x = true) : ∃ A, x = some (.bool true, A) ∧ A.heap.get 0 = some (.glob 0 goesOn) := by
  unfold chkT at h
  split at h
  · exact ⟨_, rfl, globIn_eq h⟩
  · cases h
theorem gA_get (b : Nat) (o : AObj) (h : gA.heap.get b = some o) : b = 0 ∧ o = .glob 0 goesOn := by
  obtain ⟨x, q1, q2⟩ := heapOf_get _ _ _ h
  simp only [List.mem_singleton, Prod.mk.injEq] at q1
  obtain ⟨rfl, rfl⟩ := q1
  exact ⟨rfl, q2⟩
theorem glob_calls {told : Told} {lf n f : Nat} (ht : ToldOk Tryz.prog told) (h : chkT (evCall Tryz.prog ptT told lf n f [] gA) = true) {w : World} {t : TypeId} (hw : w.heap[0]? = some (.cells goesOn.toArray t (0, 0))) {F : Fence} (hF : Wide F) (k : Nat) :
    CallsIn F k Tryz.prog f #[] w fun e w' => e = .returned (.bool true) ∧ Below w.heap.size w w' := by
  obtain ⟨A', hev, hg⟩ := chkT_some h
  have h0 := (Array.getElem?_eq_some_iff.1 hw).1
  have hrel : WRel (fun b => if b = 0 then some ⟨0, 0, 0, t⟩ else none) gA w := by
    refine ⟨fun b i e => ?_, fun b i e => ?_, fun b o e => ?_, fun b1 b2 o1 o2 i1 i2 e1 e2 _ _ _ hne => ?_⟩
    · split at e
      · show b < 1; omega
      · cases e
    · split at e
      · cases e; exact h0
      · cases e
    · obtain ⟨rfl, rfl⟩ := gA_get b o e
      exact ⟨⟨0, 0, 0, t⟩, rfl, rfl, rfl, hw⟩
    · exact absurd ((gA_get _ _ e1).1.trans (gA_get _ _ e2).1.symm) hne
  refine (((evCall_ok (lf := lf) enters_ok mixed_ok ptT_ok ht n).1 f [] _ _ _ hev).2 _ w #[] hrel (LRel.nil _) F k hF).mono ?_
  rintro e w' ⟨ψ, v', rfl, r1, r2, r3⟩
  cases r1
  refine ⟨rfl, r3.os, r3.tape, r3.output, r3.size, fun r hr => ?_⟩
  by_cases hr0 : r = 0
  · subst hr0
    obtain ⟨i, p1, g1, g2, g3⟩ := r2.live 0 _ hg
    have e0 := r3.ext 0 ⟨0, 0, 0, t⟩ (by simp)
    rw [e0] at p1
    cases p1
    rw [hw]; exact g3
  · refine r3.frame r hr (fun b i e => ?_)
    split at e
    · cases e; exact fun h => hr0 h.symm
    · cases e
/-- works(), its call of Run told -/
noncomputable def toldWorks : Told := fun f => bif Nat.beq f 5 then some (toldAt [qp 15 0, qi 1000] stWA (qi 74) stWE.W) else toldOn f
theorem toldWorks_ok : ToldOk Tryz.prog toldWorks := by
  intro f c args A v A' h1 h2
  unfold toldWorks at h1
  cases h3 : Nat.beq f 5 with
  | true =>
    rw [h3, cond_true] at h1
    rw [nat_beq_eq, decide_eq_true_iff] at h3
    subst h3
    have e1 := Option.some.inj h1
    rw [← e1] at h2
    exact ⟨enters_ok 5 _ Tryz.func5 (by rw [c5_body]; rfl), toldAt_ok runW_at h2⟩
  | false =>
    rw [h3, cond_false] at h1
    exact toldOn_ok f c args A v A' h1 h2
theorem works_k : chkT (evCall Tryz.prog ptT toldWorks 2000 60 19 [] gA) = true := by kernel_rfl
end Go.Proofs.YthengmpnfcclbaaGreatDoor
