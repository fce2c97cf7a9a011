/- KmemNames in pieces: what is told; the pieces of Run's code. -/
import Derived.Test.YthengmpnfcclbaaGreatDoorOnA
namespace Go.Proofs.YthengmpnfcclbaaGreatDoor
open Go Go.RowKit
/-- `on`, told -/
noncomputable def toldOn : Told := fun f => bif Nat.beq f 328 then some onTold else none
theorem toldOn_ok : ToldOk Tryz.prog toldOn := by
  intro f c args A v A' h1 h2
  unfold toldOn at h1
  obtain ⟨h3, h1⟩ := bif_some h1
  rw [nat_beq_eq, decide_eq_true_iff] at h3
  subst h3
  have e1 := Option.some.inj h1
  rw [← e1] at h2
  exact ⟨enters_ok 328 _ Tryz.func328 (by rfl), onTold_ok h2⟩
noncomputable abbrev kev (c : Code) (s : ASt) : Res := evCode Tryz.prog ptT (evCall Tryz.prog ptT toldOn 2000 60) (evRnd Tryz.prog ptT toldOn 2000 60) none 71 2000 c s
noncomputable def c5 : Code := bodyOf Tryz.prog 5
noncomputable def runA : Code := s1 c5
noncomputable def runB : Code := s1 (s2 c5)
noncomputable def runC : Code := s1 (s1 (s2 (s2 c5)))
noncomputable def runL : Code := in1 (in1 (s2 (s1 (s2 (s2 c5)))))
noncomputable def runR : Code := s2 (s2 (s2 c5))
theorem c5_eq : c5 = .seq runA (.seq runB (.seq (.seq runC (.block 0 (.loop runL))) runR)) := by kernel_rfl
theorem kround {m : Nat} {s : ASt} {z : SLit} (h : litChk (evRounds (kev runL) m s) .normal z = true) : Rounds Tryz.prog none 71 runL m s z.st :=
  rounds_of_ev enters_ok mixed_ok ptT_ok toldOn_ok h
theorem kat {c : Code} {s : ASt} {e : AExit} {z : SLit} (h : litChk (kev c s) e z = true) : CodeAt Tryz.prog none 71 c s e z.st :=
  codeAt_of_ev enters_ok mixed_ok ptT_ok toldOn_ok h
end Go.Proofs.YthengmpnfcclbaaGreatDoor
