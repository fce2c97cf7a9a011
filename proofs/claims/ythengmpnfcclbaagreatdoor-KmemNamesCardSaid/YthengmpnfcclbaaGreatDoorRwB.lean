/- KmemNames is true wherever goesOn holds what it holds. -/
import Derived.Test.YthengmpnfcclbaaGreatDoorRwA
import Derived.Test.YthengmpnfcclbaaGreatDoorPcK0
import Derived.Test.YthengmpnfcclbaaGreatDoorPcK1
import Derived.Test.YthengmpnfcclbaaGreatDoorPcK2
import Derived.Test.YthengmpnfcclbaaGreatDoorPcK3
import Derived.Test.YthengmpnfcclbaaGreatDoorPcK4
import Derived.Test.YthengmpnfcclbaaGreatDoorPcK5
import Derived.Test.YthengmpnfcclbaaGreatDoorPcK6
import Derived.Test.YthengmpnfcclbaaGreatDoorPeK
namespace Go.Proofs.YthengmpnfcclbaaGreatDoor
open Go Go.RowKit
theorem runK_code : CodeAt Tryz.prog none 71 c5 ⟨Tr.ofL [qp 56 0, qi 20000] 0 .nil, [], stKA.W⟩ .ret stKE.st := by
  rw [c5_eq]
  exact (kat pcKA).seq ((kat pcKB).seq (((kat pcKC).seq (CodeAt.loop (((((((kround pcK0).trans (kround pcK1)).trans (kround pcK2)).trans (kround pcK3)).trans (kround pcK4)).trans (kround pcK5)).trans (kround pcK6)) (kat pcKL) (by simp)).block).seq (kat pcKR)))
theorem runK_at : CallAt Tryz.prog 5 [qp 56 0, qi 20000] stKA.W (qi 120) stKE.W :=
  callAt_of (fn := Tryz.f5) (vs := [qi 120]) Tryz.func5 c5_body (by decide) (.inr rfl) runK_code rfl (by kernel_rfl)
/-- works(), told -/
noncomputable def worksTold (args : List Value) (A : AW) : Option (Value × AW) :=
  match args with
  | [] => bif globIn A then some (.bool true, A) else none
  | _ => none
theorem worksTold_ok {args : List Value} {A : AW} {v : Value} {A' : AW} (h : worksTold args A = some (v, A')) : CallAt Tryz.prog 19 args A v A' := by
  unfold worksTold at h
  split at h
  · obtain ⟨h1, h2⟩ := bif_some h
    cases h2
    intro φ w args' hW hl F n hF
    have e : args' = #[] := Array.ext' (by simpa using hl.nil_inv)
    subst e
    obtain ⟨i, p1, g1, g2, g3⟩ := hW.live 0 _ (globIn_eq h1)
    rw [g1] at g3
    refine (glob_calls toldWorks_ok works_k g3 hF n).mono ?_
    rintro e w' ⟨rfl, hb⟩
    exact Out.of_below hW hb true
  · cases h
/-- Run: of a machine that is none; of this machine -/
noncomputable def runTold (args : List Value) (A : AW) : Option (Value × AW) :=
  match args with
  | Value.pointer none :: _ => evCall Tryz.prog ptT toldOn 2000 20 5 args A
  | Value.pointer (some _) :: _ => match toldAt [qp 56 0, qi 20000] stKA (qi 120) stKE.W args A with
    | some r => some r
    | none => evCall Tryz.prog ptT toldOn 2000 20 5 args A
  | _ => none
theorem runTold_ok {args : List Value} {A : AW} {v : Value} {A' : AW} (h : runTold args A = some (v, A')) : CallAt Tryz.prog 5 args A v A' := by
  have ev : evCall Tryz.prog ptT toldOn 2000 20 5 args A = some (v, A') → CallAt Tryz.prog 5 args A v A' := fun h =>
    ((evCall_ok (lf := 2000) enters_ok mixed_ok ptT_ok toldOn_ok 20).1 5 args A v A' h).2
  unfold runTold at h
  split at h
  · exact ev h
  · split at h
    · rename_i r hr
      cases h
      exact toldAt_ok runK_at hr
    · exact ev h
  · cases h
noncomputable def toldNames : Told := fun f => bif Nat.beq f 5 then some runTold else bif Nat.beq f 19 then some worksTold else toldOn f
theorem toldNames_ok : ToldOk Tryz.prog toldNames := by
  intro f c args A v A' h1 h2
  unfold toldNames at h1
  cases h3 : Nat.beq f 5 with
  | true =>
    rw [h3, cond_true] at h1
    rw [nat_beq_eq, decide_eq_true_iff] at h3
    subst h3
    have e1 := Option.some.inj h1
    rw [← e1] at h2
    exact ⟨enters_ok 5 _ Tryz.func5 (by rw [c5_body]; rfl), runTold_ok h2⟩
  | false =>
    rw [h3, cond_false] at h1
    cases h4 : Nat.beq f 19 with
    | true =>
      rw [h4, cond_true] at h1
      rw [nat_beq_eq, decide_eq_true_iff] at h4
      subst h4
      have e1 := Option.some.inj h1
      rw [← e1] at h2
      exact ⟨enters_ok 19 _ Tryz.func19 (by rfl), worksTold_ok h2⟩
    | false =>
      rw [h4, cond_false] at h1
      exact toldOn_ok f c args A v A' h1 h2
theorem names_k : chkT (evCall Tryz.prog ptT toldNames 2000 60 3 [] gA) = true := by kernel_rfl
theorem names_c (w : World) {t : TypeId} (hw : w.heap[0]? = some (.cells goesOn.toArray t (0, 0))) : Calls Tryz.prog 3 #[] w fun e w' => e = .returned (.bool true) ∧ Below w.heap.size w w' :=
  callsIn_wide.1 (glob_calls toldNames_ok names_k hw ⟨fun _ => trivial, rfl, rfl⟩ 0)
end Go.Proofs.YthengmpnfcclbaaGreatDoor
