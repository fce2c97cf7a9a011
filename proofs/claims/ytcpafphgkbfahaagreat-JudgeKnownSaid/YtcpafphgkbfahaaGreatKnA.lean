/- JudgeKnown in pieces: what is told; the pieces of its code. -/
import Derived.Test.YtcpafphgkbfahaaGreatEvY
import Derived.Test.YtcpafphgkbfahaaGreatEvZ
namespace Go.Proofs.YtcpafphgkbfahaaGreat
open Go Go.RowKit
def toldTrue (a : List Value) (W : AW) : Option (Value × AW) :=
  match a with
  | [] => some (.bool true, W)
  | _ => none
/-- works(), told -/
def toldW : Told := fun f => bif Nat.beq f 10 then some toldTrue else none
theorem toldW_ok : ToldOk Tryz.prog toldW := by
  intro f c args A v A' h1 h2
  unfold toldW at h1
  obtain ⟨h3, h1⟩ := bif_some h1
  rw [nat_beq_eq, decide_eq_true_iff] at h3
  subst h3
  have e1 := Option.some.inj h1
  rw [← e1] at h2
  unfold toldTrue at h2
  split at h2
  · cases h2
    refine ⟨enters_ok 10 _ Tryz.func10 (by rfl), fun φ w args' hW hl F n hF => ?_⟩
    have e : args' = #[] := Array.ext' (by simpa using hl.nil_inv)
    subst e
    refine (Calls.inAny (works_c w) hF n).mono ?_
    rintro e w' ⟨rfl, hb⟩
    exact Out.of_below hW hb true
  · cases h2
noncomputable abbrev kev (c : Code) (T : List (Nat × Value)) : Res := evCode Tryz.prog ptT (evCall Tryz.prog ptT toldW 2000 60) (evRnd Tryz.prog ptT toldW 2000 60) none 271 2000 c ⟨trOf T, [], ⟨.nil, 0⟩⟩
theorem kseg {c : Code} {T T' : List (Nat × Value)} {e : AExit} (h : segChk (kev c T) e T' = true) (hT : (T.all fun tv => groundB 8 tv.2) = true) : Seg Tryz.prog 271 c T T' e :=
  seg_of_ev enters_ok mixed_ok ptT_ok toldW_ok h hT
noncomputable def c5 : Code := bodyOf Tryz.prog 5
noncomputable def L5 : Code := in1 (in1 (s2 (s1 (s2 (s2 c5)))))
theorem c5_eq : c5 = .seq (s1 c5) (.seq (s1 (s2 c5)) (.seq (.seq (s1 (s1 (s2 (s2 c5)))) (.block 0 (.loop L5))) (s2 (s2 (s2 c5))))) := by kernel_rfl
end Go.Proofs.YtcpafphgkbfahaaGreat
