/- An evaluator of closed runs, at this program: works(). -/
import Derived.KernelRfl
import Derived.WalkSpells
import Derived.RangeFuncBox
import Derived.RangeFuncLeaves
import Derived.Shelf.Abstract
import Derived.WalkKit
import Derived.OwnWalkIn
import Derived.TacticsInMore
import Derived.LoopNIn
import Derived.LoopIn
import Derived.Maps.AppendAt
import Derived.Lib.Hide
import Derived.Outline
import Derived.Laws.OwnMore
import Derived.Deep.AppendLies
import Derived.WalkMore
import Derived.RangeFuncNested
import Derived.BigRegionIn
import Derived.Deep.LoopGhost
import Derived.BigQuiet
import Derived.Deep.QuietTactic
import Derived.Deep.RegionHeld3
import Derived.Deep.RegionWith
import Derived.Deep.RegionLaw
import Derived.Deep.OwnRows
import Derived.StillTailTactics
import Derived.IntWalk
import Derived.Test.YtcpafphgkbfahaaGreatProg
import Derived.Test.YtcpafphgkbfahaaGreatEvV
namespace Go.Proofs.YtcpafphgkbfahaaGreat
open Go Go.RowKit
/-- no function of the program is the one that counts goroutines -/
theorem names_ok : (Tryz.prog.funcs.toList.all fun f => f.body.isNone || !(f.name == "runtime.NumGoroutine")) = true := by kernel_rfl
theorem enters_ok (f : FuncId) (fn : Func) (h : Tryz.prog.funcs[f]? = some fn) (hb : fn.body.isSome = true) : Enters Tryz.prog f := by
  intro args w
  have hn := List.all_eq_true.1 names_ok fn (by
    have := List.mem_of_getElem? (l := Tryz.prog.funcs.toList) (i := f) (a := fn) (by simpa using h)
    exact this)
  have h0 : fn.body.isNone = false := by cases e : fn.body with
    | none => rw [e] at hb; cases hb
    | some c => rfl
  rw [h0, Bool.false_or] at hn
  have hn' : ¬ fn.name = "runtime.NumGoroutine" := by simpa using hn
  have h1 : ¬ fn.body = none := by intro e; rw [e] at h0; cases h0
  simp [callFunc, h, hn', h1]
theorem fenced_any {F : Fence} (hF : Wide F) (P : Program) (m : Machine) : m.fenced P F :=
  fun g _ => ⟨fun h => by (rw [hF.2.2] at h; cases h), .inl (hF.1 _), fun f _ => hF.1 f, fun d hd => by rw [hF.2.1] at hd; cases hd⟩
theorem stepsIn_any {F : Fence} (hF : Wide F) {P : Program} {m m' : Machine} (h : Steps P m m') : StepsIn (Machine.fenced P F) P m m' := by
  obtain ⟨n, hn⟩ := h
  induction n generalizing m with
  | zero => cases hn; exact .refl _
  | succ n ih =>
    cases h1 : step P m with
    | next m1 =>
      simp only [runN, h1] at hn
      exact .head (fenced_any hF _ _) h1 (ih hn)
    | _ => simp [runN, h1] at hn
/-- a contract, under any fence that keeps nothing out -/
theorem Calls.inAny {P : Program} {f : FuncId} {args : Array Value} {w : World} {R : Ending → World → Prop} (h : Calls P f args w R) {F : Fence} (hF : Wide F) (n : Nat) : CallsIn F n P f args w R := by
  refine ⟨hF.1 f, fun cs _ => ?_⟩
  obtain ⟨e, w', fr, r, s, x⟩ := h cs
  refine ⟨e, w', fr, r, ?_, x⟩
  cases e <;> first
    | exact s
    | exact stepsIn_any hF s
theorem mixed_ok : Tryz.prog.follows .mixedOrders = true := by kernel_rfl
section
open Go.Shelf
set_option maxRecDepth 100000 in
set_option maxHeartbeats 400000 in
theorem cloneNilInt_c (w : World) : Calls Tryz.prog 76 #[.slice none 0 0] w fun e w' => e = .returned (.slice none 0 0) ∧ w = w' := by
  have he := fun w => run_eql_nil_slice (P := Tryz.prog) w 22 3 none 0 0 0 0 Tryz.underlying22
  go_enter Tryz.func76, Tryz.ntmps76
  go_wp2
  go_ret
  exact ⟨rfl, rfl⟩
set_option maxRecDepth 100000 in
set_option maxHeartbeats 400000 in
theorem cloneNilCall_c (w : World) : Calls Tryz.prog 98 #[.slice none 0 0] w fun e w' => e = .returned (.slice none 0 0) ∧ w = w' := by
  have he := fun w => run_eql_nil_slice (P := Tryz.prog) w 112 115 none 0 0 0 0 Tryz.underlying112
  go_enter Tryz.func98, Tryz.ntmps98
  go_wp2
  go_ret
  exact ⟨rfl, rfl⟩
end
/-- Clone of nothing -/
def ptT : Pt := fun f a => bif Nat.beq f 76 || Nat.beq f 98 then (match a with | [Value.slice none 0 0] => some (Value.slice none 0 0) | _ => none) else none
theorem ptT_ok : PtOk Tryz.prog ptT := by
  intro g args v h
  unfold ptAt at h
  split at h
  · rename_i u hu
    obtain ⟨_, h⟩ := bif_some h
    cases h
    unfold ptT at hu
    obtain ⟨h1, h2⟩ := bif_some hu
    split at h2
    · cases h2
      simp only [Bool.or_eq_true, nat_beq_eq, decide_eq_true_eq] at h1
      rcases h1 with rfl | rfl
      · refine ⟨enters_ok 76 _ Tryz.func76 (by rfl), fun w F n hF => ?_⟩
        exact Calls.inAny (cloneNilInt_c w) hF n
      · refine ⟨enters_ok 98 _ Tryz.func98 (by rfl), fun w F n hF => ?_⟩
        exact Calls.inAny (cloneNilCall_c w) hF n
    · cases h2
  · cases h
theorem noTold_ok : ToldOk Tryz.prog noTold := fun f c args A v A' h => by cases h
end Go.Proofs.YtcpafphgkbfahaaGreat
