/- An evaluator of closed runs, at this program: works(). -/
import Derived.KernelRfl
import Derived.WalkSpells
import Derived.RangeFuncBox
import Derived.RangeFuncLeaves
import Derived.Shelf.Abstract
import Derived.WalkKit
import Derived.OwnWalkIn
import Derived.TacticsInMore
import Derived.LoopNIn
import Derived.LoopIn
import Derived.Maps.AppendAt
import Derived.Lib.Hide
import Derived.Outline
import Derived.Laws.OwnMore
import Derived.Deep.AppendLies
import Derived.WalkMore
import Derived.RangeFuncNested
import Derived.BigRegionIn
import Derived.Deep.LoopGhost
import Derived.BigQuiet
import Derived.Deep.QuietTactic
import Derived.Deep.RegionHeld3
import Derived.Deep.RegionWith
import Derived.Deep.RegionLaw
import Derived.Deep.OwnRows
import Derived.StillTailTactics
import Derived.IntWalk
import Derived.Test.YthengmpnfcclbaaGreatDoorProg
import Derived.Test.YthengmpnfcclbaaGreatDoorEvV
namespace Go.Proofs.YthengmpnfcclbaaGreatDoor
open Go Go.RowKit
/-- no function of the program is the one that counts goroutines -/
theorem names_ok : (Tryz.prog.funcs.toList.all fun f => f.body.isNone || !(f.name == "runtime.NumGoroutine")) = true := by kernel_rfl
theorem enters_ok (f : FuncId) (fn : Func) (h : Tryz.prog.funcs[f]? = some fn) (hb : fn.body.isSome = true) : Enters Tryz.prog f := by
  intro args w
  have hn := List.all_eq_true.1 names_ok fn (by
    have := List.mem_of_getElem? (l := Tryz.prog.funcs.toList) (i := f) (a := fn) (by simpa using h)
    exact this)
  have h0 : fn.body.isNone = false := by cases e : fn.body with
    | none => rw [e] at hb; cases hb
    | some c => rfl
  rw [h0, Bool.false_or] at hn
  have hn' : ¬ fn.name = "runtime.NumGoroutine" := by simpa using hn
  have h1 : ¬ fn.body = none := by intro e; rw [e] at h0; cases h0
  simp [callFunc, h, hn', h1]
theorem fenced_any {F : Fence} (hF : Wide F) (P : Program) (m : Machine) : m.fenced P F :=
  fun g _ => ⟨fun h => by (rw [hF.2.2] at h; cases h), .inl (hF.1 _), fun f _ => hF.1 f, fun d hd => by rw [hF.2.1] at hd; cases hd⟩
theorem stepsIn_any {F : Fence} (hF : Wide F) {P : Program} {m m' : Machine} (h : Steps P m m') : StepsIn (Machine.fenced P F) P m m' := by
  obtain ⟨n, hn⟩ := h
  induction n generalizing m with
  | zero => cases hn; exact .refl _
  | succ n ih =>
    cases h1 : step P m with
    | next m1 =>
      simp only [runN, h1] at hn
      exact .head (fenced_any hF _ _) h1 (ih hn)
    | _ => simp [runN, h1] at hn
/-- a contract, under any fence that keeps nothing out -/
theorem Calls.inAny {P : Program} {f : FuncId} {args : Array Value} {w : World} {R : Ending → World → Prop} (h : Calls P f args w R) {F : Fence} (hF : Wide F) (n : Nat) : CallsIn F n P f args w R := by
  refine ⟨hF.1 f, fun cs _ => ?_⟩
  obtain ⟨e, w', fr, r, s, x⟩ := h cs
  refine ⟨e, w', fr, r, ?_, x⟩
  cases e <;> first
    | exact s
    | exact stepsIn_any hF s
theorem mixed_ok : Tryz.prog.follows .mixedOrders = true := by kernel_rfl
section
open Go.Shelf
set_option maxRecDepth 100000 in
set_option maxHeartbeats 400000 in
theorem cloneNilInt_c (w : World) : Calls Tryz.prog 21 #[.slice none 0 0] w fun e w' => e = .returned (.slice none 0 0) ∧ w = w' := by
  have he := fun w => run_eql_nil_slice (P := Tryz.prog) w 27 _ none 0 0 0 0 Tryz.underlying27
  go_enter Tryz.func21, Tryz.ntmps21
  go_wp2
  go_ret
  exact ⟨rfl, rfl⟩
set_option maxRecDepth 100000 in
set_option maxHeartbeats 400000 in
theorem cloneNilCall_c (w : World) : Calls Tryz.prog 22 #[.slice none 0 0] w fun e w' => e = .returned (.slice none 0 0) ∧ w = w' := by
  have he := fun w => run_eql_nil_slice (P := Tryz.prog) w 32 _ none 0 0 0 0 Tryz.underlying32
  go_enter Tryz.func22, Tryz.ntmps22
  go_wp2
  go_ret
  exact ⟨rfl, rfl⟩
set_option maxRecDepth 100000 in
set_option maxHeartbeats 400000 in
theorem which_c (a b : Nat) (ha : a ≤ 1000000) (hb : 0 < b ∧ b ≤ 1000000) (w : World) : Calls Tryz.prog 123 #[.int .i64 a, .int .i64 b] w fun e w' => e = .returned (.int .i64 (((a % b + b) % b : Nat) : Int)) ∧ w = w' := by
  go_enter Tryz.func123, Tryz.ntmps123
  go_wp2
  go_ret
  refine ⟨congrArg Ending.returned (congrArg (Value.int IntKind.i64) ?_), rfl⟩
  have hb0 : (0 : Int) < b := by omega
  have h1 : ((a : Int) % b) < b := Int.emod_lt_of_pos _ hb0
  have h2 : 0 ≤ ((a : Int) % b) := Int.emod_nonneg _ (by omega)
  have h3 : wrap64 ((a : Int) % b + b) = (a : Int) % b + b := IntWalk.wrap64_in _ ⟨by omega, by omega⟩
  rw [h3, Int.tmod_eq_emod_of_nonneg (by omega)]
  simp
end
/-- calls that turn nothing: Clone of nothing; which -/
def ptWhich (l : List Value) : Option Value :=
  match l with
  | [.int .i64 (.ofNat a), .int .i64 (.ofNat b)] => bif Nat.ble a 1000000 && (Nat.ble 1 b && Nat.ble b 1000000) then some (.int .i64 (Int.ofNat ((a % b + b) % b))) else none
  | _ => none
theorem ptWhich_some {l : List Value} {v : Value} (h : ptWhich l = some v) : ∃ a b : Nat, l = [.int .i64 (a : Int), .int .i64 (b : Int)] ∧ a ≤ 1000000 ∧ 1 ≤ b ∧ b ≤ 1000000 ∧ v = .int .i64 (((a % b + b) % b : Nat) : Int) := by
  unfold ptWhich at h
  split at h
  · rename_i a b
    cases hc : (Nat.ble a 1000000 && (Nat.ble 1 b && Nat.ble b 1000000)) with
    | true =>
      rw [hc, cond_true] at h
      simp only [Bool.and_eq_true, nat_ble_eq, decide_eq_true_eq] at hc
      exact ⟨a, b, rfl, hc.1, hc.2.1, hc.2.2, (Option.some.inj h).symm⟩
    | false => rw [hc, cond_false] at h; cases h
  · cases h
def ptNil (l : List Value) : Option Value :=
  match l with
  | [Value.slice none 0 0] => some (Value.slice none 0 0)
  | _ => none
def ptT : Pt := fun f a => bif Nat.beq f 21 || Nat.beq f 22 then ptNil a else bif Nat.beq f 123 then ptWhich a else none
theorem ptT_ok : PtOk Tryz.prog ptT := by
  intro g args v h
  unfold ptAt at h
  split at h
  · rename_i u hu
    obtain ⟨_, h⟩ := bif_some h
    cases h
    unfold ptT at hu
    cases h1 : (Nat.beq g 21 || Nat.beq g 22) with
    | true =>
      rw [h1, cond_true] at hu
      unfold ptNil at hu
      split at hu
      · cases hu
        simp only [Bool.or_eq_true, nat_beq_eq, decide_eq_true_eq] at h1
        rcases h1 with rfl | rfl
        · exact ⟨enters_ok 21 _ Tryz.func21 (by rfl), fun w F n hF => Calls.inAny (cloneNilInt_c w) hF n⟩
        · exact ⟨enters_ok 22 _ Tryz.func22 (by rfl), fun w F n hF => Calls.inAny (cloneNilCall_c w) hF n⟩
      · cases hu
    | false =>
      rw [h1, cond_false] at hu
      obtain ⟨h2, hu⟩ := bif_some hu
      rw [nat_beq_eq, decide_eq_true_iff] at h2
      subst h2
      obtain ⟨a, b, rfl, h3, h4, h5, rfl⟩ := ptWhich_some hu
      exact ⟨enters_ok 123 _ Tryz.func123 (by rfl), fun w F n hF => Calls.inAny (which_c a b h3 ⟨by omega, h5⟩ w) hF n⟩
  · cases h
end Go.Proofs.YthengmpnfcclbaaGreatDoor
