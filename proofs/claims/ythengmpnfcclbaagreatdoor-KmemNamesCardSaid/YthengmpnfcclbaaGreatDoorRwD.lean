/- 'Rows.KmemNamesSaid' and its card. -/
import Derived.Test.YthengmpnfcclbaaGreatDoorCards
import Derived.Test.YthengmpnfcclbaaGreatDoorTie
import Derived.Test.YthengmpnfcclbaaGreatDoorRwB
import Derived.ProofKit
import Derived.OpenShut
import Derived.ShutString
import Derived.ChangeOld
import Derived.ChangeSame
import Derived.ChangeVars
import Derived.JoinedOf
import Derived.Below
import Derived.JoinedCond
import Derived.RowKit
import Derived.LaidLaws
import Derived.LaidHandle
import Derived.SevenTiedAt
namespace Go.Proofs.YthengmpnfcclbaaGreatDoor.kmemNames
open Go Go.ChangeShapes Go.WideShapes Go.ChangeAt Go.RowKit
set_option linter.unusedVariables false
theorem own : ownKnob Tryz.prog.godebug = none := by kernel_rfl
theorem gname : Tryz.prog.globalNamed "wainscot/fill.goesOn" = some 0 := by kernel_rfl
theorem gtype : (Tryz.prog.globals[0]?).map (·.type) = some 410 := by kernel_rfl
theorem gcells : Tryz.prog.cellsOf 3 = 1 := by kernel_rfl
def toLit : Value → DataW Unit
  | .int k n => .lit (.int k n)
  | _ => .nil
theorem toLit_inj {v : Value} {k : IntKind} {n : Int} (h : toLit v = .lit (.int k n)) : v = .int k n := by
  cases v <;> simp [toLit] at h
  obtain ⟨rfl, rfl⟩ := h; rfl
theorem parts_eq : (Rows.laid_wainscot_fill_goesOn : DataW Unit) = .agg (goesOn.map toLit) := by rfl
set_option maxRecDepth 100000 in
theorem cells_of_laid {W : World} (h : laidMetH Tryz.prog Rows.kmemNamesRow.laid W) : ∃ t, W.heap[0]? = some (.cells goesOn.toArray t (0, 0)) := by
  have h' : laidMet Tryz.prog [("wainscot/fill.goesOn", Rows.laid_wainscot_fill_goesOn)] W := h
  obtain ⟨ps, hl, _, hr⟩ := h'
  obtain ⟨g, t, cs, fuel, p, q, h1, h2, h3, h4, h5, h6⟩ := hl
  obtain rfl : g = 0 := Option.some.inj (h1.symm.trans gname)
  obtain rfl : t = 410 := Option.some.inj (h2.symm.trans gtype)
  obtain ⟨xs, m, _, hx, hlen, hn, hall⟩ := DataW.trod_array Tryz.underlying410 h4
  have h50 : Tryz.prog.cellsOf 410 = 50 := by kernel_rfl
  rw [h50] at hlen
  rw [gcells] at hall
  have hparts : goesOn.map toLit = xs.map (·.1) := by
    have := (Prod.mk.inj hx).1
    rw [parts_eq] at this
    exact DataW.agg.inj this
  have hcs : cs.toList = goesOn := by
    refine List.ext_getElem? (fun i => ?_)
    by_cases hi : i < 50
    · have h0 := hall i hi
      have hci : cs.toList[i]? = some (cs.toList[i]'(by omega)) := by simp
      have hxi : xs[i]? = some (xs[i]'(by omega)) := by simp
      have ht1 : (cs.toList.drop i).take 1 = [cs.toList[i]'(by omega)] := by rw [List.drop_eq_getElem_cons (by omega)]; rfl
      rw [hxi, Nat.mul_one, ht1] at h0
      obtain ⟨n, e1, e2, _⟩ := DataW.trod_int Tryz.underlying3 h0
      simp only [List.cons.injEq, and_true] at e1
      have hg : (goesOn.map toLit)[i]? = some (.lit (.int .i64 n)) := by
        rw [hparts, List.getElem?_map, hxi, e2]; rfl
      rw [List.getElem?_map] at hg
      cases hgi : goesOn[i]? with
      | none => rw [hgi] at hg; cases hg
      | some v =>
        rw [hgi] at hg
        have := toLit_inj (Option.some.inj hg)
        rw [hci, this]
        exact congrArg some e1
    · rw [List.getElem?_eq_none (by omega), List.getElem?_eq_none (by rw [show goesOn.length = 50 from rfl]; omega)]
  have hmem : MemPlace.cell 0 0 ∈ ps := by
    rw [h6]
    have : cs.size = 50 := by simpa using hlen
    rw [this]
    simp [MemPlace.row]
  obtain ⟨⟨c, t, hc⟩, _⟩ := hr 0 0 hmem
  refine ⟨t, ?_⟩
  have h3' : W.var? Tryz.prog "wainscot/fill.goesOn" = some c := by simp [World.var?, gname, hc]
  rw [h3] at h3'
  have ec : cs = c := Option.some.inj h3'
  rw [hc, ← ec, ← hcs]
set_option maxRecDepth 100000 in
/-- A world that meets the condition: the settled one, the variable's cells laid. -/
noncomputable def laidWorld (os : Os) : World :=
  let w0 := World.holding Tryz.prog os ⟨#[], #[], []⟩
  { w0 with heap := w0.heap.modify 0 fun
      | .cells _ t frozen => .cells goesOn.toArray t frozen
      | o => o }
theorem laidWorld_met (os : Os) (args : Array Value) : laidMetH Tryz.prog Rows.kmemNamesRow.laid ((laidWorld os).forCall (fun _ _ => 0) ⟨#[], args, []⟩).memory :=
  laidMet_of_run (ps := MemPlace.row ⟨0, 0, none⟩ 50) 8 (by kernel_rfl) (by kernel_rfl) (by kernel_rfl)
set_option maxRecDepth 100000 in
theorem contract (H : Type) (enc : TypeId × Value → H) (W : World) (base : Nat) (args : Array Value) (ds gs : List (DataW H)) (before : List MemPlace)
    (hval0 : ∀ (j : Nat) t v, Tryz.f3.params[j]? = some t → args[j]? = some v → Value.okWide Tryz.prog W .any base t v)
    (hW : DataW.Whole enc Tryz.prog Tryz.f3.params.toList Rows.kmemNamesSpec.vars false W args.toList ds gs before) (hL : laidMetH Tryz.prog Rows.kmemNamesRow.laid W) :
    Calls Tryz.prog 3 args W fun e W' => ∃ v, e = .returned v ∧ Rows.kmemNamesSpec.post enc Tryz.prog Tryz.f3 false true false false W args v W' := by
  have hval : ∀ (j : Nat) t v, Tryz.f3.params[j]? = some t → args[j]? = some v → Value.okWide Tryz.prog W .any base t v := hval0
  have hW' := hW
  obtain ⟨p, q, hA0, hV, rfl, hfz, hnd⟩ := hW
  have hA : DataW.TrodAll enc Tryz.prog W 0 (fun _ => true) true Tryz.f3.params.toList args.toList ds p := hA0
  rw [Tryz.params3] at hA hval
  obtain ⟨hargs, rfl, rfl⟩ := trodAll_nil hA
  obtain rfl : args = #[] := by cases args; simp_all
  obtain ⟨rfl, rfl⟩ := trodVars_none hV
  clear hA0 hval0
  obtain ⟨t, hw⟩ := cells_of_laid hL
  refine ((names_c W hw)).mono fun e W' ⟨he, bel⟩ => ?_
  subst he
  exact ⟨_, rfl, _, _, _, [], _, [], hW', trodAll_mk1 (shut_bool Tryz.underlying4 _), trodAll_mk0, rfl, bel.frame _, fun h => by cases h⟩
set_option maxRecDepth 100000 in
theorem lifted (os : Os) (started : os.Started) (H : Type) (enc : TypeId × Value → H) :
    ReturnsInHanded {} Tryz.checked os 3 .any (fun w args => (Rows.kmemNamesSpec.pre enc Tryz.prog Tryz.f3 Rows.kmemNamesRow.domain false w args ∧ laidMetH Tryz.prog Rows.kmemNamesRow.laid w) ∧ sizedMet enc Tryz.prog Tryz.f3 (OpenSpec.ofChange Rows.kmemNamesSpec) false w args)
      (Rows.kmemNamesSpec.post enc Tryz.prog Tryz.f3 false true false false) := by
  refine returnsInHanded_of_change_and (C := Tryz.checked) (X := fun w _ => laidMetH Tryz.prog Rows.kmemNamesRow.laid w) (fun _ _ _ hh h => h.of_heap hh) own started (by kernel_rfl) Tryz.func3
    (ChangeSpec.witness_at (enc := enc) (C := Tryz.checked) (os := os) (X := fun w _ => laidMetH Tryz.prog Rows.kmemNamesRow.laid w) false (laidWorld os) #[] 8 rfl (by kernel_rfl) (by kernel_rfl) (by kernel_rfl) (by kernel_rfl) (by kernel_rfl) (laidWorld_met os _)) ?_
  intro W base args ds gs before hval0 hW _ _ hL _
  exact contract H enc W base args ds gs before hval0 hW hL
end Go.Proofs.YthengmpnfcclbaaGreatDoor.kmemNames
