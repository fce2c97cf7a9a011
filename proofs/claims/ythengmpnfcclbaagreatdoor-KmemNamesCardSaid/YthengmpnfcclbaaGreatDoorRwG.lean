/- 'Rows.KmemNamesCardSaid': KmemNames' card. Conditions: none beyond the statement's own. -/
import Derived.Test.YthengmpnfcclbaaGreatDoorRwF
namespace Go.Proofs.YthengmpnfcclbaaGreatDoor.kmemNames
open Go Go.ChangeShapes Go.WideShapes Go.ChangeAt Go.RowKit
set_option maxRecDepth 100000
theorem ca : Rows.kmemNamesRow.wfByText (OpenSpec.ofChange Rows.kmemNamesSpec) = true := by kernel_rfl
theorem cb : Tryz.pinned.checked.prog.mainIs = some (true, "d8fdba6bafdea824bc951da3019ffb9fd7eaafc4358138cd95cc7a13ca0df5b4".toList) := by kernel_rfl
theorem cc : true = Tryz.pinned.checked.prog.looks [] := by kernel_rfl
theorem cd : false = Rows.kmemNamesRow.goesBy Tryz.pinned.checked.prog := by kernel_rfl
theorem ce : Tryz.pinned.checked.prog.funcNamed Rows.kmemNamesRow.func = some 3 := by kernel_rfl
theorem proved : Rows.KmemNamesCardSaid :=
  Claim7.holds_tied_plain_at .later [] [.data] true (true, "d8fdba6bafdea824bc951da3019ffb9fd7eaafc4358138cd95cc7a13ca0df5b4") true
    over (fun _ h => by cases h) ca (fun _ h => by cases h) kmemNames_row_tie rfl ⟨rfl, rfl⟩ cb rfl
    (fun f fn hf hfn => by
      obtain rfl : f = 3 := Option.some.inj (ce.symm.trans hf) |>.symm
      obtain rfl : fn = Tryz.f3 := (Option.some.inj (Tryz.func3.symm.trans hfn)).symm
      exact ⟨cc, fun j t ht => by
        rw [Tryz.params3] at ht
        simp at ht⟩)
    cd
end Go.Proofs.YthengmpnfcclbaaGreatDoor.kmemNames
