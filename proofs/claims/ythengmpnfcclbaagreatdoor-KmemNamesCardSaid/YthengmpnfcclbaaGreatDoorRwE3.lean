/- KmemNames' row: its closed facts, one by one. -/
import Derived.Test.YthengmpnfcclbaaGreatDoorRwD
namespace Go.Proofs.YthengmpnfcclbaaGreatDoor.kmemNames
open Go Go.ChangeShapes Go.WideShapes Go.ChangeAt Go.RowKit
set_option maxRecDepth 100000
theorem fa : laidOutB Tryz.pinned.checked.prog = true := by kernel_rfl
theorem fb : mapsRowed Tryz.pinned.checked.prog = true := by kernel_rfl
theorem fc : (Rows.kmemNamesRow.inPlace == Tryz.pinned.checked.prog.inPlace 3) = true := by kernel_rfl
theorem fd : (Rows.kmemNamesRow.unfollowed == Tryz.pinned.checked.prog.unfollowed 3) = true := by kernel_rfl
theorem fe : (Rows.kmemNamesRow.recurses == Tryz.pinned.checked.prog.recurses 3) = true := by kernel_rfl
theorem ff : (Rows.kmemNamesRow.named == Tryz.pinned.checked.prog.varsNamed 3) = true := by kernel_rfl
theorem fg : (Rows.kmemNamesRow.plainKeys == Tryz.pinned.checked.prog.plainKeys) = true := by kernel_rfl
theorem closedT : joinedFacts Tryz.pinned.checked.prog 3 Tryz.f3 Rows.kmemNamesSpec Rows.kmemNamesRow = true := by
  unfold joinedFacts
  rw [fa, fb, fc, fd, fe, ff, fg]
  kernel_rfl
end Go.Proofs.YthengmpnfcclbaaGreatDoor.kmemNames
