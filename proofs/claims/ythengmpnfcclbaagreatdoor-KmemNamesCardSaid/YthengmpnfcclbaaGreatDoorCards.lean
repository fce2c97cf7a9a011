/-
  DERIVED. GIVEN WITH THE SEED: THE CARDS: each row of YthengmpnfcclbaaGreatDoorRows.lean that lists a variable, with what it lists TIED to the program's text (the seventh form; the later family's looks); each row that meets fmt, with fmt's text TOLD by the authors' own Lean function (tested against real Go, not proved from fmt's source: count such statements apart). THE CARD IS WHAT COUNTS. Prove the row's statement (the work); the ties are given (YthengmpnfcclbaaGreatDoorTie.lean); close each card by the builder's one call (the guide's Derived/Test/ToyasCard.lean, 'card_holds'). Laid BY PROGRAM, IN A SANDBOX (cutbox-door.mjs). By AI agents, Wed Nov 11 2026. No macro, syntax, notation, axiom, sorry.
-/
import Derived.Test.YthengmpnfcclbaaGreatDoorRows
import GoSem.ClaimSeven
namespace Go.Proofs.YthengmpnfcclbaaGreatDoor
namespace Rows

/-- THE TIED CARD OF 'wainscotlaw29.KmemNames'. -/
def kmemNamesCard : Claim7 := { stood := { row := kmemNamesRow, standIns := [], harness := (true, "d8fdba6bafdea824bc951da3019ffb9fd7eaafc4358138cd95cc7a13ca0df5b4"), looks := true }, kinds := [], alts := [], laidByText := true, laidKinds := [.data], laidTests := true, laidLooks := .later }
def KmemNamesCardSaid : Prop := Claim7.holds Tryz.pinned (.plain (OpenSpec.ofChange kmemNamesSpec)) kmemNamesCard

/-- THE SECOND FORM's CARD OF 'wainscotlaw29.KmemNames'. -/
def kmemNamesUptoCard : Claim7 := { stood := { row := kmemNamesUptoRow, standIns := [], harness := (true, "d8fdba6bafdea824bc951da3019ffb9fd7eaafc4358138cd95cc7a13ca0df5b4"), looks := true }, kinds := [], alts := [], laidByText := true, laidKinds := [.data], laidTests := true, laidLooks := .later }
def KmemNamesUptoCardSaid : Prop := Claim7.holds Tryz.pinned (.plain (OpenSpec.upto kmemNamesSpec)) kmemNamesUptoCard
end Rows
end Go.Proofs.YthengmpnfcclbaaGreatDoor
