/-
  No cell of these rows narrows 'for every input' (looked for: loops, veiled, ifaces, maps, wideKeys, modest, calm, conditions, laid).
  DERIVED. THE GIVEN ROWS OF THIS SEAT. 11 by the template 'for every input the law returns true; each argument reads behind the call as it read before'; 0 by the template 'total and deterministic' (their statements: YtooonjoiidcmgaaTotals.lean).
  GIVEN WITH THE SEED: the statements are not yours to turn. If you find one false, say at which input.
  Laid BY PROGRAM, IN A SANDBOX (cutbox-rows.mjs): the forced cells as the released guide's own fill.sh prints them over the translation 31c947d91cc39a39… (all of the seat's roots in one cut). By AI agents, Wed Nov 11 2026. No macro, syntax, notation, axiom, sorry.
-/
import Derived.Test.YtooonjoiidcmgaaChecked
import GoSem.Claim
import GoSem.ClaimJoined
import GoSem.ClaimMapViews
import Derived.JoinedTies
import Derived.KernelRfl
namespace Go.Proofs.Ytooonjoiidcmgaa
/- THE CELL 'sum', in the pinned program and in every row, IS THE sha256 OF THE DUMP (.gsa) THAT YtooonjoiidcmgaaProg.lean LOADS. Nothing in Lean hashes anything: it is a label: what it is worth is what the hold of that sum in a sandbox is worth. -/
noncomputable def Try.pinned : Pinned := { name := "ytooonjoiidcmgaa", sum := "31c947d91cc39a39c43297c09c6e462c7b8e62cc0d56d03743c1cbbc656afa8c", checked := Try.checked }
namespace Rows
def none {H : Type} : Left H := { results := [], args := [] }

/-- 'wainscotlaw04.PickTells': WHATEVER THE INPUT: true; the input reads as it did. -/
def pickTellsSpec : ChangeSpec := { name := "pickTells", fn := fun _ => fun
  | [d1, d2] => { results := [.lit (.bool true)], args := [d1, d2] }
  | _ => none }
def pickTellsRow : OpenClaim := { program := "ytooonjoiidcmgaa", sum := "31c947d91cc39a39c43297c09c6e462c7b8e62cc0d56d03743c1cbbc656afa8c", func := "wainscot/wainscotlaw04.PickTells", spec := "pickTells", unfollowed := true, recurses := true, apart := false }
def PickTellsSaid : Prop := pickTellsRow.holds Try.pinned (OpenSpec.ofChange pickTellsSpec)

/-- ITS FALSE NEIGHBOUR: 'it returns false'. Refute it at one input. -/
def pickTellsWrong : ChangeSpec := { name := "pickTells", fn := fun _ => fun
  | [d1, d2] => { results := [.lit (.bool false)], args := [d1, d2] }
  | _ => none }
def PickTellsWrongFalsely : Prop := pickTellsRow.holds Try.pinned (OpenSpec.ofChange pickTellsWrong)

/-- 'wainscotlaw04.PickGaps': WHATEVER THE INPUT: true; the input reads as it did. -/
def pickGapsSpec : ChangeSpec := { name := "pickGaps", fn := fun _ => fun
  | [d1, d2] => { results := [.lit (.bool true)], args := [d1, d2] }
  | _ => none }
def pickGapsRow : OpenClaim := { program := "ytooonjoiidcmgaa", sum := "31c947d91cc39a39c43297c09c6e462c7b8e62cc0d56d03743c1cbbc656afa8c", func := "wainscot/wainscotlaw04.PickGaps", spec := "pickGaps", unfollowed := true, recurses := true, apart := false }
def PickGapsSaid : Prop := pickGapsRow.holds Try.pinned (OpenSpec.ofChange pickGapsSpec)

/-- ITS FALSE NEIGHBOUR: 'it returns false'. Refute it at one input. -/
def pickGapsWrong : ChangeSpec := { name := "pickGaps", fn := fun _ => fun
  | [d1, d2] => { results := [.lit (.bool false)], args := [d1, d2] }
  | _ => none }
def PickGapsWrongFalsely : Prop := pickGapsRow.holds Try.pinned (OpenSpec.ofChange pickGapsWrong)

/-- 'wainscotlaw04.PickAll': WHATEVER THE INPUT: true; the input reads as it did. -/
def pickAllSpec : ChangeSpec := { name := "pickAll", fn := fun _ => fun
  | [d1, d2] => { results := [.lit (.bool true)], args := [d1, d2] }
  | _ => none }
def pickAllRow : OpenClaim := { program := "ytooonjoiidcmgaa", sum := "31c947d91cc39a39c43297c09c6e462c7b8e62cc0d56d03743c1cbbc656afa8c", func := "wainscot/wainscotlaw04.PickAll", spec := "pickAll", unfollowed := true, recurses := true, apart := false }
def PickAllSaid : Prop := pickAllRow.holds Try.pinned (OpenSpec.ofChange pickAllSpec)

/-- ITS FALSE NEIGHBOUR: 'it returns false'. Refute it at one input. -/
def pickAllWrong : ChangeSpec := { name := "pickAll", fn := fun _ => fun
  | [d1, d2] => { results := [.lit (.bool false)], args := [d1, d2] }
  | _ => none }
def PickAllWrongFalsely : Prop := pickAllRow.holds Try.pinned (OpenSpec.ofChange pickAllWrong)

/-- 'wainscotlaw04.PickRound': WHATEVER THE INPUT: true; the input reads as it did. -/
def pickRoundSpec : ChangeSpec := { name := "pickRound", fn := fun _ => fun
  | [d1, d2, d3] => { results := [.lit (.bool true)], args := [d1, d2, d3] }
  | _ => none }
def pickRoundRow : OpenClaim := { program := "ytooonjoiidcmgaa", sum := "31c947d91cc39a39c43297c09c6e462c7b8e62cc0d56d03743c1cbbc656afa8c", func := "wainscot/wainscotlaw04.PickRound", spec := "pickRound", unfollowed := true, recurses := true, apart := false }
def PickRoundSaid : Prop := pickRoundRow.holds Try.pinned (OpenSpec.ofChange pickRoundSpec)

/-- ITS FALSE NEIGHBOUR: 'it returns false'. Refute it at one input. -/
def pickRoundWrong : ChangeSpec := { name := "pickRound", fn := fun _ => fun
  | [d1, d2, d3] => { results := [.lit (.bool false)], args := [d1, d2, d3] }
  | _ => none }
def PickRoundWrongFalsely : Prop := pickRoundRow.holds Try.pinned (OpenSpec.ofChange pickRoundWrong)

/-- 'wainscotlaw04.PickWindows': WHATEVER THE INPUT: true; the input reads as it did. -/
def pickWindowsSpec : ChangeSpec := { name := "pickWindows", fn := fun _ => fun
  | [d1, d2, d3] => { results := [.lit (.bool true)], args := [d1, d2, d3] }
  | _ => none }
def pickWindowsRow : OpenClaim := { program := "ytooonjoiidcmgaa", sum := "31c947d91cc39a39c43297c09c6e462c7b8e62cc0d56d03743c1cbbc656afa8c", func := "wainscot/wainscotlaw04.PickWindows", spec := "pickWindows", unfollowed := true, recurses := true, apart := false }
def PickWindowsSaid : Prop := pickWindowsRow.holds Try.pinned (OpenSpec.ofChange pickWindowsSpec)

/-- ITS FALSE NEIGHBOUR: 'it returns false'. Refute it at one input. -/
def pickWindowsWrong : ChangeSpec := { name := "pickWindows", fn := fun _ => fun
  | [d1, d2, d3] => { results := [.lit (.bool false)], args := [d1, d2, d3] }
  | _ => none }
def PickWindowsWrongFalsely : Prop := pickWindowsRow.holds Try.pinned (OpenSpec.ofChange pickWindowsWrong)

/-- 'wainscotlaw04.PickKnown': WHATEVER THE INPUT: true; the input reads as it did. -/
def pickKnownSpec : ChangeSpec := { name := "pickKnown", fn := fun _ => fun
  | [] => { results := [.lit (.bool true)], args := [] }
  | _ => none }
def pickKnownRow : OpenClaim := { program := "ytooonjoiidcmgaa", sum := "31c947d91cc39a39c43297c09c6e462c7b8e62cc0d56d03743c1cbbc656afa8c", func := "wainscot/wainscotlaw04.PickKnown", spec := "pickKnown", unfollowed := true, recurses := true, apart := false }
def PickKnownSaid : Prop := pickKnownRow.holds Try.pinned (OpenSpec.ofChange pickKnownSpec)

/-- ITS FALSE NEIGHBOUR: 'it returns false'. Refute it at one input. -/
def pickKnownWrong : ChangeSpec := { name := "pickKnown", fn := fun _ => fun
  | [] => { results := [.lit (.bool false)], args := [] }
  | _ => none }
def PickKnownWrongFalsely : Prop := pickKnownRow.holds Try.pinned (OpenSpec.ofChange pickKnownWrong)

/-- 'wainscotlaw11.TreePlays': WHATEVER THE INPUT: true; the input reads as it did. -/
def treePlaysSpec : ChangeSpec := { name := "treePlays", fn := fun _ => fun
  | [d] => { results := [.lit (.bool true)], args := [d] }
  | _ => none }
def treePlaysRow : OpenClaim := { program := "ytooonjoiidcmgaa", sum := "31c947d91cc39a39c43297c09c6e462c7b8e62cc0d56d03743c1cbbc656afa8c", func := "wainscot/wainscotlaw11.TreePlays", spec := "treePlays", unfollowed := true, recurses := true, apart := false }
def TreePlaysSaid : Prop := treePlaysRow.holds Try.pinned (OpenSpec.ofChange treePlaysSpec)

/-- ITS FALSE NEIGHBOUR: 'it returns false'. Refute it at one input. -/
def treePlaysWrong : ChangeSpec := { name := "treePlays", fn := fun _ => fun
  | [d] => { results := [.lit (.bool false)], args := [d] }
  | _ => none }
def TreePlaysWrongFalsely : Prop := treePlaysRow.holds Try.pinned (OpenSpec.ofChange treePlaysWrong)

/-- 'wainscotlaw11.TreePaths': WHATEVER THE INPUT: true; the input reads as it did. -/
def treePathsSpec : ChangeSpec := { name := "treePaths", fn := fun _ => fun
  | [d] => { results := [.lit (.bool true)], args := [d] }
  | _ => none }
def treePathsRow : OpenClaim := { program := "ytooonjoiidcmgaa", sum := "31c947d91cc39a39c43297c09c6e462c7b8e62cc0d56d03743c1cbbc656afa8c", func := "wainscot/wainscotlaw11.TreePaths", spec := "treePaths", unfollowed := true, recurses := true, apart := false }
def TreePathsSaid : Prop := treePathsRow.holds Try.pinned (OpenSpec.ofChange treePathsSpec)

/-- ITS FALSE NEIGHBOUR: 'it returns false'. Refute it at one input. -/
def treePathsWrong : ChangeSpec := { name := "treePaths", fn := fun _ => fun
  | [d] => { results := [.lit (.bool false)], args := [d] }
  | _ => none }
def TreePathsWrongFalsely : Prop := treePathsRow.holds Try.pinned (OpenSpec.ofChange treePathsWrong)

/-- 'wainscotlaw11.TreeHeirs': WHATEVER THE INPUT: true; the input reads as it did. -/
def treeHeirsSpec : ChangeSpec := { name := "treeHeirs", fn := fun _ => fun
  | [d] => { results := [.lit (.bool true)], args := [d] }
  | _ => none }
def treeHeirsRow : OpenClaim := { program := "ytooonjoiidcmgaa", sum := "31c947d91cc39a39c43297c09c6e462c7b8e62cc0d56d03743c1cbbc656afa8c", func := "wainscot/wainscotlaw11.TreeHeirs", spec := "treeHeirs", unfollowed := true, recurses := true, apart := false }
def TreeHeirsSaid : Prop := treeHeirsRow.holds Try.pinned (OpenSpec.ofChange treeHeirsSpec)

/-- ITS FALSE NEIGHBOUR: 'it returns false'. Refute it at one input. -/
def treeHeirsWrong : ChangeSpec := { name := "treeHeirs", fn := fun _ => fun
  | [d] => { results := [.lit (.bool false)], args := [d] }
  | _ => none }
def TreeHeirsWrongFalsely : Prop := treeHeirsRow.holds Try.pinned (OpenSpec.ofChange treeHeirsWrong)

/-- 'wainscotlaw11.TreeStays': WHATEVER THE INPUT: true; the input reads as it did. -/
def treeStaysSpec : ChangeSpec := { name := "treeStays", fn := fun _ => fun
  | [d1, d2, d3] => { results := [.lit (.bool true)], args := [d1, d2, d3] }
  | _ => none }
def treeStaysRow : OpenClaim := { program := "ytooonjoiidcmgaa", sum := "31c947d91cc39a39c43297c09c6e462c7b8e62cc0d56d03743c1cbbc656afa8c", func := "wainscot/wainscotlaw11.TreeStays", spec := "treeStays", unfollowed := true, recurses := true, apart := false }
def TreeStaysSaid : Prop := treeStaysRow.holds Try.pinned (OpenSpec.ofChange treeStaysSpec)

/-- ITS FALSE NEIGHBOUR: 'it returns false'. Refute it at one input. -/
def treeStaysWrong : ChangeSpec := { name := "treeStays", fn := fun _ => fun
  | [d1, d2, d3] => { results := [.lit (.bool false)], args := [d1, d2, d3] }
  | _ => none }
def TreeStaysWrongFalsely : Prop := treeStaysRow.holds Try.pinned (OpenSpec.ofChange treeStaysWrong)

/-- 'wainscotlaw11.TreeKnown': WHATEVER THE INPUT: true; the input reads as it did. -/
def treeKnownSpec : ChangeSpec := { name := "treeKnown", fn := fun _ => fun
  | [] => { results := [.lit (.bool true)], args := [] }
  | _ => none }
def treeKnownRow : OpenClaim := { program := "ytooonjoiidcmgaa", sum := "31c947d91cc39a39c43297c09c6e462c7b8e62cc0d56d03743c1cbbc656afa8c", func := "wainscot/wainscotlaw11.TreeKnown", spec := "treeKnown", unfollowed := true, recurses := true, apart := false }
def TreeKnownSaid : Prop := treeKnownRow.holds Try.pinned (OpenSpec.ofChange treeKnownSpec)

/-- ITS FALSE NEIGHBOUR: 'it returns false'. Refute it at one input. -/
def treeKnownWrong : ChangeSpec := { name := "treeKnown", fn := fun _ => fun
  | [] => { results := [.lit (.bool false)], args := [] }
  | _ => none }
def TreeKnownWrongFalsely : Prop := treeKnownRow.holds Try.pinned (OpenSpec.ofChange treeKnownWrong)

/- THE SECOND FORM. 'bulk': how many values and letters a reading holds, each counted each time it is reached (what is shared counts as often as it is met; a slice's spare places count too). A statement '..UptoSaid' is the law's where the arguments, and the package variables that the reading takes, are together of bulk at most 1048576: NARROWER than '..Said'. Prove '..Said' where nothing that the law and all that it calls make is longer than what came in: it says more and counts as full. Else prove '..UptoSaid'. A law counts once. -/
mutual
def uptoBulk {H : Type} : DataW H → Nat
  | .lit (.string bytes) => bytes.length + 1
  | .lit _ => 1
  | .nil => 1
  | .ptr d => uptoBulk d + 1
  | .slice elems spare => uptoBulkAll elems + uptoBulkAll spare + 1
  | .agg parts => uptoBulkAll parts + 1
  | .iface _ d => uptoBulk d + 1
  | .map entries => uptoBulkEntries entries + 1
  | .held _ => 1
def uptoBulkAll {H : Type} : List (DataW H) → Nat
  | [] => 0
  | d :: r => uptoBulk d + uptoBulkAll r
def uptoBulkEntries {H : Type} : List (Lit × DataW H) → Nat
  | [] => 0
  | x :: r => uptoBulkEntry x + uptoBulkEntries r
def uptoBulkEntry {H : Type} : Lit × DataW H → Nat
  | (.string bytes, d) => bytes.length + uptoBulk d + 1
  | (_, d) => uptoBulk d + 1
 end
def uptoSmall : (H : Type) → List (DataW H) → Bool := fun _ ds => decide (uptoBulkAll ds ≤ 1048576)
def OpenSpec.upto (s : _root_.Go.ChangeSpec) : _root_.Go.OpenSpec := { _root_.Go.OpenSpec.ofChange s with cond := some uptoSmall }

/-- 'wainscotlaw04.PickTells', WHERE WHAT IT READS IS OF BULK AT MOST 1048576: true; the input reads as it did. -/
def pickTellsUptoRow : OpenClaim := { program := "ytooonjoiidcmgaa", sum := "31c947d91cc39a39c43297c09c6e462c7b8e62cc0d56d03743c1cbbc656afa8c", func := "wainscot/wainscotlaw04.PickTells", spec := "pickTells", unfollowed := true, recurses := true, apart := false, narrowed := true }
def PickTellsUptoSaid : Prop := pickTellsUptoRow.holds Try.pinned (OpenSpec.upto pickTellsSpec)

/-- 'wainscotlaw04.PickGaps', WHERE WHAT IT READS IS OF BULK AT MOST 1048576: true; the input reads as it did. -/
def pickGapsUptoRow : OpenClaim := { program := "ytooonjoiidcmgaa", sum := "31c947d91cc39a39c43297c09c6e462c7b8e62cc0d56d03743c1cbbc656afa8c", func := "wainscot/wainscotlaw04.PickGaps", spec := "pickGaps", unfollowed := true, recurses := true, apart := false, narrowed := true }
def PickGapsUptoSaid : Prop := pickGapsUptoRow.holds Try.pinned (OpenSpec.upto pickGapsSpec)

/-- 'wainscotlaw04.PickAll', WHERE WHAT IT READS IS OF BULK AT MOST 1048576: true; the input reads as it did. -/
def pickAllUptoRow : OpenClaim := { program := "ytooonjoiidcmgaa", sum := "31c947d91cc39a39c43297c09c6e462c7b8e62cc0d56d03743c1cbbc656afa8c", func := "wainscot/wainscotlaw04.PickAll", spec := "pickAll", unfollowed := true, recurses := true, apart := false, narrowed := true }
def PickAllUptoSaid : Prop := pickAllUptoRow.holds Try.pinned (OpenSpec.upto pickAllSpec)

/-- 'wainscotlaw04.PickRound', WHERE WHAT IT READS IS OF BULK AT MOST 1048576: true; the input reads as it did. -/
def pickRoundUptoRow : OpenClaim := { program := "ytooonjoiidcmgaa", sum := "31c947d91cc39a39c43297c09c6e462c7b8e62cc0d56d03743c1cbbc656afa8c", func := "wainscot/wainscotlaw04.PickRound", spec := "pickRound", unfollowed := true, recurses := true, apart := false, narrowed := true }
def PickRoundUptoSaid : Prop := pickRoundUptoRow.holds Try.pinned (OpenSpec.upto pickRoundSpec)

/-- 'wainscotlaw04.PickWindows', WHERE WHAT IT READS IS OF BULK AT MOST 1048576: true; the input reads as it did. -/
def pickWindowsUptoRow : OpenClaim := { program := "ytooonjoiidcmgaa", sum := "31c947d91cc39a39c43297c09c6e462c7b8e62cc0d56d03743c1cbbc656afa8c", func := "wainscot/wainscotlaw04.PickWindows", spec := "pickWindows", unfollowed := true, recurses := true, apart := false, narrowed := true }
def PickWindowsUptoSaid : Prop := pickWindowsUptoRow.holds Try.pinned (OpenSpec.upto pickWindowsSpec)

/-- 'wainscotlaw04.PickKnown', WHERE WHAT IT READS IS OF BULK AT MOST 1048576: true; the input reads as it did. -/
def pickKnownUptoRow : OpenClaim := { program := "ytooonjoiidcmgaa", sum := "31c947d91cc39a39c43297c09c6e462c7b8e62cc0d56d03743c1cbbc656afa8c", func := "wainscot/wainscotlaw04.PickKnown", spec := "pickKnown", unfollowed := true, recurses := true, apart := false, narrowed := true }
def PickKnownUptoSaid : Prop := pickKnownUptoRow.holds Try.pinned (OpenSpec.upto pickKnownSpec)

/-- 'wainscotlaw11.TreePlays', WHERE WHAT IT READS IS OF BULK AT MOST 1048576: true; the input reads as it did. -/
def treePlaysUptoRow : OpenClaim := { program := "ytooonjoiidcmgaa", sum := "31c947d91cc39a39c43297c09c6e462c7b8e62cc0d56d03743c1cbbc656afa8c", func := "wainscot/wainscotlaw11.TreePlays", spec := "treePlays", unfollowed := true, recurses := true, apart := false, narrowed := true }
def TreePlaysUptoSaid : Prop := treePlaysUptoRow.holds Try.pinned (OpenSpec.upto treePlaysSpec)

/-- 'wainscotlaw11.TreePaths', WHERE WHAT IT READS IS OF BULK AT MOST 1048576: true; the input reads as it did. -/
def treePathsUptoRow : OpenClaim := { program := "ytooonjoiidcmgaa", sum := "31c947d91cc39a39c43297c09c6e462c7b8e62cc0d56d03743c1cbbc656afa8c", func := "wainscot/wainscotlaw11.TreePaths", spec := "treePaths", unfollowed := true, recurses := true, apart := false, narrowed := true }
def TreePathsUptoSaid : Prop := treePathsUptoRow.holds Try.pinned (OpenSpec.upto treePathsSpec)

/-- 'wainscotlaw11.TreeHeirs', WHERE WHAT IT READS IS OF BULK AT MOST 1048576: true; the input reads as it did. -/
def treeHeirsUptoRow : OpenClaim := { program := "ytooonjoiidcmgaa", sum := "31c947d91cc39a39c43297c09c6e462c7b8e62cc0d56d03743c1cbbc656afa8c", func := "wainscot/wainscotlaw11.TreeHeirs", spec := "treeHeirs", unfollowed := true, recurses := true, apart := false, narrowed := true }
def TreeHeirsUptoSaid : Prop := treeHeirsUptoRow.holds Try.pinned (OpenSpec.upto treeHeirsSpec)

/-- 'wainscotlaw11.TreeStays', WHERE WHAT IT READS IS OF BULK AT MOST 1048576: true; the input reads as it did. -/
def treeStaysUptoRow : OpenClaim := { program := "ytooonjoiidcmgaa", sum := "31c947d91cc39a39c43297c09c6e462c7b8e62cc0d56d03743c1cbbc656afa8c", func := "wainscot/wainscotlaw11.TreeStays", spec := "treeStays", unfollowed := true, recurses := true, apart := false, narrowed := true }
def TreeStaysUptoSaid : Prop := treeStaysUptoRow.holds Try.pinned (OpenSpec.upto treeStaysSpec)

/-- 'wainscotlaw11.TreeKnown', WHERE WHAT IT READS IS OF BULK AT MOST 1048576: true; the input reads as it did. -/
def treeKnownUptoRow : OpenClaim := { program := "ytooonjoiidcmgaa", sum := "31c947d91cc39a39c43297c09c6e462c7b8e62cc0d56d03743c1cbbc656afa8c", func := "wainscot/wainscotlaw11.TreeKnown", spec := "treeKnown", unfollowed := true, recurses := true, apart := false, narrowed := true }
def TreeKnownUptoSaid : Prop := treeKnownUptoRow.holds Try.pinned (OpenSpec.upto treeKnownSpec)

end Rows
end Go.Proofs.Ytooonjoiidcmgaa
