/-
  NARROWER THAN 'FOR EVERY INPUT', by the rows' own cells (each row's printed sentence says how): KmemNames: laid.
  DERIVED. THE GIVEN ROWS OF THIS SEAT. 1 by the template 'for every input the law returns true; each argument reads behind the call as it read before'; 0 by the template 'total and deterministic' (their statements: YthengmpnfcclbaaGreatDoorTotals.lean).
  GIVEN WITH THE SEED: the statements are not yours to turn. If you find one false, say at which input.
  Laid BY PROGRAM, IN A SANDBOX (cutbox-rows.mjs): the forced cells as the released guide's own fill.sh prints them over the translation 734e2a14d86f1cdb… (all of the seat's roots in one cut). By AI agents, Wed Nov 11 2026. No macro, syntax, notation, axiom, sorry.
-/
import Derived.Test.YthengmpnfcclbaaGreatDoorChecked
import GoSem.Claim
import GoSem.ClaimJoined
import GoSem.ClaimMapViews
import Derived.JoinedTies
import Derived.KernelRfl
namespace Go.Proofs.YthengmpnfcclbaaGreatDoor
/- THE CELL 'sum', in the pinned program and in every row, IS THE sha256 OF THE DUMP (.gsa) THAT YthengmpnfcclbaaGreatDoorProg.lean LOADS. Nothing in Lean hashes anything: it is a label: what it is worth is what the hold of that sum in a sandbox is worth. -/
noncomputable def Tryz.pinned : Pinned := { name := "ythengmpnfcclbaagreatdoor", sum := "734e2a14d86f1cdb973e3610ffedcdca1b951af481d4d38e4655d0fe72db300b", checked := Tryz.checked }
namespace Rows
def none {H : Type} : Left H := { results := [], args := [] }

/- WHAT THE LISTED PACKAGE-LEVEL VARIABLES READ AS WHEN THE CALL BEGINS. Each datum BY PROGRAM (the guide's laid-datum.mjs) off the statement by which the dump's own 'gosem.cut.vars' lays the variable. In a bare row this is a premise. The card (YthengmpnfcclbaaGreatDoorCards.lean) ties it to the program's text. -/
def laid_wainscot_fill_goesOn {H : Type} : DataW H := .agg [.lit (.int .i64 0), .lit (.int .i64 0), .lit (.int .i64 0), .lit (.int .i64 0), .lit (.int .i64 0), .lit (.int .i64 0), .lit (.int .i64 0), .lit (.int .i64 0), .lit (.int .i64 0), .lit (.int .i64 0), .lit (.int .i64 0), .lit (.int .i64 0), .lit (.int .i64 0), .lit (.int .i64 0), .lit (.int .i64 0), .lit (.int .i64 0), .lit (.int .i64 0), .lit (.int .i64 0), .lit (.int .i64 0), .lit (.int .i64 0), .lit (.int .i64 0), .lit (.int .i64 22), .lit (.int .i64 0), .lit (.int .i64 0), .lit (.int .i64 0), .lit (.int .i64 0), .lit (.int .i64 0), .lit (.int .i64 0), .lit (.int .i64 0), .lit (.int .i64 0), .lit (.int .i64 31), .lit (.int .i64 0), .lit (.int .i64 0), .lit (.int .i64 0), .lit (.int .i64 0), .lit (.int .i64 0), .lit (.int .i64 43), .lit (.int .i64 38), .lit (.int .i64 0), .lit (.int .i64 0), .lit (.int .i64 41), .lit (.int .i64 42), .lit (.int .i64 0), .lit (.int .i64 0), .lit (.int .i64 0), .lit (.int .i64 0), .lit (.int .i64 47), .lit (.int .i64 48), .lit (.int .i64 49), .lit (.int .i64 40)]

/-- 'wainscotlaw29.KmemNames': WHATEVER THE INPUT: true; the input reads as it did. -/
def kmemNamesSpec : ChangeSpec := { name := "kmemNames", fn := fun _ => fun
  | [] => { results := [.lit (.bool true)], args := [] }
  | _ => none }
def kmemNamesRow : OpenClaim := { program := "ythengmpnfcclbaagreatdoor", sum := "734e2a14d86f1cdb973e3610ffedcdca1b951af481d4d38e4655d0fe72db300b", func := "wainscot/wainscotlaw29.KmemNames", spec := "kmemNames", unfollowed := true, recurses := true, named := ["wainscot/fill.goesOn"], plainKeys := false, apart := false, laid := [("wainscot/fill.goesOn", laid_wainscot_fill_goesOn)] }
def KmemNamesSaid : Prop := kmemNamesRow.holds Tryz.pinned (OpenSpec.ofChange kmemNamesSpec)

/-- ITS FALSE NEIGHBOUR: 'it returns false'. Refute it at one input. -/
def kmemNamesWrong : ChangeSpec := { name := "kmemNames", fn := fun _ => fun
  | [] => { results := [.lit (.bool false)], args := [] }
  | _ => none }
def KmemNamesWrongFalsely : Prop := kmemNamesRow.holds Tryz.pinned (OpenSpec.ofChange kmemNamesWrong)

/- THE SECOND FORM. 'bulk': how many values and letters a reading holds, each counted each time it is reached (what is shared counts as often as it is met; a slice's spare places count too). A statement '..UptoSaid' is the law's where the arguments, and the package variables that the reading takes, are together of bulk at most 1048576: NARROWER than '..Said'. Prove '..Said' where nothing that the law and all that it calls make is longer than what came in: it says more and counts as full. Else prove '..UptoSaid'. A law counts once. -/
mutual
def uptoBulk {H : Type} : DataW H → Nat
  | .lit (.string bytes) => bytes.length + 1
  | .lit _ => 1
  | .nil => 1
  | .ptr d => uptoBulk d + 1
  | .slice elems spare => uptoBulkAll elems + uptoBulkAll spare + 1
  | .agg parts => uptoBulkAll parts + 1
  | .iface _ d => uptoBulk d + 1
  | .map entries => uptoBulkEntries entries + 1
  | .held _ => 1
def uptoBulkAll {H : Type} : List (DataW H) → Nat
  | [] => 0
  | d :: r => uptoBulk d + uptoBulkAll r
def uptoBulkEntries {H : Type} : List (Lit × DataW H) → Nat
  | [] => 0
  | x :: r => uptoBulkEntry x + uptoBulkEntries r
def uptoBulkEntry {H : Type} : Lit × DataW H → Nat
  | (.string bytes, d) => bytes.length + uptoBulk d + 1
  | (_, d) => uptoBulk d + 1
 end
def uptoSmall : (H : Type) → List (DataW H) → Bool := fun _ ds => decide (uptoBulkAll ds ≤ 1048576)
def OpenSpec.upto (s : _root_.Go.ChangeSpec) : _root_.Go.OpenSpec := { _root_.Go.OpenSpec.ofChange s with cond := some uptoSmall }

/-- 'wainscotlaw29.KmemNames', WHERE WHAT IT READS IS OF BULK AT MOST 1048576: true; the input reads as it did. -/
def kmemNamesUptoRow : OpenClaim := { program := "ythengmpnfcclbaagreatdoor", sum := "734e2a14d86f1cdb973e3610ffedcdca1b951af481d4d38e4655d0fe72db300b", func := "wainscot/wainscotlaw29.KmemNames", spec := "kmemNames", unfollowed := true, recurses := true, named := ["wainscot/fill.goesOn"], plainKeys := false, apart := false, laid := [("wainscot/fill.goesOn", laid_wainscot_fill_goesOn)], narrowed := true }
def KmemNamesUptoSaid : Prop := kmemNamesUptoRow.holds Tryz.pinned (OpenSpec.upto kmemNamesSpec)

end Rows
end Go.Proofs.YthengmpnfcclbaaGreatDoor
