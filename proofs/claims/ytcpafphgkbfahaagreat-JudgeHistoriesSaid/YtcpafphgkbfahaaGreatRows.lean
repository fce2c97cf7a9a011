/-
  No cell of these rows narrows 'for every input' (looked for: loops, veiled, ifaces, maps, wideKeys, modest, calm, conditions, laid).
  DERIVED. THE GIVEN ROWS OF THIS SEAT. 3 by the template 'for every input the law returns true; each argument reads behind the call as it read before'; 0 by the template 'total and deterministic' (their statements: YtcpafphgkbfahaaGreatTotals.lean).
  GIVEN WITH THE SEED: the statements are not yours to turn. If you find one false, say at which input.
  Laid BY PROGRAM, IN A SANDBOX (cutbox-rows.mjs): the forced cells as the released guide's own fill.sh prints them over the translation 9bd7d06bb2e813b9… (all of the seat's roots in one cut). By AI agents, Wed Nov 11 2026. No macro, syntax, notation, axiom, sorry.
-/
import Derived.Test.YtcpafphgkbfahaaGreatChecked
import GoSem.Claim
import GoSem.ClaimJoined
import GoSem.ClaimMapViews
import Derived.JoinedTies
import Derived.KernelRfl
namespace Go.Proofs.YtcpafphgkbfahaaGreat
/- THE CELL 'sum', in the pinned program and in every row, IS THE sha256 OF THE DUMP (.gsa) THAT YtcpafphgkbfahaaGreatProg.lean LOADS. Nothing in Lean hashes anything: it is a label: what it is worth is what the hold of that sum in a sandbox is worth. -/
noncomputable def Tryz.pinned : Pinned := { name := "ytcpafphgkbfahaagreat", sum := "9bd7d06bb2e813b9faa2524315fbdf443c8d744eec72fc44fd1833046a1b95f7", checked := Tryz.checked }
namespace Rows
def none {H : Type} : Left H := { results := [], args := [] }

/-- 'wainscotlaw30.JudgeHistories': WHATEVER THE INPUT: true; the input reads as it did. -/
def judgeHistoriesSpec : ChangeSpec := { name := "judgeHistories", fn := fun _ => fun
  | [d] => { results := [.lit (.bool true)], args := [d] }
  | _ => none }
def judgeHistoriesRow : OpenClaim := { program := "ytcpafphgkbfahaagreat", sum := "9bd7d06bb2e813b9faa2524315fbdf443c8d744eec72fc44fd1833046a1b95f7", func := "wainscot/wainscotlaw30.JudgeHistories", spec := "judgeHistories", unfollowed := true, recurses := true, plainKeys := false, apart := false }
def JudgeHistoriesSaid : Prop := judgeHistoriesRow.holds Tryz.pinned (OpenSpec.ofChange judgeHistoriesSpec)

/-- ITS FALSE NEIGHBOUR: 'it returns false'. Refute it at one input. -/
def judgeHistoriesWrong : ChangeSpec := { name := "judgeHistories", fn := fun _ => fun
  | [d] => { results := [.lit (.bool false)], args := [d] }
  | _ => none }
def JudgeHistoriesWrongFalsely : Prop := judgeHistoriesRow.holds Tryz.pinned (OpenSpec.ofChange judgeHistoriesWrong)

/-- 'wainscotlaw30.JudgeTorn': WHATEVER THE INPUT: true; the input reads as it did. -/
def judgeTornSpec : ChangeSpec := { name := "judgeTorn", fn := fun _ => fun
  | [d1, d2, d3] => { results := [.lit (.bool true)], args := [d1, d2, d3] }
  | _ => none }
def judgeTornRow : OpenClaim := { program := "ytcpafphgkbfahaagreat", sum := "9bd7d06bb2e813b9faa2524315fbdf443c8d744eec72fc44fd1833046a1b95f7", func := "wainscot/wainscotlaw30.JudgeTorn", spec := "judgeTorn", unfollowed := true, recurses := true, plainKeys := false, apart := false }
def JudgeTornSaid : Prop := judgeTornRow.holds Tryz.pinned (OpenSpec.ofChange judgeTornSpec)

/-- ITS FALSE NEIGHBOUR: 'it returns false'. Refute it at one input. -/
def judgeTornWrong : ChangeSpec := { name := "judgeTorn", fn := fun _ => fun
  | [d1, d2, d3] => { results := [.lit (.bool false)], args := [d1, d2, d3] }
  | _ => none }
def JudgeTornWrongFalsely : Prop := judgeTornRow.holds Tryz.pinned (OpenSpec.ofChange judgeTornWrong)

/-- 'wainscotlaw30.JudgeKnown': WHATEVER THE INPUT: true; the input reads as it did. -/
def judgeKnownSpec : ChangeSpec := { name := "judgeKnown", fn := fun _ => fun
  | [] => { results := [.lit (.bool true)], args := [] }
  | _ => none }
def judgeKnownRow : OpenClaim := { program := "ytcpafphgkbfahaagreat", sum := "9bd7d06bb2e813b9faa2524315fbdf443c8d744eec72fc44fd1833046a1b95f7", func := "wainscot/wainscotlaw30.JudgeKnown", spec := "judgeKnown", unfollowed := true, recurses := true, plainKeys := false, apart := false }
def JudgeKnownSaid : Prop := judgeKnownRow.holds Tryz.pinned (OpenSpec.ofChange judgeKnownSpec)

/-- ITS FALSE NEIGHBOUR: 'it returns false'. Refute it at one input. -/
def judgeKnownWrong : ChangeSpec := { name := "judgeKnown", fn := fun _ => fun
  | [] => { results := [.lit (.bool false)], args := [] }
  | _ => none }
def JudgeKnownWrongFalsely : Prop := judgeKnownRow.holds Tryz.pinned (OpenSpec.ofChange judgeKnownWrong)

/- THE SECOND FORM. 'bulk': how many values and letters a reading holds, each counted each time it is reached (what is shared counts as often as it is met; a slice's spare places count too). A statement '..UptoSaid' is the law's where the arguments, and the package variables that the reading takes, are together of bulk at most 1048576: NARROWER than '..Said'. Prove '..Said' where nothing that the law and all that it calls make is longer than what came in: it says more and counts as full. Else prove '..UptoSaid'. A law counts once. -/
mutual
def uptoBulk {H : Type} : DataW H → Nat
  | .lit (.string bytes) => bytes.length + 1
  | .lit _ => 1
  | .nil => 1
  | .ptr d => uptoBulk d + 1
  | .slice elems spare => uptoBulkAll elems + uptoBulkAll spare + 1
  | .agg parts => uptoBulkAll parts + 1
  | .iface _ d => uptoBulk d + 1
  | .map entries => uptoBulkEntries entries + 1
  | .held _ => 1
def uptoBulkAll {H : Type} : List (DataW H) → Nat
  | [] => 0
  | d :: r => uptoBulk d + uptoBulkAll r
def uptoBulkEntries {H : Type} : List (Lit × DataW H) → Nat
  | [] => 0
  | x :: r => uptoBulkEntry x + uptoBulkEntries r
def uptoBulkEntry {H : Type} : Lit × DataW H → Nat
  | (.string bytes, d) => bytes.length + uptoBulk d + 1
  | (_, d) => uptoBulk d + 1
 end
def uptoSmall : (H : Type) → List (DataW H) → Bool := fun _ ds => decide (uptoBulkAll ds ≤ 1048576)
def OpenSpec.upto (s : _root_.Go.ChangeSpec) : _root_.Go.OpenSpec := { _root_.Go.OpenSpec.ofChange s with cond := some uptoSmall }

/-- 'wainscotlaw30.JudgeHistories', WHERE WHAT IT READS IS OF BULK AT MOST 1048576: true; the input reads as it did. -/
def judgeHistoriesUptoRow : OpenClaim := { program := "ytcpafphgkbfahaagreat", sum := "9bd7d06bb2e813b9faa2524315fbdf443c8d744eec72fc44fd1833046a1b95f7", func := "wainscot/wainscotlaw30.JudgeHistories", spec := "judgeHistories", unfollowed := true, recurses := true, plainKeys := false, apart := false, narrowed := true }
def JudgeHistoriesUptoSaid : Prop := judgeHistoriesUptoRow.holds Tryz.pinned (OpenSpec.upto judgeHistoriesSpec)

/-- 'wainscotlaw30.JudgeTorn', WHERE WHAT IT READS IS OF BULK AT MOST 1048576: true; the input reads as it did. -/
def judgeTornUptoRow : OpenClaim := { program := "ytcpafphgkbfahaagreat", sum := "9bd7d06bb2e813b9faa2524315fbdf443c8d744eec72fc44fd1833046a1b95f7", func := "wainscot/wainscotlaw30.JudgeTorn", spec := "judgeTorn", unfollowed := true, recurses := true, plainKeys := false, apart := false, narrowed := true }
def JudgeTornUptoSaid : Prop := judgeTornUptoRow.holds Tryz.pinned (OpenSpec.upto judgeTornSpec)

/-- 'wainscotlaw30.JudgeKnown', WHERE WHAT IT READS IS OF BULK AT MOST 1048576: true; the input reads as it did. -/
def judgeKnownUptoRow : OpenClaim := { program := "ytcpafphgkbfahaagreat", sum := "9bd7d06bb2e813b9faa2524315fbdf443c8d744eec72fc44fd1833046a1b95f7", func := "wainscot/wainscotlaw30.JudgeKnown", spec := "judgeKnown", unfollowed := true, recurses := true, plainKeys := false, apart := false, narrowed := true }
def JudgeKnownUptoSaid : Prop := judgeKnownUptoRow.holds Tryz.pinned (OpenSpec.upto judgeKnownSpec)

end Rows
end Go.Proofs.YtcpafphgkbfahaaGreat
