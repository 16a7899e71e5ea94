/-
  No cell of these rows narrows 'for every input' (looked for: loops, veiled, ifaces, maps, wideKeys, modest, calm, conditions, laid).
  DERIVED. THE GIVEN ROWS OF THIS SEAT. 4 by the template 'for every input the law returns true; each argument reads behind the call as it read before'; 0 by the template 'total and deterministic' (their statements: YtalgldnnbjlokaaTotals.lean).
  GIVEN WITH THE SEED: the statements are not yours to turn. If you find one false, say at which input.
  Laid BY PROGRAM, IN A SANDBOX (cutbox-rows.mjs): the forced cells as the released guide's own fill.sh prints them over the translation bf9e1095c86ca076… (all of the seat's roots in one cut). By AI agents, Wed Nov 11 2026. No macro, syntax, notation, axiom, sorry.
-/
import Derived.Test.YtalgldnnbjlokaaChecked
import GoSem.Claim
import GoSem.ClaimJoined
import GoSem.ClaimMapViews
import Derived.JoinedTies
import Derived.KernelRfl
namespace Go.Proofs.Ytalgldnnbjlokaa
/- THE CELL 'sum', in the pinned program and in every row, IS THE sha256 OF THE DUMP (.gsa) THAT YtalgldnnbjlokaaProg.lean LOADS. Nothing in Lean hashes anything: it is a label: what it is worth is what the hold of that sum in a sandbox is worth. -/
noncomputable def Try.pinned : Pinned := { name := "ytalgldnnbjlokaa", sum := "bf9e1095c86ca0767bb4628ceb8de4b3a6f570605b53b340fc79a5540c55088d", checked := Try.checked }
namespace Rows
def none {H : Type} : Left H := { results := [], args := [] }

/-- 'virgulelaw01.ScalarReads': WHATEVER THE INPUT: true; the input reads as it did. -/
def scalarReadsSpec : ChangeSpec := { name := "scalarReads", fn := fun _ => fun
  | [d1, d2] => { results := [.lit (.bool true)], args := [d1, d2] }
  | _ => none }
def scalarReadsRow : OpenClaim := { program := "ytalgldnnbjlokaa", sum := "bf9e1095c86ca0767bb4628ceb8de4b3a6f570605b53b340fc79a5540c55088d", func := "virgule/virgulelaw01.ScalarReads", spec := "scalarReads", unfollowed := true, recurses := true, apart := false }
def ScalarReadsSaid : Prop := scalarReadsRow.holds Try.pinned (OpenSpec.ofChange scalarReadsSpec)

/-- ITS FALSE NEIGHBOUR: 'it returns false'. Refute it at one input. -/
def scalarReadsWrong : ChangeSpec := { name := "scalarReads", fn := fun _ => fun
  | [d1, d2] => { results := [.lit (.bool false)], args := [d1, d2] }
  | _ => none }
def ScalarReadsWrongFalsely : Prop := scalarReadsRow.holds Try.pinned (OpenSpec.ofChange scalarReadsWrong)

/-- 'virgulelaw01.ScalarAll': WHATEVER THE INPUT: true; the input reads as it did. -/
def scalarAllSpec : ChangeSpec := { name := "scalarAll", fn := fun _ => fun
  | [d] => { results := [.lit (.bool true)], args := [d] }
  | _ => none }
def scalarAllRow : OpenClaim := { program := "ytalgldnnbjlokaa", sum := "bf9e1095c86ca0767bb4628ceb8de4b3a6f570605b53b340fc79a5540c55088d", func := "virgule/virgulelaw01.ScalarAll", spec := "scalarAll", unfollowed := true, recurses := true, apart := false }
def ScalarAllSaid : Prop := scalarAllRow.holds Try.pinned (OpenSpec.ofChange scalarAllSpec)

/-- ITS FALSE NEIGHBOUR: 'it returns false'. Refute it at one input. -/
def scalarAllWrong : ChangeSpec := { name := "scalarAll", fn := fun _ => fun
  | [d] => { results := [.lit (.bool false)], args := [d] }
  | _ => none }
def ScalarAllWrongFalsely : Prop := scalarAllRow.holds Try.pinned (OpenSpec.ofChange scalarAllWrong)

/-- 'virgulelaw01.ScalarJoins': WHATEVER THE INPUT: true; the input reads as it did. -/
def scalarJoinsSpec : ChangeSpec := { name := "scalarJoins", fn := fun _ => fun
  | [d1, d2] => { results := [.lit (.bool true)], args := [d1, d2] }
  | _ => none }
def scalarJoinsRow : OpenClaim := { program := "ytalgldnnbjlokaa", sum := "bf9e1095c86ca0767bb4628ceb8de4b3a6f570605b53b340fc79a5540c55088d", func := "virgule/virgulelaw01.ScalarJoins", spec := "scalarJoins", unfollowed := true, recurses := true, apart := false }
def ScalarJoinsSaid : Prop := scalarJoinsRow.holds Try.pinned (OpenSpec.ofChange scalarJoinsSpec)

/-- ITS FALSE NEIGHBOUR: 'it returns false'. Refute it at one input. -/
def scalarJoinsWrong : ChangeSpec := { name := "scalarJoins", fn := fun _ => fun
  | [d1, d2] => { results := [.lit (.bool false)], args := [d1, d2] }
  | _ => none }
def ScalarJoinsWrongFalsely : Prop := scalarJoinsRow.holds Try.pinned (OpenSpec.ofChange scalarJoinsWrong)

/-- 'virgulelaw01.ScalarStarts': WHATEVER THE INPUT: true; the input reads as it did. -/
def scalarStartsSpec : ChangeSpec := { name := "scalarStarts", fn := fun _ => fun
  | [d1, d2] => { results := [.lit (.bool true)], args := [d1, d2] }
  | _ => none }
def scalarStartsRow : OpenClaim := { program := "ytalgldnnbjlokaa", sum := "bf9e1095c86ca0767bb4628ceb8de4b3a6f570605b53b340fc79a5540c55088d", func := "virgule/virgulelaw01.ScalarStarts", spec := "scalarStarts", unfollowed := true, recurses := true, apart := false }
def ScalarStartsSaid : Prop := scalarStartsRow.holds Try.pinned (OpenSpec.ofChange scalarStartsSpec)

/-- ITS FALSE NEIGHBOUR: 'it returns false'. Refute it at one input. -/
def scalarStartsWrong : ChangeSpec := { name := "scalarStarts", fn := fun _ => fun
  | [d1, d2] => { results := [.lit (.bool false)], args := [d1, d2] }
  | _ => none }
def ScalarStartsWrongFalsely : Prop := scalarStartsRow.holds Try.pinned (OpenSpec.ofChange scalarStartsWrong)

/- THE SECOND FORM. 'bulk': how many values and letters a reading holds, each counted each time it is reached (what is shared counts as often as it is met; a slice's spare places count too). A statement '..UptoSaid' is the law's where the arguments, and the package variables that the reading takes, are together of bulk at most 1048576: NARROWER than '..Said'. Prove '..Said' where nothing that the law and all that it calls make is longer than what came in: it says more and counts as full. Else prove '..UptoSaid'. A law counts once. -/
mutual
def uptoBulk {H : Type} : DataW H → Nat
  | .lit (.string bytes) => bytes.length + 1
  | .lit _ => 1
  | .nil => 1
  | .ptr d => uptoBulk d + 1
  | .slice elems spare => uptoBulkAll elems + uptoBulkAll spare + 1
  | .agg parts => uptoBulkAll parts + 1
  | .iface _ d => uptoBulk d + 1
  | .map entries => uptoBulkEntries entries + 1
  | .held _ => 1
def uptoBulkAll {H : Type} : List (DataW H) → Nat
  | [] => 0
  | d :: r => uptoBulk d + uptoBulkAll r
def uptoBulkEntries {H : Type} : List (Lit × DataW H) → Nat
  | [] => 0
  | x :: r => uptoBulkEntry x + uptoBulkEntries r
def uptoBulkEntry {H : Type} : Lit × DataW H → Nat
  | (.string bytes, d) => bytes.length + uptoBulk d + 1
  | (_, d) => uptoBulk d + 1
 end
def uptoSmall : (H : Type) → List (DataW H) → Bool := fun _ ds => decide (uptoBulkAll ds ≤ 1048576)
def OpenSpec.upto (s : _root_.Go.ChangeSpec) : _root_.Go.OpenSpec := { _root_.Go.OpenSpec.ofChange s with cond := some uptoSmall }

/-- 'virgulelaw01.ScalarReads', WHERE WHAT IT READS IS OF BULK AT MOST 1048576: true; the input reads as it did. -/
def scalarReadsUptoRow : OpenClaim := { program := "ytalgldnnbjlokaa", sum := "bf9e1095c86ca0767bb4628ceb8de4b3a6f570605b53b340fc79a5540c55088d", func := "virgule/virgulelaw01.ScalarReads", spec := "scalarReads", unfollowed := true, recurses := true, apart := false, narrowed := true }
def ScalarReadsUptoSaid : Prop := scalarReadsUptoRow.holds Try.pinned (OpenSpec.upto scalarReadsSpec)

/-- 'virgulelaw01.ScalarAll', WHERE WHAT IT READS IS OF BULK AT MOST 1048576: true; the input reads as it did. -/
def scalarAllUptoRow : OpenClaim := { program := "ytalgldnnbjlokaa", sum := "bf9e1095c86ca0767bb4628ceb8de4b3a6f570605b53b340fc79a5540c55088d", func := "virgule/virgulelaw01.ScalarAll", spec := "scalarAll", unfollowed := true, recurses := true, apart := false, narrowed := true }
def ScalarAllUptoSaid : Prop := scalarAllUptoRow.holds Try.pinned (OpenSpec.upto scalarAllSpec)

/-- 'virgulelaw01.ScalarJoins', WHERE WHAT IT READS IS OF BULK AT MOST 1048576: true; the input reads as it did. -/
def scalarJoinsUptoRow : OpenClaim := { program := "ytalgldnnbjlokaa", sum := "bf9e1095c86ca0767bb4628ceb8de4b3a6f570605b53b340fc79a5540c55088d", func := "virgule/virgulelaw01.ScalarJoins", spec := "scalarJoins", unfollowed := true, recurses := true, apart := false, narrowed := true }
def ScalarJoinsUptoSaid : Prop := scalarJoinsUptoRow.holds Try.pinned (OpenSpec.upto scalarJoinsSpec)

/-- 'virgulelaw01.ScalarStarts', WHERE WHAT IT READS IS OF BULK AT MOST 1048576: true; the input reads as it did. -/
def scalarStartsUptoRow : OpenClaim := { program := "ytalgldnnbjlokaa", sum := "bf9e1095c86ca0767bb4628ceb8de4b3a6f570605b53b340fc79a5540c55088d", func := "virgule/virgulelaw01.ScalarStarts", spec := "scalarStarts", unfollowed := true, recurses := true, apart := false, narrowed := true }
def ScalarStartsUptoSaid : Prop := scalarStartsUptoRow.holds Try.pinned (OpenSpec.upto scalarStartsSpec)

end Rows
end Go.Proofs.Ytalgldnnbjlokaa
