/-
  No cell of these rows narrows 'for every input' (looked for: loops, veiled, ifaces, maps, wideKeys, modest, calm, conditions, laid).
  DERIVED. THE GIVEN ROWS OF THIS SEAT. 6 by the template 'for every input the law returns true; each argument reads behind the call as it read before'; 0 by the template 'total and deterministic' (their statements: YtoemdeeiafeaoaaTotals.lean).
  GIVEN WITH THE SEED: the statements are not yours to turn. If you find one false, say at which input.
  Laid BY PROGRAM, IN A SANDBOX (cutbox-rows.mjs): the forced cells as the released guide's own fill.sh prints them over the translation ded71a9cfaa798d4… (all of the seat's roots in one cut). By AI agents, Wed Nov 11 2026. No macro, syntax, notation, axiom, sorry.
-/
import Derived.Test.YtoemdeeiafeaoaaChecked
import GoSem.Claim
import GoSem.ClaimJoined
import GoSem.ClaimMapViews
import Derived.JoinedTies
import Derived.KernelRfl
namespace Go.Proofs.Ytoemdeeiafeaoaa
/- THE CELL 'sum', in the pinned program and in every row, IS THE sha256 OF THE DUMP (.gsa) THAT YtoemdeeiafeaoaaProg.lean LOADS. Nothing in Lean hashes anything: it is a label: what it is worth is what the hold of that sum in a sandbox is worth. -/
noncomputable def Try.pinned : Pinned := { name := "ytoemdeeiafeaoaa", sum := "ded71a9cfaa798d4567f52037b40187cd3af795dc864e6ad2b9c8c7f185ac175", checked := Try.checked }
namespace Rows
def none {H : Type} : Left H := { results := [], args := [] }

/-- 'laws.FnExactAscendingRuns': WHATEVER THE INPUT: true; the input reads as it did. -/
def fnExactAscendingRunsSpec : ChangeSpec := { name := "fnExactAscendingRuns", fn := fun _ => fun
  | [d] => { results := [.lit (.bool true)], args := [d] }
  | _ => none }
def fnExactAscendingRunsRow : OpenClaim := { program := "ytoemdeeiafeaoaa", sum := "ded71a9cfaa798d4567f52037b40187cd3af795dc864e6ad2b9c8c7f185ac175", func := "loop.example/g00907/laws.FnExactAscendingRuns", spec := "fnExactAscendingRuns", unfollowed := true, recurses := true, apart := false }
def FnExactAscendingRunsSaid : Prop := fnExactAscendingRunsRow.holds Try.pinned (OpenSpec.ofChange fnExactAscendingRunsSpec)

/-- ITS FALSE NEIGHBOUR: 'it returns false'. Refute it at one input. -/
def fnExactAscendingRunsWrong : ChangeSpec := { name := "fnExactAscendingRuns", fn := fun _ => fun
  | [d] => { results := [.lit (.bool false)], args := [d] }
  | _ => none }
def FnExactAscendingRunsWrongFalsely : Prop := fnExactAscendingRunsRow.holds Try.pinned (OpenSpec.ofChange fnExactAscendingRunsWrong)

/-- 'laws.FnExactRunLengths': WHATEVER THE INPUT: true; the input reads as it did. -/
def fnExactRunLengthsSpec : ChangeSpec := { name := "fnExactRunLengths", fn := fun _ => fun
  | [d1, d2] => { results := [.lit (.bool true)], args := [d1, d2] }
  | _ => none }
def fnExactRunLengthsRow : OpenClaim := { program := "ytoemdeeiafeaoaa", sum := "ded71a9cfaa798d4567f52037b40187cd3af795dc864e6ad2b9c8c7f185ac175", func := "loop.example/g00907/laws.FnExactRunLengths", spec := "fnExactRunLengths", unfollowed := true, recurses := true, apart := false }
def FnExactRunLengthsSaid : Prop := fnExactRunLengthsRow.holds Try.pinned (OpenSpec.ofChange fnExactRunLengthsSpec)

/-- ITS FALSE NEIGHBOUR: 'it returns false'. Refute it at one input. -/
def fnExactRunLengthsWrong : ChangeSpec := { name := "fnExactRunLengths", fn := fun _ => fun
  | [d1, d2] => { results := [.lit (.bool false)], args := [d1, d2] }
  | _ => none }
def FnExactRunLengthsWrongFalsely : Prop := fnExactRunLengthsRow.holds Try.pinned (OpenSpec.ofChange fnExactRunLengthsWrong)

/-- 'laws.FnExactReplacementSelection': WHATEVER THE INPUT: true; the input reads as it did. -/
def fnExactReplacementSelectionSpec : ChangeSpec := { name := "fnExactReplacementSelection", fn := fun _ => fun
  | [d1, d2] => { results := [.lit (.bool true)], args := [d1, d2] }
  | _ => none }
def fnExactReplacementSelectionRow : OpenClaim := { program := "ytoemdeeiafeaoaa", sum := "ded71a9cfaa798d4567f52037b40187cd3af795dc864e6ad2b9c8c7f185ac175", func := "loop.example/g00907/laws.FnExactReplacementSelection", spec := "fnExactReplacementSelection", unfollowed := true, recurses := true, apart := false }
def FnExactReplacementSelectionSaid : Prop := fnExactReplacementSelectionRow.holds Try.pinned (OpenSpec.ofChange fnExactReplacementSelectionSpec)

/-- ITS FALSE NEIGHBOUR: 'it returns false'. Refute it at one input. -/
def fnExactReplacementSelectionWrong : ChangeSpec := { name := "fnExactReplacementSelection", fn := fun _ => fun
  | [d1, d2] => { results := [.lit (.bool false)], args := [d1, d2] }
  | _ => none }
def FnExactReplacementSelectionWrongFalsely : Prop := fnExactReplacementSelectionRow.holds Try.pinned (OpenSpec.ofChange fnExactReplacementSelectionWrong)

/-- 'laws.FnExactBatchRuns': WHATEVER THE INPUT: true; the input reads as it did. -/
def fnExactBatchRunsSpec : ChangeSpec := { name := "fnExactBatchRuns", fn := fun _ => fun
  | [d1, d2] => { results := [.lit (.bool true)], args := [d1, d2] }
  | _ => none }
def fnExactBatchRunsRow : OpenClaim := { program := "ytoemdeeiafeaoaa", sum := "ded71a9cfaa798d4567f52037b40187cd3af795dc864e6ad2b9c8c7f185ac175", func := "loop.example/g00907/laws.FnExactBatchRuns", spec := "fnExactBatchRuns", unfollowed := true, recurses := true, apart := false }
def FnExactBatchRunsSaid : Prop := fnExactBatchRunsRow.holds Try.pinned (OpenSpec.ofChange fnExactBatchRunsSpec)

/-- ITS FALSE NEIGHBOUR: 'it returns false'. Refute it at one input. -/
def fnExactBatchRunsWrong : ChangeSpec := { name := "fnExactBatchRuns", fn := fun _ => fun
  | [d1, d2] => { results := [.lit (.bool false)], args := [d1, d2] }
  | _ => none }
def FnExactBatchRunsWrongFalsely : Prop := fnExactBatchRunsRow.holds Try.pinned (OpenSpec.ofChange fnExactBatchRunsWrong)

/-- 'laws.FnExactMergeRuns': WHATEVER THE INPUT: true; the input reads as it did. -/
def fnExactMergeRunsSpec : ChangeSpec := { name := "fnExactMergeRuns", fn := fun _ => fun
  | [d] => { results := [.lit (.bool true)], args := [d] }
  | _ => none }
def fnExactMergeRunsRow : OpenClaim := { program := "ytoemdeeiafeaoaa", sum := "ded71a9cfaa798d4567f52037b40187cd3af795dc864e6ad2b9c8c7f185ac175", func := "loop.example/g00907/laws.FnExactMergeRuns", spec := "fnExactMergeRuns", unfollowed := true, recurses := true, apart := false }
def FnExactMergeRunsSaid : Prop := fnExactMergeRunsRow.holds Try.pinned (OpenSpec.ofChange fnExactMergeRunsSpec)

/-- ITS FALSE NEIGHBOUR: 'it returns false'. Refute it at one input. -/
def fnExactMergeRunsWrong : ChangeSpec := { name := "fnExactMergeRuns", fn := fun _ => fun
  | [d] => { results := [.lit (.bool false)], args := [d] }
  | _ => none }
def FnExactMergeRunsWrongFalsely : Prop := fnExactMergeRunsRow.holds Try.pinned (OpenSpec.ofChange fnExactMergeRunsWrong)

/-- 'laws.FnExactIsRunPartition': WHATEVER THE INPUT: true; the input reads as it did. -/
def fnExactIsRunPartitionSpec : ChangeSpec := { name := "fnExactIsRunPartition", fn := fun _ => fun
  | [d1, d2] => { results := [.lit (.bool true)], args := [d1, d2] }
  | _ => none }
def fnExactIsRunPartitionRow : OpenClaim := { program := "ytoemdeeiafeaoaa", sum := "ded71a9cfaa798d4567f52037b40187cd3af795dc864e6ad2b9c8c7f185ac175", func := "loop.example/g00907/laws.FnExactIsRunPartition", spec := "fnExactIsRunPartition", unfollowed := true, recurses := true, apart := false }
def FnExactIsRunPartitionSaid : Prop := fnExactIsRunPartitionRow.holds Try.pinned (OpenSpec.ofChange fnExactIsRunPartitionSpec)

/-- ITS FALSE NEIGHBOUR: 'it returns false'. Refute it at one input. -/
def fnExactIsRunPartitionWrong : ChangeSpec := { name := "fnExactIsRunPartition", fn := fun _ => fun
  | [d1, d2] => { results := [.lit (.bool false)], args := [d1, d2] }
  | _ => none }
def FnExactIsRunPartitionWrongFalsely : Prop := fnExactIsRunPartitionRow.holds Try.pinned (OpenSpec.ofChange fnExactIsRunPartitionWrong)

/- THE SECOND FORM. 'bulk': how many values and letters a reading holds, each counted each time it is reached (what is shared counts as often as it is met; a slice's spare places count too). A statement '..UptoSaid' is the law's where the arguments, and the package variables that the reading takes, are together of bulk at most 1048576: NARROWER than '..Said'. Prove '..Said' where nothing that the law and all that it calls make is longer than what came in: it says more and counts as full. Else prove '..UptoSaid'. A law counts once. -/
mutual
def uptoBulk {H : Type} : DataW H → Nat
  | .lit (.string bytes) => bytes.length + 1
  | .lit _ => 1
  | .nil => 1
  | .ptr d => uptoBulk d + 1
  | .slice elems spare => uptoBulkAll elems + uptoBulkAll spare + 1
  | .agg parts => uptoBulkAll parts + 1
  | .iface _ d => uptoBulk d + 1
  | .map entries => uptoBulkEntries entries + 1
  | .held _ => 1
def uptoBulkAll {H : Type} : List (DataW H) → Nat
  | [] => 0
  | d :: r => uptoBulk d + uptoBulkAll r
def uptoBulkEntries {H : Type} : List (Lit × DataW H) → Nat
  | [] => 0
  | x :: r => uptoBulkEntry x + uptoBulkEntries r
def uptoBulkEntry {H : Type} : Lit × DataW H → Nat
  | (.string bytes, d) => bytes.length + uptoBulk d + 1
  | (_, d) => uptoBulk d + 1
 end
def uptoSmall : (H : Type) → List (DataW H) → Bool := fun _ ds => decide (uptoBulkAll ds ≤ 1048576)
def OpenSpec.upto (s : _root_.Go.ChangeSpec) : _root_.Go.OpenSpec := { _root_.Go.OpenSpec.ofChange s with cond := some uptoSmall }

/-- 'laws.FnExactAscendingRuns', WHERE WHAT IT READS IS OF BULK AT MOST 1048576: true; the input reads as it did. -/
def fnExactAscendingRunsUptoRow : OpenClaim := { program := "ytoemdeeiafeaoaa", sum := "ded71a9cfaa798d4567f52037b40187cd3af795dc864e6ad2b9c8c7f185ac175", func := "loop.example/g00907/laws.FnExactAscendingRuns", spec := "fnExactAscendingRuns", unfollowed := true, recurses := true, apart := false, narrowed := true }
def FnExactAscendingRunsUptoSaid : Prop := fnExactAscendingRunsUptoRow.holds Try.pinned (OpenSpec.upto fnExactAscendingRunsSpec)

/-- 'laws.FnExactRunLengths', WHERE WHAT IT READS IS OF BULK AT MOST 1048576: true; the input reads as it did. -/
def fnExactRunLengthsUptoRow : OpenClaim := { program := "ytoemdeeiafeaoaa", sum := "ded71a9cfaa798d4567f52037b40187cd3af795dc864e6ad2b9c8c7f185ac175", func := "loop.example/g00907/laws.FnExactRunLengths", spec := "fnExactRunLengths", unfollowed := true, recurses := true, apart := false, narrowed := true }
def FnExactRunLengthsUptoSaid : Prop := fnExactRunLengthsUptoRow.holds Try.pinned (OpenSpec.upto fnExactRunLengthsSpec)

/-- 'laws.FnExactReplacementSelection', WHERE WHAT IT READS IS OF BULK AT MOST 1048576: true; the input reads as it did. -/
def fnExactReplacementSelectionUptoRow : OpenClaim := { program := "ytoemdeeiafeaoaa", sum := "ded71a9cfaa798d4567f52037b40187cd3af795dc864e6ad2b9c8c7f185ac175", func := "loop.example/g00907/laws.FnExactReplacementSelection", spec := "fnExactReplacementSelection", unfollowed := true, recurses := true, apart := false, narrowed := true }
def FnExactReplacementSelectionUptoSaid : Prop := fnExactReplacementSelectionUptoRow.holds Try.pinned (OpenSpec.upto fnExactReplacementSelectionSpec)

/-- 'laws.FnExactBatchRuns', WHERE WHAT IT READS IS OF BULK AT MOST 1048576: true; the input reads as it did. -/
def fnExactBatchRunsUptoRow : OpenClaim := { program := "ytoemdeeiafeaoaa", sum := "ded71a9cfaa798d4567f52037b40187cd3af795dc864e6ad2b9c8c7f185ac175", func := "loop.example/g00907/laws.FnExactBatchRuns", spec := "fnExactBatchRuns", unfollowed := true, recurses := true, apart := false, narrowed := true }
def FnExactBatchRunsUptoSaid : Prop := fnExactBatchRunsUptoRow.holds Try.pinned (OpenSpec.upto fnExactBatchRunsSpec)

/-- 'laws.FnExactMergeRuns', WHERE WHAT IT READS IS OF BULK AT MOST 1048576: true; the input reads as it did. -/
def fnExactMergeRunsUptoRow : OpenClaim := { program := "ytoemdeeiafeaoaa", sum := "ded71a9cfaa798d4567f52037b40187cd3af795dc864e6ad2b9c8c7f185ac175", func := "loop.example/g00907/laws.FnExactMergeRuns", spec := "fnExactMergeRuns", unfollowed := true, recurses := true, apart := false, narrowed := true }
def FnExactMergeRunsUptoSaid : Prop := fnExactMergeRunsUptoRow.holds Try.pinned (OpenSpec.upto fnExactMergeRunsSpec)

/-- 'laws.FnExactIsRunPartition', WHERE WHAT IT READS IS OF BULK AT MOST 1048576: true; the input reads as it did. -/
def fnExactIsRunPartitionUptoRow : OpenClaim := { program := "ytoemdeeiafeaoaa", sum := "ded71a9cfaa798d4567f52037b40187cd3af795dc864e6ad2b9c8c7f185ac175", func := "loop.example/g00907/laws.FnExactIsRunPartition", spec := "fnExactIsRunPartition", unfollowed := true, recurses := true, apart := false, narrowed := true }
def FnExactIsRunPartitionUptoSaid : Prop := fnExactIsRunPartitionUptoRow.holds Try.pinned (OpenSpec.upto fnExactIsRunPartitionSpec)

end Rows
end Go.Proofs.Ytoemdeeiafeaoaa
