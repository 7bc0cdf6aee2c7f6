/-
  No cell of these rows narrows 'for every input' (looked for: loops, veiled, ifaces, maps, wideKeys, modest, calm, conditions, laid).
  DERIVED. THE GIVEN ROWS OF THIS SEAT. 6 by the template 'for every input the law returns true; each argument reads behind the call as it read before'; 0 by the template 'total and deterministic' (their statements: YtbagbplapfkjjaaTotals.lean).
  GIVEN WITH THE SEED: the statements are not yours to turn. If you find one false, say at which input.
  Laid BY PROGRAM, IN A SANDBOX (cutbox-rows.mjs): the forced cells as the released guide's own fill.sh prints them over the translation 038ee2337090a681… (all of the seat's roots in one cut). By AI agents, Wed Nov 11 2026. No macro, syntax, notation, axiom, sorry.
-/
import Derived.Test.YtbagbplapfkjjaaChecked
import GoSem.Claim
import GoSem.ClaimJoined
import GoSem.ClaimMapViews
import Derived.JoinedTies
import Derived.KernelRfl
namespace Go.Proofs.Ytbagbplapfkjjaa
/- THE CELL 'sum', in the pinned program and in every row, IS THE sha256 OF THE DUMP (.gsa) THAT YtbagbplapfkjjaaProg.lean LOADS. Nothing in Lean hashes anything: it is a label: what it is worth is what the hold of that sum in a sandbox is worth. -/
noncomputable def Try.pinned : Pinned := { name := "ytbagbplapfkjjaa", sum := "038ee2337090a68188697d90c24a9c247c47a54696bbddf0fe7f360fd3103b8f", checked := Try.checked }
namespace Rows
def none {H : Type} : Left H := { results := [], args := [] }

/-- 'laws.FnExactRunLengths': WHATEVER THE INPUT: true; the input reads as it did. -/
def fnExactRunLengthsSpec : ChangeSpec := { name := "fnExactRunLengths", fn := fun _ => fun
  | [d1, d2] => { results := [.lit (.bool true)], args := [d1, d2] }
  | _ => none }
def fnExactRunLengthsRow : OpenClaim := { program := "ytbagbplapfkjjaa", sum := "038ee2337090a68188697d90c24a9c247c47a54696bbddf0fe7f360fd3103b8f", func := "loop.example/g00907/laws.FnExactRunLengths", spec := "fnExactRunLengths", unfollowed := true, recurses := true, apart := false }
def FnExactRunLengthsSaid : Prop := fnExactRunLengthsRow.holds Try.pinned (OpenSpec.ofChange fnExactRunLengthsSpec)

/-- ITS FALSE NEIGHBOUR: 'it returns false'. Refute it at one input. -/
def fnExactRunLengthsWrong : ChangeSpec := { name := "fnExactRunLengths", fn := fun _ => fun
  | [d1, d2] => { results := [.lit (.bool false)], args := [d1, d2] }
  | _ => none }
def FnExactRunLengthsWrongFalsely : Prop := fnExactRunLengthsRow.holds Try.pinned (OpenSpec.ofChange fnExactRunLengthsWrong)

/-- 'laws.FnExactAscendingRuns': WHATEVER THE INPUT: true; the input reads as it did. -/
def fnExactAscendingRunsSpec : ChangeSpec := { name := "fnExactAscendingRuns", fn := fun _ => fun
  | [d] => { results := [.lit (.bool true)], args := [d] }
  | _ => none }
def fnExactAscendingRunsRow : OpenClaim := { program := "ytbagbplapfkjjaa", sum := "038ee2337090a68188697d90c24a9c247c47a54696bbddf0fe7f360fd3103b8f", func := "loop.example/g00907/laws.FnExactAscendingRuns", spec := "fnExactAscendingRuns", unfollowed := true, recurses := true, apart := false }
def FnExactAscendingRunsSaid : Prop := fnExactAscendingRunsRow.holds Try.pinned (OpenSpec.ofChange fnExactAscendingRunsSpec)

/-- ITS FALSE NEIGHBOUR: 'it returns false'. Refute it at one input. -/
def fnExactAscendingRunsWrong : ChangeSpec := { name := "fnExactAscendingRuns", fn := fun _ => fun
  | [d] => { results := [.lit (.bool false)], args := [d] }
  | _ => none }
def FnExactAscendingRunsWrongFalsely : Prop := fnExactAscendingRunsRow.holds Try.pinned (OpenSpec.ofChange fnExactAscendingRunsWrong)

/-- 'laws.FnExactConcatNetworks': WHATEVER THE INPUT: true; the input reads as it did. -/
def fnExactConcatNetworksSpec : ChangeSpec := { name := "fnExactConcatNetworks", fn := fun _ => fun
  | [d1, d2] => { results := [.lit (.bool true)], args := [d1, d2] }
  | _ => none }
def fnExactConcatNetworksRow : OpenClaim := { program := "ytbagbplapfkjjaa", sum := "038ee2337090a68188697d90c24a9c247c47a54696bbddf0fe7f360fd3103b8f", func := "loop.example/g00907/laws.FnExactConcatNetworks", spec := "fnExactConcatNetworks", unfollowed := true, recurses := true, apart := false }
def FnExactConcatNetworksSaid : Prop := fnExactConcatNetworksRow.holds Try.pinned (OpenSpec.ofChange fnExactConcatNetworksSpec)

/-- ITS FALSE NEIGHBOUR: 'it returns false'. Refute it at one input. -/
def fnExactConcatNetworksWrong : ChangeSpec := { name := "fnExactConcatNetworks", fn := fun _ => fun
  | [d1, d2] => { results := [.lit (.bool false)], args := [d1, d2] }
  | _ => none }
def FnExactConcatNetworksWrongFalsely : Prop := fnExactConcatNetworksRow.holds Try.pinned (OpenSpec.ofChange fnExactConcatNetworksWrong)

/-- 'laws.FnExactDropWire': WHATEVER THE INPUT: true; the input reads as it did. -/
def fnExactDropWireSpec : ChangeSpec := { name := "fnExactDropWire", fn := fun _ => fun
  | [d1, d2] => { results := [.lit (.bool true)], args := [d1, d2] }
  | _ => none }
def fnExactDropWireRow : OpenClaim := { program := "ytbagbplapfkjjaa", sum := "038ee2337090a68188697d90c24a9c247c47a54696bbddf0fe7f360fd3103b8f", func := "loop.example/g00907/laws.FnExactDropWire", spec := "fnExactDropWire", unfollowed := true, recurses := true, apart := false }
def FnExactDropWireSaid : Prop := fnExactDropWireRow.holds Try.pinned (OpenSpec.ofChange fnExactDropWireSpec)

/-- ITS FALSE NEIGHBOUR: 'it returns false'. Refute it at one input. -/
def fnExactDropWireWrong : ChangeSpec := { name := "fnExactDropWire", fn := fun _ => fun
  | [d1, d2] => { results := [.lit (.bool false)], args := [d1, d2] }
  | _ => none }
def FnExactDropWireWrongFalsely : Prop := fnExactDropWireRow.holds Try.pinned (OpenSpec.ofChange fnExactDropWireWrong)

/-- 'laws.FnExactFirstUnsorted': WHATEVER THE INPUT: true; the input reads as it did. -/
def fnExactFirstUnsortedSpec : ChangeSpec := { name := "fnExactFirstUnsorted", fn := fun _ => fun
  | [d] => { results := [.lit (.bool true)], args := [d] }
  | _ => none }
def fnExactFirstUnsortedRow : OpenClaim := { program := "ytbagbplapfkjjaa", sum := "038ee2337090a68188697d90c24a9c247c47a54696bbddf0fe7f360fd3103b8f", func := "loop.example/g00907/laws.FnExactFirstUnsorted", spec := "fnExactFirstUnsorted", unfollowed := true, recurses := true, apart := false }
def FnExactFirstUnsortedSaid : Prop := fnExactFirstUnsortedRow.holds Try.pinned (OpenSpec.ofChange fnExactFirstUnsortedSpec)

/-- ITS FALSE NEIGHBOUR: 'it returns false'. Refute it at one input. -/
def fnExactFirstUnsortedWrong : ChangeSpec := { name := "fnExactFirstUnsorted", fn := fun _ => fun
  | [d] => { results := [.lit (.bool false)], args := [d] }
  | _ => none }
def FnExactFirstUnsortedWrongFalsely : Prop := fnExactFirstUnsortedRow.holds Try.pinned (OpenSpec.ofChange fnExactFirstUnsortedWrong)

/-- 'laws.FnExactMergesSorted': WHATEVER THE INPUT: true; the input reads as it did. -/
def fnExactMergesSortedSpec : ChangeSpec := { name := "fnExactMergesSorted", fn := fun _ => fun
  | [d1, d2] => { results := [.lit (.bool true)], args := [d1, d2] }
  | _ => none }
def fnExactMergesSortedRow : OpenClaim := { program := "ytbagbplapfkjjaa", sum := "038ee2337090a68188697d90c24a9c247c47a54696bbddf0fe7f360fd3103b8f", func := "loop.example/g00907/laws.FnExactMergesSorted", spec := "fnExactMergesSorted", unfollowed := true, recurses := true, apart := false }
def FnExactMergesSortedSaid : Prop := fnExactMergesSortedRow.holds Try.pinned (OpenSpec.ofChange fnExactMergesSortedSpec)

/-- ITS FALSE NEIGHBOUR: 'it returns false'. Refute it at one input. -/
def fnExactMergesSortedWrong : ChangeSpec := { name := "fnExactMergesSorted", fn := fun _ => fun
  | [d1, d2] => { results := [.lit (.bool false)], args := [d1, d2] }
  | _ => none }
def FnExactMergesSortedWrongFalsely : Prop := fnExactMergesSortedRow.holds Try.pinned (OpenSpec.ofChange fnExactMergesSortedWrong)

/- THE SECOND FORM. 'bulk': how many values and letters a reading holds, each counted each time it is reached (what is shared counts as often as it is met; a slice's spare places count too). A statement '..UptoSaid' is the law's where the arguments, and the package variables that the reading takes, are together of bulk at most 1048576: NARROWER than '..Said'. Prove '..Said' where nothing that the law and all that it calls make is longer than what came in: it says more and counts as full. Else prove '..UptoSaid'. A law counts once. -/
mutual
def uptoBulk {H : Type} : DataW H → Nat
  | .lit (.string bytes) => bytes.length + 1
  | .lit _ => 1
  | .nil => 1
  | .ptr d => uptoBulk d + 1
  | .slice elems spare => uptoBulkAll elems + uptoBulkAll spare + 1
  | .agg parts => uptoBulkAll parts + 1
  | .iface _ d => uptoBulk d + 1
  | .map entries => uptoBulkEntries entries + 1
  | .held _ => 1
def uptoBulkAll {H : Type} : List (DataW H) → Nat
  | [] => 0
  | d :: r => uptoBulk d + uptoBulkAll r
def uptoBulkEntries {H : Type} : List (Lit × DataW H) → Nat
  | [] => 0
  | x :: r => uptoBulkEntry x + uptoBulkEntries r
def uptoBulkEntry {H : Type} : Lit × DataW H → Nat
  | (.string bytes, d) => bytes.length + uptoBulk d + 1
  | (_, d) => uptoBulk d + 1
 end
def uptoSmall : (H : Type) → List (DataW H) → Bool := fun _ ds => decide (uptoBulkAll ds ≤ 1048576)
def OpenSpec.upto (s : _root_.Go.ChangeSpec) : _root_.Go.OpenSpec := { _root_.Go.OpenSpec.ofChange s with cond := some uptoSmall }

/-- 'laws.FnExactRunLengths', WHERE WHAT IT READS IS OF BULK AT MOST 1048576: true; the input reads as it did. -/
def fnExactRunLengthsUptoRow : OpenClaim := { program := "ytbagbplapfkjjaa", sum := "038ee2337090a68188697d90c24a9c247c47a54696bbddf0fe7f360fd3103b8f", func := "loop.example/g00907/laws.FnExactRunLengths", spec := "fnExactRunLengths", unfollowed := true, recurses := true, apart := false, narrowed := true }
def FnExactRunLengthsUptoSaid : Prop := fnExactRunLengthsUptoRow.holds Try.pinned (OpenSpec.upto fnExactRunLengthsSpec)

/-- 'laws.FnExactAscendingRuns', WHERE WHAT IT READS IS OF BULK AT MOST 1048576: true; the input reads as it did. -/
def fnExactAscendingRunsUptoRow : OpenClaim := { program := "ytbagbplapfkjjaa", sum := "038ee2337090a68188697d90c24a9c247c47a54696bbddf0fe7f360fd3103b8f", func := "loop.example/g00907/laws.FnExactAscendingRuns", spec := "fnExactAscendingRuns", unfollowed := true, recurses := true, apart := false, narrowed := true }
def FnExactAscendingRunsUptoSaid : Prop := fnExactAscendingRunsUptoRow.holds Try.pinned (OpenSpec.upto fnExactAscendingRunsSpec)

/-- 'laws.FnExactConcatNetworks', WHERE WHAT IT READS IS OF BULK AT MOST 1048576: true; the input reads as it did. -/
def fnExactConcatNetworksUptoRow : OpenClaim := { program := "ytbagbplapfkjjaa", sum := "038ee2337090a68188697d90c24a9c247c47a54696bbddf0fe7f360fd3103b8f", func := "loop.example/g00907/laws.FnExactConcatNetworks", spec := "fnExactConcatNetworks", unfollowed := true, recurses := true, apart := false, narrowed := true }
def FnExactConcatNetworksUptoSaid : Prop := fnExactConcatNetworksUptoRow.holds Try.pinned (OpenSpec.upto fnExactConcatNetworksSpec)

/-- 'laws.FnExactDropWire', WHERE WHAT IT READS IS OF BULK AT MOST 1048576: true; the input reads as it did. -/
def fnExactDropWireUptoRow : OpenClaim := { program := "ytbagbplapfkjjaa", sum := "038ee2337090a68188697d90c24a9c247c47a54696bbddf0fe7f360fd3103b8f", func := "loop.example/g00907/laws.FnExactDropWire", spec := "fnExactDropWire", unfollowed := true, recurses := true, apart := false, narrowed := true }
def FnExactDropWireUptoSaid : Prop := fnExactDropWireUptoRow.holds Try.pinned (OpenSpec.upto fnExactDropWireSpec)

/-- 'laws.FnExactFirstUnsorted', WHERE WHAT IT READS IS OF BULK AT MOST 1048576: true; the input reads as it did. -/
def fnExactFirstUnsortedUptoRow : OpenClaim := { program := "ytbagbplapfkjjaa", sum := "038ee2337090a68188697d90c24a9c247c47a54696bbddf0fe7f360fd3103b8f", func := "loop.example/g00907/laws.FnExactFirstUnsorted", spec := "fnExactFirstUnsorted", unfollowed := true, recurses := true, apart := false, narrowed := true }
def FnExactFirstUnsortedUptoSaid : Prop := fnExactFirstUnsortedUptoRow.holds Try.pinned (OpenSpec.upto fnExactFirstUnsortedSpec)

/-- 'laws.FnExactMergesSorted', WHERE WHAT IT READS IS OF BULK AT MOST 1048576: true; the input reads as it did. -/
def fnExactMergesSortedUptoRow : OpenClaim := { program := "ytbagbplapfkjjaa", sum := "038ee2337090a68188697d90c24a9c247c47a54696bbddf0fe7f360fd3103b8f", func := "loop.example/g00907/laws.FnExactMergesSorted", spec := "fnExactMergesSorted", unfollowed := true, recurses := true, apart := false, narrowed := true }
def FnExactMergesSortedUptoSaid : Prop := fnExactMergesSortedUptoRow.holds Try.pinned (OpenSpec.upto fnExactMergesSortedSpec)

end Rows
end Go.Proofs.Ytbagbplapfkjjaa
