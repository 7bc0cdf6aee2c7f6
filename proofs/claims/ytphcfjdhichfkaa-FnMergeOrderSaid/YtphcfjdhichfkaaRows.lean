/-
  No cell of these rows narrows 'for every input' (looked for: loops, veiled, ifaces, maps, wideKeys, modest, calm, conditions, laid).
  DERIVED. THE GIVEN ROWS OF THIS SEAT. 6 by the template 'for every input the law returns true; each argument reads behind the call as it read before'; 0 by the template 'total and deterministic' (their statements: YtphcfjdhichfkaaTotals.lean).
  GIVEN WITH THE SEED: the statements are not yours to turn. If you find one false, say at which input.
  Laid BY PROGRAM, IN A SANDBOX (cutbox-rows.mjs): the forced cells as the released guide's own fill.sh prints them over the translation 0d7bca1707ef8668… (all of the seat's roots in one cut). By AI agents, Wed Nov 11 2026. No macro, syntax, notation, axiom, sorry.
-/
import Derived.Test.YtphcfjdhichfkaaChecked
import GoSem.Claim
import GoSem.ClaimJoined
import GoSem.ClaimMapViews
import Derived.JoinedTies
import Derived.KernelRfl
namespace Go.Proofs.Ytphcfjdhichfkaa
/- THE CELL 'sum', in the pinned program and in every row, IS THE sha256 OF THE DUMP (.gsa) THAT YtphcfjdhichfkaaProg.lean LOADS. Nothing in Lean hashes anything: it is a label: what it is worth is what the hold of that sum in a sandbox is worth. -/
noncomputable def Try.pinned : Pinned := { name := "ytphcfjdhichfkaa", sum := "0d7bca1707ef86682a321197bf91e1ce81c7cc8cc8c918d7c63ece497a7935f1", checked := Try.checked }
namespace Rows
def none {H : Type} : Left H := { results := [], args := [] }

/-- 'laws.FnCompaction': WHATEVER THE INPUT: true; the input reads as it did. -/
def fnCompactionSpec : ChangeSpec := { name := "fnCompaction", fn := fun _ => fun
  | [d] => { results := [.lit (.bool true)], args := [d] }
  | _ => none }
def fnCompactionRow : OpenClaim := { program := "ytphcfjdhichfkaa", sum := "0d7bca1707ef86682a321197bf91e1ce81c7cc8cc8c918d7c63ece497a7935f1", func := "loop.example/g00907/laws.FnCompaction", spec := "fnCompaction", unfollowed := true, recurses := true, apart := false }
def FnCompactionSaid : Prop := fnCompactionRow.holds Try.pinned (OpenSpec.ofChange fnCompactionSpec)

/-- ITS FALSE NEIGHBOUR: 'it returns false'. Refute it at one input. -/
def fnCompactionWrong : ChangeSpec := { name := "fnCompaction", fn := fun _ => fun
  | [d] => { results := [.lit (.bool false)], args := [d] }
  | _ => none }
def FnCompactionWrongFalsely : Prop := fnCompactionRow.holds Try.pinned (OpenSpec.ofChange fnCompactionWrong)

/-- 'laws.FnCompactionSteps': WHATEVER THE INPUT: true; the input reads as it did. -/
def fnCompactionStepsSpec : ChangeSpec := { name := "fnCompactionSteps", fn := fun _ => fun
  | [d] => { results := [.lit (.bool true)], args := [d] }
  | _ => none }
def fnCompactionStepsRow : OpenClaim := { program := "ytphcfjdhichfkaa", sum := "0d7bca1707ef86682a321197bf91e1ce81c7cc8cc8c918d7c63ece497a7935f1", func := "loop.example/g00907/laws.FnCompactionSteps", spec := "fnCompactionSteps", unfollowed := true, recurses := true, apart := false }
def FnCompactionStepsSaid : Prop := fnCompactionStepsRow.holds Try.pinned (OpenSpec.ofChange fnCompactionStepsSpec)

/-- ITS FALSE NEIGHBOUR: 'it returns false'. Refute it at one input. -/
def fnCompactionStepsWrong : ChangeSpec := { name := "fnCompactionSteps", fn := fun _ => fun
  | [d] => { results := [.lit (.bool false)], args := [d] }
  | _ => none }
def FnCompactionStepsWrongFalsely : Prop := fnCompactionStepsRow.holds Try.pinned (OpenSpec.ofChange fnCompactionStepsWrong)

/-- 'laws.FnLayers': WHATEVER THE INPUT: true; the input reads as it did. -/
def fnLayersSpec : ChangeSpec := { name := "fnLayers", fn := fun _ => fun
  | [d] => { results := [.lit (.bool true)], args := [d] }
  | _ => none }
def fnLayersRow : OpenClaim := { program := "ytphcfjdhichfkaa", sum := "0d7bca1707ef86682a321197bf91e1ce81c7cc8cc8c918d7c63ece497a7935f1", func := "loop.example/g00907/laws.FnLayers", spec := "fnLayers", unfollowed := true, recurses := true, apart := false }
def FnLayersSaid : Prop := fnLayersRow.holds Try.pinned (OpenSpec.ofChange fnLayersSpec)

/-- ITS FALSE NEIGHBOUR: 'it returns false'. Refute it at one input. -/
def fnLayersWrong : ChangeSpec := { name := "fnLayers", fn := fun _ => fun
  | [d] => { results := [.lit (.bool false)], args := [d] }
  | _ => none }
def FnLayersWrongFalsely : Prop := fnLayersRow.holds Try.pinned (OpenSpec.ofChange fnLayersWrong)

/-- 'laws.FnObliviousSort': WHATEVER THE INPUT: true; the input reads as it did. -/
def fnObliviousSortSpec : ChangeSpec := { name := "fnObliviousSort", fn := fun _ => fun
  | [d] => { results := [.lit (.bool true)], args := [d] }
  | _ => none }
def fnObliviousSortRow : OpenClaim := { program := "ytphcfjdhichfkaa", sum := "0d7bca1707ef86682a321197bf91e1ce81c7cc8cc8c918d7c63ece497a7935f1", func := "loop.example/g00907/laws.FnObliviousSort", spec := "fnObliviousSort", unfollowed := true, recurses := true, apart := false }
def FnObliviousSortSaid : Prop := fnObliviousSortRow.holds Try.pinned (OpenSpec.ofChange fnObliviousSortSpec)

/-- ITS FALSE NEIGHBOUR: 'it returns false'. Refute it at one input. -/
def fnObliviousSortWrong : ChangeSpec := { name := "fnObliviousSort", fn := fun _ => fun
  | [d] => { results := [.lit (.bool false)], args := [d] }
  | _ => none }
def FnObliviousSortWrongFalsely : Prop := fnObliviousSortRow.holds Try.pinned (OpenSpec.ofChange fnObliviousSortWrong)

/-- 'laws.FnMergeCost': WHATEVER THE INPUT: true; the input reads as it did. -/
def fnMergeCostSpec : ChangeSpec := { name := "fnMergeCost", fn := fun _ => fun
  | [d] => { results := [.lit (.bool true)], args := [d] }
  | _ => none }
def fnMergeCostRow : OpenClaim := { program := "ytphcfjdhichfkaa", sum := "0d7bca1707ef86682a321197bf91e1ce81c7cc8cc8c918d7c63ece497a7935f1", func := "loop.example/g00907/laws.FnMergeCost", spec := "fnMergeCost", unfollowed := true, recurses := true, apart := false }
def FnMergeCostSaid : Prop := fnMergeCostRow.holds Try.pinned (OpenSpec.ofChange fnMergeCostSpec)

/-- ITS FALSE NEIGHBOUR: 'it returns false'. Refute it at one input. -/
def fnMergeCostWrong : ChangeSpec := { name := "fnMergeCost", fn := fun _ => fun
  | [d] => { results := [.lit (.bool false)], args := [d] }
  | _ => none }
def FnMergeCostWrongFalsely : Prop := fnMergeCostRow.holds Try.pinned (OpenSpec.ofChange fnMergeCostWrong)

/-- 'laws.FnMergeOrder': WHATEVER THE INPUT: true; the input reads as it did. -/
def fnMergeOrderSpec : ChangeSpec := { name := "fnMergeOrder", fn := fun _ => fun
  | [d] => { results := [.lit (.bool true)], args := [d] }
  | _ => none }
def fnMergeOrderRow : OpenClaim := { program := "ytphcfjdhichfkaa", sum := "0d7bca1707ef86682a321197bf91e1ce81c7cc8cc8c918d7c63ece497a7935f1", func := "loop.example/g00907/laws.FnMergeOrder", spec := "fnMergeOrder", unfollowed := true, recurses := true, apart := false }
def FnMergeOrderSaid : Prop := fnMergeOrderRow.holds Try.pinned (OpenSpec.ofChange fnMergeOrderSpec)

/-- ITS FALSE NEIGHBOUR: 'it returns false'. Refute it at one input. -/
def fnMergeOrderWrong : ChangeSpec := { name := "fnMergeOrder", fn := fun _ => fun
  | [d] => { results := [.lit (.bool false)], args := [d] }
  | _ => none }
def FnMergeOrderWrongFalsely : Prop := fnMergeOrderRow.holds Try.pinned (OpenSpec.ofChange fnMergeOrderWrong)

/- THE SECOND FORM. 'bulk': how many values and letters a reading holds, each counted each time it is reached (what is shared counts as often as it is met; a slice's spare places count too). A statement '..UptoSaid' is the law's where the arguments, and the package variables that the reading takes, are together of bulk at most 1048576: NARROWER than '..Said'. Prove '..Said' where nothing that the law and all that it calls make is longer than what came in: it says more and counts as full. Else prove '..UptoSaid'. A law counts once. -/
mutual
def uptoBulk {H : Type} : DataW H → Nat
  | .lit (.string bytes) => bytes.length + 1
  | .lit _ => 1
  | .nil => 1
  | .ptr d => uptoBulk d + 1
  | .slice elems spare => uptoBulkAll elems + uptoBulkAll spare + 1
  | .agg parts => uptoBulkAll parts + 1
  | .iface _ d => uptoBulk d + 1
  | .map entries => uptoBulkEntries entries + 1
  | .held _ => 1
def uptoBulkAll {H : Type} : List (DataW H) → Nat
  | [] => 0
  | d :: r => uptoBulk d + uptoBulkAll r
def uptoBulkEntries {H : Type} : List (Lit × DataW H) → Nat
  | [] => 0
  | x :: r => uptoBulkEntry x + uptoBulkEntries r
def uptoBulkEntry {H : Type} : Lit × DataW H → Nat
  | (.string bytes, d) => bytes.length + uptoBulk d + 1
  | (_, d) => uptoBulk d + 1
 end
def uptoSmall : (H : Type) → List (DataW H) → Bool := fun _ ds => decide (uptoBulkAll ds ≤ 1048576)
def OpenSpec.upto (s : _root_.Go.ChangeSpec) : _root_.Go.OpenSpec := { _root_.Go.OpenSpec.ofChange s with cond := some uptoSmall }

/-- 'laws.FnCompaction', WHERE WHAT IT READS IS OF BULK AT MOST 1048576: true; the input reads as it did. -/
def fnCompactionUptoRow : OpenClaim := { program := "ytphcfjdhichfkaa", sum := "0d7bca1707ef86682a321197bf91e1ce81c7cc8cc8c918d7c63ece497a7935f1", func := "loop.example/g00907/laws.FnCompaction", spec := "fnCompaction", unfollowed := true, recurses := true, apart := false, narrowed := true }
def FnCompactionUptoSaid : Prop := fnCompactionUptoRow.holds Try.pinned (OpenSpec.upto fnCompactionSpec)

/-- 'laws.FnCompactionSteps', WHERE WHAT IT READS IS OF BULK AT MOST 1048576: true; the input reads as it did. -/
def fnCompactionStepsUptoRow : OpenClaim := { program := "ytphcfjdhichfkaa", sum := "0d7bca1707ef86682a321197bf91e1ce81c7cc8cc8c918d7c63ece497a7935f1", func := "loop.example/g00907/laws.FnCompactionSteps", spec := "fnCompactionSteps", unfollowed := true, recurses := true, apart := false, narrowed := true }
def FnCompactionStepsUptoSaid : Prop := fnCompactionStepsUptoRow.holds Try.pinned (OpenSpec.upto fnCompactionStepsSpec)

/-- 'laws.FnLayers', WHERE WHAT IT READS IS OF BULK AT MOST 1048576: true; the input reads as it did. -/
def fnLayersUptoRow : OpenClaim := { program := "ytphcfjdhichfkaa", sum := "0d7bca1707ef86682a321197bf91e1ce81c7cc8cc8c918d7c63ece497a7935f1", func := "loop.example/g00907/laws.FnLayers", spec := "fnLayers", unfollowed := true, recurses := true, apart := false, narrowed := true }
def FnLayersUptoSaid : Prop := fnLayersUptoRow.holds Try.pinned (OpenSpec.upto fnLayersSpec)

/-- 'laws.FnObliviousSort', WHERE WHAT IT READS IS OF BULK AT MOST 1048576: true; the input reads as it did. -/
def fnObliviousSortUptoRow : OpenClaim := { program := "ytphcfjdhichfkaa", sum := "0d7bca1707ef86682a321197bf91e1ce81c7cc8cc8c918d7c63ece497a7935f1", func := "loop.example/g00907/laws.FnObliviousSort", spec := "fnObliviousSort", unfollowed := true, recurses := true, apart := false, narrowed := true }
def FnObliviousSortUptoSaid : Prop := fnObliviousSortUptoRow.holds Try.pinned (OpenSpec.upto fnObliviousSortSpec)

/-- 'laws.FnMergeCost', WHERE WHAT IT READS IS OF BULK AT MOST 1048576: true; the input reads as it did. -/
def fnMergeCostUptoRow : OpenClaim := { program := "ytphcfjdhichfkaa", sum := "0d7bca1707ef86682a321197bf91e1ce81c7cc8cc8c918d7c63ece497a7935f1", func := "loop.example/g00907/laws.FnMergeCost", spec := "fnMergeCost", unfollowed := true, recurses := true, apart := false, narrowed := true }
def FnMergeCostUptoSaid : Prop := fnMergeCostUptoRow.holds Try.pinned (OpenSpec.upto fnMergeCostSpec)

/-- 'laws.FnMergeOrder', WHERE WHAT IT READS IS OF BULK AT MOST 1048576: true; the input reads as it did. -/
def fnMergeOrderUptoRow : OpenClaim := { program := "ytphcfjdhichfkaa", sum := "0d7bca1707ef86682a321197bf91e1ce81c7cc8cc8c918d7c63ece497a7935f1", func := "loop.example/g00907/laws.FnMergeOrder", spec := "fnMergeOrder", unfollowed := true, recurses := true, apart := false, narrowed := true }
def FnMergeOrderUptoSaid : Prop := fnMergeOrderUptoRow.holds Try.pinned (OpenSpec.upto fnMergeOrderSpec)

end Rows
end Go.Proofs.Ytphcfjdhichfkaa
