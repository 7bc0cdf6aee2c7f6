/-
  No cell of these rows narrows 'for every input' (looked for: loops, veiled, ifaces, maps, wideKeys, modest, calm, conditions, laid).
  DERIVED. THE GIVEN ROWS OF THIS SEAT. 6 by the template 'for every input the law returns true; each argument reads behind the call as it read before'; 0 by the template 'total and deterministic' (their statements: YtgjkhlecehjojaaTotals.lean).
  GIVEN WITH THE SEED: the statements are not yours to turn. If you find one false, say at which input.
  Laid BY PROGRAM, IN A SANDBOX (cutbox-rows.mjs): the forced cells as the released guide's own fill.sh prints them over the translation a439e04cbf5ad983… (all of the seat's roots in one cut). By AI agents, Wed Nov 11 2026. No macro, syntax, notation, axiom, sorry.
-/
import Derived.Test.YtgjkhlecehjojaaChecked
import GoSem.Claim
import GoSem.ClaimJoined
import GoSem.ClaimMapViews
import Derived.JoinedTies
import Derived.KernelRfl
namespace Go.Proofs.Ytgjkhlecehjojaa
/- THE CELL 'sum', in the pinned program and in every row, IS THE sha256 OF THE DUMP (.gsa) THAT YtgjkhlecehjojaaProg.lean LOADS. Nothing in Lean hashes anything: it is a label: what it is worth is what the hold of that sum in a sandbox is worth. -/
noncomputable def Try.pinned : Pinned := { name := "ytgjkhlecehjojaa", sum := "a439e04cbf5ad983cc70f6d2919cc4cb91c5880d480bb0544ff038a3cc60488d", checked := Try.checked }
namespace Rows
def none {H : Type} : Left H := { results := [], args := [] }

/-- 'laws.FnExactCompareKinds': WHATEVER THE INPUT: true; the input reads as it did. -/
def fnExactCompareKindsSpec : ChangeSpec := { name := "fnExactCompareKinds", fn := fun _ => fun
  | [d] => { results := [.lit (.bool true)], args := [d] }
  | _ => none }
def fnExactCompareKindsRow : OpenClaim := { program := "ytgjkhlecehjojaa", sum := "a439e04cbf5ad983cc70f6d2919cc4cb91c5880d480bb0544ff038a3cc60488d", func := "loop.example/g00907/laws.FnExactCompareKinds", spec := "fnExactCompareKinds", apart := false }
def FnExactCompareKindsSaid : Prop := fnExactCompareKindsRow.holds Try.pinned (OpenSpec.ofChange fnExactCompareKindsSpec)

/-- ITS FALSE NEIGHBOUR: 'it returns false'. Refute it at one input. -/
def fnExactCompareKindsWrong : ChangeSpec := { name := "fnExactCompareKinds", fn := fun _ => fun
  | [d] => { results := [.lit (.bool false)], args := [d] }
  | _ => none }
def FnExactCompareKindsWrongFalsely : Prop := fnExactCompareKindsRow.holds Try.pinned (OpenSpec.ofChange fnExactCompareKindsWrong)

/-- 'laws.FnExactObliviousSort': WHATEVER THE INPUT: true; the input reads as it did. -/
def fnExactObliviousSortSpec : ChangeSpec := { name := "fnExactObliviousSort", fn := fun _ => fun
  | [d] => { results := [.lit (.bool true)], args := [d] }
  | _ => none }
def fnExactObliviousSortRow : OpenClaim := { program := "ytgjkhlecehjojaa", sum := "a439e04cbf5ad983cc70f6d2919cc4cb91c5880d480bb0544ff038a3cc60488d", func := "loop.example/g00907/laws.FnExactObliviousSort", spec := "fnExactObliviousSort", unfollowed := true, recurses := true, apart := false }
def FnExactObliviousSortSaid : Prop := fnExactObliviousSortRow.holds Try.pinned (OpenSpec.ofChange fnExactObliviousSortSpec)

/-- ITS FALSE NEIGHBOUR: 'it returns false'. Refute it at one input. -/
def fnExactObliviousSortWrong : ChangeSpec := { name := "fnExactObliviousSort", fn := fun _ => fun
  | [d] => { results := [.lit (.bool false)], args := [d] }
  | _ => none }
def FnExactObliviousSortWrongFalsely : Prop := fnExactObliviousSortRow.holds Try.pinned (OpenSpec.ofChange fnExactObliviousSortWrong)

/-- 'laws.FnExactOptimalMergeCost': WHATEVER THE INPUT: true; the input reads as it did. -/
def fnExactOptimalMergeCostSpec : ChangeSpec := { name := "fnExactOptimalMergeCost", fn := fun _ => fun
  | [d] => { results := [.lit (.bool true)], args := [d] }
  | _ => none }
def fnExactOptimalMergeCostRow : OpenClaim := { program := "ytgjkhlecehjojaa", sum := "a439e04cbf5ad983cc70f6d2919cc4cb91c5880d480bb0544ff038a3cc60488d", func := "loop.example/g00907/laws.FnExactOptimalMergeCost", spec := "fnExactOptimalMergeCost", unfollowed := true, recurses := true, apart := false }
def FnExactOptimalMergeCostSaid : Prop := fnExactOptimalMergeCostRow.holds Try.pinned (OpenSpec.ofChange fnExactOptimalMergeCostSpec)

/-- ITS FALSE NEIGHBOUR: 'it returns false'. Refute it at one input. -/
def fnExactOptimalMergeCostWrong : ChangeSpec := { name := "fnExactOptimalMergeCost", fn := fun _ => fun
  | [d] => { results := [.lit (.bool false)], args := [d] }
  | _ => none }
def FnExactOptimalMergeCostWrongFalsely : Prop := fnExactOptimalMergeCostRow.holds Try.pinned (OpenSpec.ofChange fnExactOptimalMergeCostWrong)

/-- 'laws.FnExactMergeOrder': WHATEVER THE INPUT: true; the input reads as it did. -/
def fnExactMergeOrderSpec : ChangeSpec := { name := "fnExactMergeOrder", fn := fun _ => fun
  | [d1, d2] => { results := [.lit (.bool true)], args := [d1, d2] }
  | _ => none }
def fnExactMergeOrderRow : OpenClaim := { program := "ytgjkhlecehjojaa", sum := "a439e04cbf5ad983cc70f6d2919cc4cb91c5880d480bb0544ff038a3cc60488d", func := "loop.example/g00907/laws.FnExactMergeOrder", spec := "fnExactMergeOrder", unfollowed := true, recurses := true, apart := false }
def FnExactMergeOrderSaid : Prop := fnExactMergeOrderRow.holds Try.pinned (OpenSpec.ofChange fnExactMergeOrderSpec)

/-- ITS FALSE NEIGHBOUR: 'it returns false'. Refute it at one input. -/
def fnExactMergeOrderWrong : ChangeSpec := { name := "fnExactMergeOrder", fn := fun _ => fun
  | [d1, d2] => { results := [.lit (.bool false)], args := [d1, d2] }
  | _ => none }
def FnExactMergeOrderWrongFalsely : Prop := fnExactMergeOrderRow.holds Try.pinned (OpenSpec.ofChange fnExactMergeOrderWrong)

/-- 'laws.FnExactBenesApply': WHATEVER THE INPUT: true; the input reads as it did. -/
def fnExactBenesApplySpec : ChangeSpec := { name := "fnExactBenesApply", fn := fun _ => fun
  | [d1, d2] => { results := [.lit (.bool true)], args := [d1, d2] }
  | _ => none }
def fnExactBenesApplyRow : OpenClaim := { program := "ytgjkhlecehjojaa", sum := "a439e04cbf5ad983cc70f6d2919cc4cb91c5880d480bb0544ff038a3cc60488d", func := "loop.example/g00907/laws.FnExactBenesApply", spec := "fnExactBenesApply", unfollowed := true, recurses := true, apart := false }
def FnExactBenesApplySaid : Prop := fnExactBenesApplyRow.holds Try.pinned (OpenSpec.ofChange fnExactBenesApplySpec)

/-- ITS FALSE NEIGHBOUR: 'it returns false'. Refute it at one input. -/
def fnExactBenesApplyWrong : ChangeSpec := { name := "fnExactBenesApply", fn := fun _ => fun
  | [d1, d2] => { results := [.lit (.bool false)], args := [d1, d2] }
  | _ => none }
def FnExactBenesApplyWrongFalsely : Prop := fnExactBenesApplyRow.holds Try.pinned (OpenSpec.ofChange fnExactBenesApplyWrong)

/-- 'laws.FnExactBuildTree': WHATEVER THE INPUT: true; the input reads as it did. -/
def fnExactBuildTreeSpec : ChangeSpec := { name := "fnExactBuildTree", fn := fun _ => fun
  | [d] => { results := [.lit (.bool true)], args := [d] }
  | _ => none }
def fnExactBuildTreeRow : OpenClaim := { program := "ytgjkhlecehjojaa", sum := "a439e04cbf5ad983cc70f6d2919cc4cb91c5880d480bb0544ff038a3cc60488d", func := "loop.example/g00907/laws.FnExactBuildTree", spec := "fnExactBuildTree", unfollowed := true, recurses := true, apart := false }
def FnExactBuildTreeSaid : Prop := fnExactBuildTreeRow.holds Try.pinned (OpenSpec.ofChange fnExactBuildTreeSpec)

/-- ITS FALSE NEIGHBOUR: 'it returns false'. Refute it at one input. -/
def fnExactBuildTreeWrong : ChangeSpec := { name := "fnExactBuildTree", fn := fun _ => fun
  | [d] => { results := [.lit (.bool false)], args := [d] }
  | _ => none }
def FnExactBuildTreeWrongFalsely : Prop := fnExactBuildTreeRow.holds Try.pinned (OpenSpec.ofChange fnExactBuildTreeWrong)

/- THE SECOND FORM. 'bulk': how many values and letters a reading holds, each counted each time it is reached (what is shared counts as often as it is met; a slice's spare places count too). A statement '..UptoSaid' is the law's where the arguments, and the package variables that the reading takes, are together of bulk at most 1048576: NARROWER than '..Said'. Prove '..Said' where nothing that the law and all that it calls make is longer than what came in: it says more and counts as full. Else prove '..UptoSaid'. A law counts once. -/
mutual
def uptoBulk {H : Type} : DataW H → Nat
  | .lit (.string bytes) => bytes.length + 1
  | .lit _ => 1
  | .nil => 1
  | .ptr d => uptoBulk d + 1
  | .slice elems spare => uptoBulkAll elems + uptoBulkAll spare + 1
  | .agg parts => uptoBulkAll parts + 1
  | .iface _ d => uptoBulk d + 1
  | .map entries => uptoBulkEntries entries + 1
  | .held _ => 1
def uptoBulkAll {H : Type} : List (DataW H) → Nat
  | [] => 0
  | d :: r => uptoBulk d + uptoBulkAll r
def uptoBulkEntries {H : Type} : List (Lit × DataW H) → Nat
  | [] => 0
  | x :: r => uptoBulkEntry x + uptoBulkEntries r
def uptoBulkEntry {H : Type} : Lit × DataW H → Nat
  | (.string bytes, d) => bytes.length + uptoBulk d + 1
  | (_, d) => uptoBulk d + 1
 end
def uptoSmall : (H : Type) → List (DataW H) → Bool := fun _ ds => decide (uptoBulkAll ds ≤ 1048576)
def OpenSpec.upto (s : _root_.Go.ChangeSpec) : _root_.Go.OpenSpec := { _root_.Go.OpenSpec.ofChange s with cond := some uptoSmall }

/-- 'laws.FnExactCompareKinds', WHERE WHAT IT READS IS OF BULK AT MOST 1048576: true; the input reads as it did. -/
def fnExactCompareKindsUptoRow : OpenClaim := { program := "ytgjkhlecehjojaa", sum := "a439e04cbf5ad983cc70f6d2919cc4cb91c5880d480bb0544ff038a3cc60488d", func := "loop.example/g00907/laws.FnExactCompareKinds", spec := "fnExactCompareKinds", apart := false, narrowed := true }
def FnExactCompareKindsUptoSaid : Prop := fnExactCompareKindsUptoRow.holds Try.pinned (OpenSpec.upto fnExactCompareKindsSpec)

/-- 'laws.FnExactObliviousSort', WHERE WHAT IT READS IS OF BULK AT MOST 1048576: true; the input reads as it did. -/
def fnExactObliviousSortUptoRow : OpenClaim := { program := "ytgjkhlecehjojaa", sum := "a439e04cbf5ad983cc70f6d2919cc4cb91c5880d480bb0544ff038a3cc60488d", func := "loop.example/g00907/laws.FnExactObliviousSort", spec := "fnExactObliviousSort", unfollowed := true, recurses := true, apart := false, narrowed := true }
def FnExactObliviousSortUptoSaid : Prop := fnExactObliviousSortUptoRow.holds Try.pinned (OpenSpec.upto fnExactObliviousSortSpec)

/-- 'laws.FnExactOptimalMergeCost', WHERE WHAT IT READS IS OF BULK AT MOST 1048576: true; the input reads as it did. -/
def fnExactOptimalMergeCostUptoRow : OpenClaim := { program := "ytgjkhlecehjojaa", sum := "a439e04cbf5ad983cc70f6d2919cc4cb91c5880d480bb0544ff038a3cc60488d", func := "loop.example/g00907/laws.FnExactOptimalMergeCost", spec := "fnExactOptimalMergeCost", unfollowed := true, recurses := true, apart := false, narrowed := true }
def FnExactOptimalMergeCostUptoSaid : Prop := fnExactOptimalMergeCostUptoRow.holds Try.pinned (OpenSpec.upto fnExactOptimalMergeCostSpec)

/-- 'laws.FnExactMergeOrder', WHERE WHAT IT READS IS OF BULK AT MOST 1048576: true; the input reads as it did. -/
def fnExactMergeOrderUptoRow : OpenClaim := { program := "ytgjkhlecehjojaa", sum := "a439e04cbf5ad983cc70f6d2919cc4cb91c5880d480bb0544ff038a3cc60488d", func := "loop.example/g00907/laws.FnExactMergeOrder", spec := "fnExactMergeOrder", unfollowed := true, recurses := true, apart := false, narrowed := true }
def FnExactMergeOrderUptoSaid : Prop := fnExactMergeOrderUptoRow.holds Try.pinned (OpenSpec.upto fnExactMergeOrderSpec)

/-- 'laws.FnExactBenesApply', WHERE WHAT IT READS IS OF BULK AT MOST 1048576: true; the input reads as it did. -/
def fnExactBenesApplyUptoRow : OpenClaim := { program := "ytgjkhlecehjojaa", sum := "a439e04cbf5ad983cc70f6d2919cc4cb91c5880d480bb0544ff038a3cc60488d", func := "loop.example/g00907/laws.FnExactBenesApply", spec := "fnExactBenesApply", unfollowed := true, recurses := true, apart := false, narrowed := true }
def FnExactBenesApplyUptoSaid : Prop := fnExactBenesApplyUptoRow.holds Try.pinned (OpenSpec.upto fnExactBenesApplySpec)

/-- 'laws.FnExactBuildTree', WHERE WHAT IT READS IS OF BULK AT MOST 1048576: true; the input reads as it did. -/
def fnExactBuildTreeUptoRow : OpenClaim := { program := "ytgjkhlecehjojaa", sum := "a439e04cbf5ad983cc70f6d2919cc4cb91c5880d480bb0544ff038a3cc60488d", func := "loop.example/g00907/laws.FnExactBuildTree", spec := "fnExactBuildTree", unfollowed := true, recurses := true, apart := false, narrowed := true }
def FnExactBuildTreeUptoSaid : Prop := fnExactBuildTreeUptoRow.holds Try.pinned (OpenSpec.upto fnExactBuildTreeSpec)

end Rows
end Go.Proofs.Ytgjkhlecehjojaa
