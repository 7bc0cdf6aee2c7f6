/-
  No cell of these rows narrows 'for every input' (looked for: loops, veiled, ifaces, maps, wideKeys, modest, calm, conditions, laid).
  DERIVED. THE GIVEN ROWS OF THIS SEAT. 4 by the template 'for every input the law returns true; each argument reads behind the call as it read before'; 0 by the template 'total and deterministic' (their statements: YtinigocjeefjgaaTotals.lean).
  GIVEN WITH THE SEED: the statements are not yours to turn. If you find one false, say at which input.
  Laid BY PROGRAM, IN A SANDBOX (cutbox-rows.mjs): the forced cells as the released guide's own fill.sh prints them over the translation 1c331d1f51c0ae7e… (all of the seat's roots in one cut). By AI agents, Wed Nov 11 2026. No macro, syntax, notation, axiom, sorry.
-/
import Derived.Test.YtinigocjeefjgaaChecked
import GoSem.Claim
import GoSem.ClaimJoined
import GoSem.ClaimMapViews
import Derived.JoinedTies
import Derived.KernelRfl
namespace Go.Proofs.Ytinigocjeefjgaa
/- THE CELL 'sum', in the pinned program and in every row, IS THE sha256 OF THE DUMP (.gsa) THAT YtinigocjeefjgaaProg.lean LOADS. Nothing in Lean hashes anything: it is a label: what it is worth is what the hold of that sum in a sandbox is worth. -/
noncomputable def Try.pinned : Pinned := { name := "ytinigocjeefjgaa", sum := "1c331d1f51c0ae7e5dd9b5083c73861ffee6dc5bff2da48f646dcbab43fbc328", checked := Try.checked }
namespace Rows
def none {H : Type} : Left H := { results := [], args := [] }

/-- 'laws.FnExactStandardForm': WHATEVER THE INPUT: true; the input reads as it did. -/
def fnExactStandardFormSpec : ChangeSpec := { name := "fnExactStandardForm", fn := fun _ => fun
  | [d] => { results := [.lit (.bool true)], args := [d] }
  | _ => none }
def fnExactStandardFormRow : OpenClaim := { program := "ytinigocjeefjgaa", sum := "1c331d1f51c0ae7e5dd9b5083c73861ffee6dc5bff2da48f646dcbab43fbc328", func := "loop.example/g00907/laws.FnExactStandardForm", spec := "fnExactStandardForm", unfollowed := true, recurses := true, apart := false }
def FnExactStandardFormSaid : Prop := fnExactStandardFormRow.holds Try.pinned (OpenSpec.ofChange fnExactStandardFormSpec)

/-- ITS FALSE NEIGHBOUR: 'it returns false'. Refute it at one input. -/
def fnExactStandardFormWrong : ChangeSpec := { name := "fnExactStandardForm", fn := fun _ => fun
  | [d] => { results := [.lit (.bool false)], args := [d] }
  | _ => none }
def FnExactStandardFormWrongFalsely : Prop := fnExactStandardFormRow.holds Try.pinned (OpenSpec.ofChange fnExactStandardFormWrong)

/-- 'laws.FnExactBuildNetwork': WHATEVER THE INPUT: true; the input reads as it did. -/
def fnExactBuildNetworkSpec : ChangeSpec := { name := "fnExactBuildNetwork", fn := fun _ => fun
  | [d1, d2] => { results := [.lit (.bool true)], args := [d1, d2] }
  | _ => none }
def fnExactBuildNetworkRow : OpenClaim := { program := "ytinigocjeefjgaa", sum := "1c331d1f51c0ae7e5dd9b5083c73861ffee6dc5bff2da48f646dcbab43fbc328", func := "loop.example/g00907/laws.FnExactBuildNetwork", spec := "fnExactBuildNetwork", apart := false }
def FnExactBuildNetworkSaid : Prop := fnExactBuildNetworkRow.holds Try.pinned (OpenSpec.ofChange fnExactBuildNetworkSpec)

/-- ITS FALSE NEIGHBOUR: 'it returns false'. Refute it at one input. -/
def fnExactBuildNetworkWrong : ChangeSpec := { name := "fnExactBuildNetwork", fn := fun _ => fun
  | [d1, d2] => { results := [.lit (.bool false)], args := [d1, d2] }
  | _ => none }
def FnExactBuildNetworkWrongFalsely : Prop := fnExactBuildNetworkRow.holds Try.pinned (OpenSpec.ofChange fnExactBuildNetworkWrong)

/-- 'laws.FnExactRedundantComparators': WHATEVER THE INPUT: true; the input reads as it did. -/
def fnExactRedundantComparatorsSpec : ChangeSpec := { name := "fnExactRedundantComparators", fn := fun _ => fun
  | [d] => { results := [.lit (.bool true)], args := [d] }
  | _ => none }
def fnExactRedundantComparatorsRow : OpenClaim := { program := "ytinigocjeefjgaa", sum := "1c331d1f51c0ae7e5dd9b5083c73861ffee6dc5bff2da48f646dcbab43fbc328", func := "loop.example/g00907/laws.FnExactRedundantComparators", spec := "fnExactRedundantComparators", unfollowed := true, recurses := true, apart := false }
def FnExactRedundantComparatorsSaid : Prop := fnExactRedundantComparatorsRow.holds Try.pinned (OpenSpec.ofChange fnExactRedundantComparatorsSpec)

/-- ITS FALSE NEIGHBOUR: 'it returns false'. Refute it at one input. -/
def fnExactRedundantComparatorsWrong : ChangeSpec := { name := "fnExactRedundantComparators", fn := fun _ => fun
  | [d] => { results := [.lit (.bool false)], args := [d] }
  | _ => none }
def FnExactRedundantComparatorsWrongFalsely : Prop := fnExactRedundantComparatorsRow.holds Try.pinned (OpenSpec.ofChange fnExactRedundantComparatorsWrong)

/-- 'laws.FnExactPruneNetwork': WHATEVER THE INPUT: true; the input reads as it did. -/
def fnExactPruneNetworkSpec : ChangeSpec := { name := "fnExactPruneNetwork", fn := fun _ => fun
  | [d] => { results := [.lit (.bool true)], args := [d] }
  | _ => none }
def fnExactPruneNetworkRow : OpenClaim := { program := "ytinigocjeefjgaa", sum := "1c331d1f51c0ae7e5dd9b5083c73861ffee6dc5bff2da48f646dcbab43fbc328", func := "loop.example/g00907/laws.FnExactPruneNetwork", spec := "fnExactPruneNetwork", unfollowed := true, recurses := true, apart := false }
def FnExactPruneNetworkSaid : Prop := fnExactPruneNetworkRow.holds Try.pinned (OpenSpec.ofChange fnExactPruneNetworkSpec)

/-- ITS FALSE NEIGHBOUR: 'it returns false'. Refute it at one input. -/
def fnExactPruneNetworkWrong : ChangeSpec := { name := "fnExactPruneNetwork", fn := fun _ => fun
  | [d] => { results := [.lit (.bool false)], args := [d] }
  | _ => none }
def FnExactPruneNetworkWrongFalsely : Prop := fnExactPruneNetworkRow.holds Try.pinned (OpenSpec.ofChange fnExactPruneNetworkWrong)

/- THE SECOND FORM. 'bulk': how many values and letters a reading holds, each counted each time it is reached (what is shared counts as often as it is met; a slice's spare places count too). A statement '..UptoSaid' is the law's where the arguments, and the package variables that the reading takes, are together of bulk at most 1048576: NARROWER than '..Said'. Prove '..Said' where nothing that the law and all that it calls make is longer than what came in: it says more and counts as full. Else prove '..UptoSaid'. A law counts once. -/
mutual
def uptoBulk {H : Type} : DataW H → Nat
  | .lit (.string bytes) => bytes.length + 1
  | .lit _ => 1
  | .nil => 1
  | .ptr d => uptoBulk d + 1
  | .slice elems spare => uptoBulkAll elems + uptoBulkAll spare + 1
  | .agg parts => uptoBulkAll parts + 1
  | .iface _ d => uptoBulk d + 1
  | .map entries => uptoBulkEntries entries + 1
  | .held _ => 1
def uptoBulkAll {H : Type} : List (DataW H) → Nat
  | [] => 0
  | d :: r => uptoBulk d + uptoBulkAll r
def uptoBulkEntries {H : Type} : List (Lit × DataW H) → Nat
  | [] => 0
  | x :: r => uptoBulkEntry x + uptoBulkEntries r
def uptoBulkEntry {H : Type} : Lit × DataW H → Nat
  | (.string bytes, d) => bytes.length + uptoBulk d + 1
  | (_, d) => uptoBulk d + 1
 end
def uptoSmall : (H : Type) → List (DataW H) → Bool := fun _ ds => decide (uptoBulkAll ds ≤ 1048576)
def OpenSpec.upto (s : _root_.Go.ChangeSpec) : _root_.Go.OpenSpec := { _root_.Go.OpenSpec.ofChange s with cond := some uptoSmall }

/-- 'laws.FnExactStandardForm', WHERE WHAT IT READS IS OF BULK AT MOST 1048576: true; the input reads as it did. -/
def fnExactStandardFormUptoRow : OpenClaim := { program := "ytinigocjeefjgaa", sum := "1c331d1f51c0ae7e5dd9b5083c73861ffee6dc5bff2da48f646dcbab43fbc328", func := "loop.example/g00907/laws.FnExactStandardForm", spec := "fnExactStandardForm", unfollowed := true, recurses := true, apart := false, narrowed := true }
def FnExactStandardFormUptoSaid : Prop := fnExactStandardFormUptoRow.holds Try.pinned (OpenSpec.upto fnExactStandardFormSpec)

/-- 'laws.FnExactBuildNetwork', WHERE WHAT IT READS IS OF BULK AT MOST 1048576: true; the input reads as it did. -/
def fnExactBuildNetworkUptoRow : OpenClaim := { program := "ytinigocjeefjgaa", sum := "1c331d1f51c0ae7e5dd9b5083c73861ffee6dc5bff2da48f646dcbab43fbc328", func := "loop.example/g00907/laws.FnExactBuildNetwork", spec := "fnExactBuildNetwork", apart := false, narrowed := true }
def FnExactBuildNetworkUptoSaid : Prop := fnExactBuildNetworkUptoRow.holds Try.pinned (OpenSpec.upto fnExactBuildNetworkSpec)

/-- 'laws.FnExactRedundantComparators', WHERE WHAT IT READS IS OF BULK AT MOST 1048576: true; the input reads as it did. -/
def fnExactRedundantComparatorsUptoRow : OpenClaim := { program := "ytinigocjeefjgaa", sum := "1c331d1f51c0ae7e5dd9b5083c73861ffee6dc5bff2da48f646dcbab43fbc328", func := "loop.example/g00907/laws.FnExactRedundantComparators", spec := "fnExactRedundantComparators", unfollowed := true, recurses := true, apart := false, narrowed := true }
def FnExactRedundantComparatorsUptoSaid : Prop := fnExactRedundantComparatorsUptoRow.holds Try.pinned (OpenSpec.upto fnExactRedundantComparatorsSpec)

/-- 'laws.FnExactPruneNetwork', WHERE WHAT IT READS IS OF BULK AT MOST 1048576: true; the input reads as it did. -/
def fnExactPruneNetworkUptoRow : OpenClaim := { program := "ytinigocjeefjgaa", sum := "1c331d1f51c0ae7e5dd9b5083c73861ffee6dc5bff2da48f646dcbab43fbc328", func := "loop.example/g00907/laws.FnExactPruneNetwork", spec := "fnExactPruneNetwork", unfollowed := true, recurses := true, apart := false, narrowed := true }
def FnExactPruneNetworkUptoSaid : Prop := fnExactPruneNetworkUptoRow.holds Try.pinned (OpenSpec.upto fnExactPruneNetworkSpec)

end Rows
end Go.Proofs.Ytinigocjeefjgaa
