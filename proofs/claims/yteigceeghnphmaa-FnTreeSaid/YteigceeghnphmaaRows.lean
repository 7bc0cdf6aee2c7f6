/-
  No cell of these rows narrows 'for every input' (looked for: loops, veiled, ifaces, maps, wideKeys, modest, calm, conditions, laid).
  DERIVED. THE GIVEN ROWS OF THIS SEAT. 6 by the template 'for every input the law returns true; each argument reads behind the call as it read before'; 0 by the template 'total and deterministic' (their statements: YteigceeghnphmaaTotals.lean).
  GIVEN WITH THE SEED: the statements are not yours to turn. If you find one false, say at which input.
  Laid BY PROGRAM, IN A SANDBOX (cutbox-rows.mjs): the forced cells as the released guide's own fill.sh prints them over the translation 6d978a412e73697e… (all of the seat's roots in one cut). By AI agents, Wed Nov 11 2026. No macro, syntax, notation, axiom, sorry.
-/
import Derived.Test.YteigceeghnphmaaChecked
import GoSem.Claim
import GoSem.ClaimJoined
import GoSem.ClaimMapViews
import Derived.JoinedTies
import Derived.KernelRfl
namespace Go.Proofs.Yteigceeghnphmaa
/- THE CELL 'sum', in the pinned program and in every row, IS THE sha256 OF THE DUMP (.gsa) THAT YteigceeghnphmaaProg.lean LOADS. Nothing in Lean hashes anything: it is a label: what it is worth is what the hold of that sum in a sandbox is worth. -/
noncomputable def Try.pinned : Pinned := { name := "yteigceeghnphmaa", sum := "6d978a412e73697e2aec663611d37e24e5c419853a44f0367bf8b352e08efc4a", checked := Try.checked }
namespace Rows
def none {H : Type} : Left H := { results := [], args := [] }

/-- 'laws.FnStandard': WHATEVER THE INPUT: true; the input reads as it did. -/
def fnStandardSpec : ChangeSpec := { name := "fnStandard", fn := fun _ => fun
  | [d] => { results := [.lit (.bool true)], args := [d] }
  | _ => none }
def fnStandardRow : OpenClaim := { program := "yteigceeghnphmaa", sum := "6d978a412e73697e2aec663611d37e24e5c419853a44f0367bf8b352e08efc4a", func := "loop.example/g00907/laws.FnStandard", spec := "fnStandard", unfollowed := true, recurses := true, apart := false }
def FnStandardSaid : Prop := fnStandardRow.holds Try.pinned (OpenSpec.ofChange fnStandardSpec)

/-- ITS FALSE NEIGHBOUR: 'it returns false'. Refute it at one input. -/
def fnStandardWrong : ChangeSpec := { name := "fnStandard", fn := fun _ => fun
  | [d] => { results := [.lit (.bool false)], args := [d] }
  | _ => none }
def FnStandardWrongFalsely : Prop := fnStandardRow.holds Try.pinned (OpenSpec.ofChange fnStandardWrong)

/-- 'laws.FnMergeNetwork': WHATEVER THE INPUT: true; the input reads as it did. -/
def fnMergeNetworkSpec : ChangeSpec := { name := "fnMergeNetwork", fn := fun _ => fun
  | [d] => { results := [.lit (.bool true)], args := [d] }
  | _ => none }
def fnMergeNetworkRow : OpenClaim := { program := "yteigceeghnphmaa", sum := "6d978a412e73697e2aec663611d37e24e5c419853a44f0367bf8b352e08efc4a", func := "loop.example/g00907/laws.FnMergeNetwork", spec := "fnMergeNetwork", unfollowed := true, recurses := true, apart := false }
def FnMergeNetworkSaid : Prop := fnMergeNetworkRow.holds Try.pinned (OpenSpec.ofChange fnMergeNetworkSpec)

/-- ITS FALSE NEIGHBOUR: 'it returns false'. Refute it at one input. -/
def fnMergeNetworkWrong : ChangeSpec := { name := "fnMergeNetwork", fn := fun _ => fun
  | [d] => { results := [.lit (.bool false)], args := [d] }
  | _ => none }
def FnMergeNetworkWrongFalsely : Prop := fnMergeNetworkRow.holds Try.pinned (OpenSpec.ofChange fnMergeNetworkWrong)

/-- 'laws.FnPrune': WHATEVER THE INPUT: true; the input reads as it did. -/
def fnPruneSpec : ChangeSpec := { name := "fnPrune", fn := fun _ => fun
  | [d] => { results := [.lit (.bool true)], args := [d] }
  | _ => none }
def fnPruneRow : OpenClaim := { program := "yteigceeghnphmaa", sum := "6d978a412e73697e2aec663611d37e24e5c419853a44f0367bf8b352e08efc4a", func := "loop.example/g00907/laws.FnPrune", spec := "fnPrune", unfollowed := true, recurses := true, apart := false }
def FnPruneSaid : Prop := fnPruneRow.holds Try.pinned (OpenSpec.ofChange fnPruneSpec)

/-- ITS FALSE NEIGHBOUR: 'it returns false'. Refute it at one input. -/
def fnPruneWrong : ChangeSpec := { name := "fnPrune", fn := fun _ => fun
  | [d] => { results := [.lit (.bool false)], args := [d] }
  | _ => none }
def FnPruneWrongFalsely : Prop := fnPruneRow.holds Try.pinned (OpenSpec.ofChange fnPruneWrong)

/-- 'laws.FnNetwork': WHATEVER THE INPUT: true; the input reads as it did. -/
def fnNetworkSpec : ChangeSpec := { name := "fnNetwork", fn := fun _ => fun
  | [d] => { results := [.lit (.bool true)], args := [d] }
  | _ => none }
def fnNetworkRow : OpenClaim := { program := "yteigceeghnphmaa", sum := "6d978a412e73697e2aec663611d37e24e5c419853a44f0367bf8b352e08efc4a", func := "loop.example/g00907/laws.FnNetwork", spec := "fnNetwork", unfollowed := true, recurses := true, apart := false }
def FnNetworkSaid : Prop := fnNetworkRow.holds Try.pinned (OpenSpec.ofChange fnNetworkSpec)

/-- ITS FALSE NEIGHBOUR: 'it returns false'. Refute it at one input. -/
def fnNetworkWrong : ChangeSpec := { name := "fnNetwork", fn := fun _ => fun
  | [d] => { results := [.lit (.bool false)], args := [d] }
  | _ => none }
def FnNetworkWrongFalsely : Prop := fnNetworkRow.holds Try.pinned (OpenSpec.ofChange fnNetworkWrong)

/-- 'laws.FnBuild': WHATEVER THE INPUT: true; the input reads as it did. -/
def fnBuildSpec : ChangeSpec := { name := "fnBuild", fn := fun _ => fun
  | [d] => { results := [.lit (.bool true)], args := [d] }
  | _ => none }
def fnBuildRow : OpenClaim := { program := "yteigceeghnphmaa", sum := "6d978a412e73697e2aec663611d37e24e5c419853a44f0367bf8b352e08efc4a", func := "loop.example/g00907/laws.FnBuild", spec := "fnBuild", unfollowed := true, recurses := true, apart := false }
def FnBuildSaid : Prop := fnBuildRow.holds Try.pinned (OpenSpec.ofChange fnBuildSpec)

/-- ITS FALSE NEIGHBOUR: 'it returns false'. Refute it at one input. -/
def fnBuildWrong : ChangeSpec := { name := "fnBuild", fn := fun _ => fun
  | [d] => { results := [.lit (.bool false)], args := [d] }
  | _ => none }
def FnBuildWrongFalsely : Prop := fnBuildRow.holds Try.pinned (OpenSpec.ofChange fnBuildWrong)

/-- 'laws.FnTree': WHATEVER THE INPUT: true; the input reads as it did. -/
def fnTreeSpec : ChangeSpec := { name := "fnTree", fn := fun _ => fun
  | [d] => { results := [.lit (.bool true)], args := [d] }
  | _ => none }
def fnTreeRow : OpenClaim := { program := "yteigceeghnphmaa", sum := "6d978a412e73697e2aec663611d37e24e5c419853a44f0367bf8b352e08efc4a", func := "loop.example/g00907/laws.FnTree", spec := "fnTree", unfollowed := true, recurses := true, apart := false }
def FnTreeSaid : Prop := fnTreeRow.holds Try.pinned (OpenSpec.ofChange fnTreeSpec)

/-- ITS FALSE NEIGHBOUR: 'it returns false'. Refute it at one input. -/
def fnTreeWrong : ChangeSpec := { name := "fnTree", fn := fun _ => fun
  | [d] => { results := [.lit (.bool false)], args := [d] }
  | _ => none }
def FnTreeWrongFalsely : Prop := fnTreeRow.holds Try.pinned (OpenSpec.ofChange fnTreeWrong)

/- THE SECOND FORM. 'bulk': how many values and letters a reading holds, each counted each time it is reached (what is shared counts as often as it is met; a slice's spare places count too). A statement '..UptoSaid' is the law's where the arguments, and the package variables that the reading takes, are together of bulk at most 1048576: NARROWER than '..Said'. Prove '..Said' where nothing that the law and all that it calls make is longer than what came in: it says more and counts as full. Else prove '..UptoSaid'. A law counts once. -/
mutual
def uptoBulk {H : Type} : DataW H → Nat
  | .lit (.string bytes) => bytes.length + 1
  | .lit _ => 1
  | .nil => 1
  | .ptr d => uptoBulk d + 1
  | .slice elems spare => uptoBulkAll elems + uptoBulkAll spare + 1
  | .agg parts => uptoBulkAll parts + 1
  | .iface _ d => uptoBulk d + 1
  | .map entries => uptoBulkEntries entries + 1
  | .held _ => 1
def uptoBulkAll {H : Type} : List (DataW H) → Nat
  | [] => 0
  | d :: r => uptoBulk d + uptoBulkAll r
def uptoBulkEntries {H : Type} : List (Lit × DataW H) → Nat
  | [] => 0
  | x :: r => uptoBulkEntry x + uptoBulkEntries r
def uptoBulkEntry {H : Type} : Lit × DataW H → Nat
  | (.string bytes, d) => bytes.length + uptoBulk d + 1
  | (_, d) => uptoBulk d + 1
 end
def uptoSmall : (H : Type) → List (DataW H) → Bool := fun _ ds => decide (uptoBulkAll ds ≤ 1048576)
def OpenSpec.upto (s : _root_.Go.ChangeSpec) : _root_.Go.OpenSpec := { _root_.Go.OpenSpec.ofChange s with cond := some uptoSmall }

/-- 'laws.FnStandard', WHERE WHAT IT READS IS OF BULK AT MOST 1048576: true; the input reads as it did. -/
def fnStandardUptoRow : OpenClaim := { program := "yteigceeghnphmaa", sum := "6d978a412e73697e2aec663611d37e24e5c419853a44f0367bf8b352e08efc4a", func := "loop.example/g00907/laws.FnStandard", spec := "fnStandard", unfollowed := true, recurses := true, apart := false, narrowed := true }
def FnStandardUptoSaid : Prop := fnStandardUptoRow.holds Try.pinned (OpenSpec.upto fnStandardSpec)

/-- 'laws.FnMergeNetwork', WHERE WHAT IT READS IS OF BULK AT MOST 1048576: true; the input reads as it did. -/
def fnMergeNetworkUptoRow : OpenClaim := { program := "yteigceeghnphmaa", sum := "6d978a412e73697e2aec663611d37e24e5c419853a44f0367bf8b352e08efc4a", func := "loop.example/g00907/laws.FnMergeNetwork", spec := "fnMergeNetwork", unfollowed := true, recurses := true, apart := false, narrowed := true }
def FnMergeNetworkUptoSaid : Prop := fnMergeNetworkUptoRow.holds Try.pinned (OpenSpec.upto fnMergeNetworkSpec)

/-- 'laws.FnPrune', WHERE WHAT IT READS IS OF BULK AT MOST 1048576: true; the input reads as it did. -/
def fnPruneUptoRow : OpenClaim := { program := "yteigceeghnphmaa", sum := "6d978a412e73697e2aec663611d37e24e5c419853a44f0367bf8b352e08efc4a", func := "loop.example/g00907/laws.FnPrune", spec := "fnPrune", unfollowed := true, recurses := true, apart := false, narrowed := true }
def FnPruneUptoSaid : Prop := fnPruneUptoRow.holds Try.pinned (OpenSpec.upto fnPruneSpec)

/-- 'laws.FnNetwork', WHERE WHAT IT READS IS OF BULK AT MOST 1048576: true; the input reads as it did. -/
def fnNetworkUptoRow : OpenClaim := { program := "yteigceeghnphmaa", sum := "6d978a412e73697e2aec663611d37e24e5c419853a44f0367bf8b352e08efc4a", func := "loop.example/g00907/laws.FnNetwork", spec := "fnNetwork", unfollowed := true, recurses := true, apart := false, narrowed := true }
def FnNetworkUptoSaid : Prop := fnNetworkUptoRow.holds Try.pinned (OpenSpec.upto fnNetworkSpec)

/-- 'laws.FnBuild', WHERE WHAT IT READS IS OF BULK AT MOST 1048576: true; the input reads as it did. -/
def fnBuildUptoRow : OpenClaim := { program := "yteigceeghnphmaa", sum := "6d978a412e73697e2aec663611d37e24e5c419853a44f0367bf8b352e08efc4a", func := "loop.example/g00907/laws.FnBuild", spec := "fnBuild", unfollowed := true, recurses := true, apart := false, narrowed := true }
def FnBuildUptoSaid : Prop := fnBuildUptoRow.holds Try.pinned (OpenSpec.upto fnBuildSpec)

/-- 'laws.FnTree', WHERE WHAT IT READS IS OF BULK AT MOST 1048576: true; the input reads as it did. -/
def fnTreeUptoRow : OpenClaim := { program := "yteigceeghnphmaa", sum := "6d978a412e73697e2aec663611d37e24e5c419853a44f0367bf8b352e08efc4a", func := "loop.example/g00907/laws.FnTree", spec := "fnTree", unfollowed := true, recurses := true, apart := false, narrowed := true }
def FnTreeUptoSaid : Prop := fnTreeUptoRow.holds Try.pinned (OpenSpec.upto fnTreeSpec)

end Rows
end Go.Proofs.Yteigceeghnphmaa
