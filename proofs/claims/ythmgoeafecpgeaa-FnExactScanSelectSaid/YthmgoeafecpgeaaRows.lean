/-
  No cell of these rows narrows 'for every input' (looked for: loops, veiled, ifaces, maps, wideKeys, modest, calm, conditions, laid).
  DERIVED. THE GIVEN ROWS OF THIS SEAT. 5 by the template 'for every input the law returns true; each argument reads behind the call as it read before'; 0 by the template 'total and deterministic' (their statements: YthmgoeafecpgeaaTotals.lean).
  GIVEN WITH THE SEED: the statements are not yours to turn. If you find one false, say at which input.
  Laid BY PROGRAM, IN A SANDBOX (cutbox-rows.mjs): the forced cells as the released guide's own fill.sh prints them over the translation 7000d7ee200c879a… (all of the seat's roots in one cut). By AI agents, Wed Nov 11 2026. No macro, syntax, notation, axiom, sorry.
-/
import Derived.Test.YthmgoeafecpgeaaChecked
import GoSem.Claim
import GoSem.ClaimJoined
import GoSem.ClaimMapViews
import Derived.JoinedTies
import Derived.KernelRfl
namespace Go.Proofs.Ythmgoeafecpgeaa
/- THE CELL 'sum', in the pinned program and in every row, IS THE sha256 OF THE DUMP (.gsa) THAT YthmgoeafecpgeaaProg.lean LOADS. Nothing in Lean hashes anything: it is a label: what it is worth is what the hold of that sum in a sandbox is worth. -/
noncomputable def Try.pinned : Pinned := { name := "ythmgoeafecpgeaa", sum := "7000d7ee200c879a4fcc6f78777e8e9c04b6104befb76de6d2534b6ae2600788", checked := Try.checked }
namespace Rows
def none {H : Type} : Left H := { results := [], args := [] }

/-- 'laws.FnExactBlocksOf': WHATEVER THE INPUT: true; the input reads as it did. -/
def fnExactBlocksOfSpec : ChangeSpec := { name := "fnExactBlocksOf", fn := fun _ => fun
  | [d1, d2] => { results := [.lit (.bool true)], args := [d1, d2] }
  | _ => none }
def fnExactBlocksOfRow : OpenClaim := { program := "ythmgoeafecpgeaa", sum := "7000d7ee200c879a4fcc6f78777e8e9c04b6104befb76de6d2534b6ae2600788", func := "loop.example/g00907/laws.FnExactBlocksOf", spec := "fnExactBlocksOf", apart := false }
def FnExactBlocksOfSaid : Prop := fnExactBlocksOfRow.holds Try.pinned (OpenSpec.ofChange fnExactBlocksOfSpec)

/-- ITS FALSE NEIGHBOUR: 'it returns false'. Refute it at one input. -/
def fnExactBlocksOfWrong : ChangeSpec := { name := "fnExactBlocksOf", fn := fun _ => fun
  | [d1, d2] => { results := [.lit (.bool false)], args := [d1, d2] }
  | _ => none }
def FnExactBlocksOfWrongFalsely : Prop := fnExactBlocksOfRow.holds Try.pinned (OpenSpec.ofChange fnExactBlocksOfWrong)

/-- 'laws.FnExactIsValidPlan': WHATEVER THE INPUT: true; the input reads as it did. -/
def fnExactIsValidPlanSpec : ChangeSpec := { name := "fnExactIsValidPlan", fn := fun _ => fun
  | [d] => { results := [.lit (.bool true)], args := [d] }
  | _ => none }
def fnExactIsValidPlanRow : OpenClaim := { program := "ythmgoeafecpgeaa", sum := "7000d7ee200c879a4fcc6f78777e8e9c04b6104befb76de6d2534b6ae2600788", func := "loop.example/g00907/laws.FnExactIsValidPlan", spec := "fnExactIsValidPlan", apart := false }
def FnExactIsValidPlanSaid : Prop := fnExactIsValidPlanRow.holds Try.pinned (OpenSpec.ofChange fnExactIsValidPlanSpec)

/-- ITS FALSE NEIGHBOUR: 'it returns false'. Refute it at one input. -/
def fnExactIsValidPlanWrong : ChangeSpec := { name := "fnExactIsValidPlan", fn := fun _ => fun
  | [d] => { results := [.lit (.bool false)], args := [d] }
  | _ => none }
def FnExactIsValidPlanWrongFalsely : Prop := fnExactIsValidPlanRow.holds Try.pinned (OpenSpec.ofChange fnExactIsValidPlanWrong)

/-- 'laws.FnExactBenesSize': WHATEVER THE INPUT: true; the input reads as it did. -/
def fnExactBenesSizeSpec : ChangeSpec := { name := "fnExactBenesSize", fn := fun _ => fun
  | [d] => { results := [.lit (.bool true)], args := [d] }
  | _ => none }
def fnExactBenesSizeRow : OpenClaim := { program := "ythmgoeafecpgeaa", sum := "7000d7ee200c879a4fcc6f78777e8e9c04b6104befb76de6d2534b6ae2600788", func := "loop.example/g00907/laws.FnExactBenesSize", spec := "fnExactBenesSize", recurses := true, apart := false }
def FnExactBenesSizeSaid : Prop := fnExactBenesSizeRow.holds Try.pinned (OpenSpec.ofChange fnExactBenesSizeSpec)

/-- ITS FALSE NEIGHBOUR: 'it returns false'. Refute it at one input. -/
def fnExactBenesSizeWrong : ChangeSpec := { name := "fnExactBenesSize", fn := fun _ => fun
  | [d] => { results := [.lit (.bool false)], args := [d] }
  | _ => none }
def FnExactBenesSizeWrongFalsely : Prop := fnExactBenesSizeRow.holds Try.pinned (OpenSpec.ofChange fnExactBenesSizeWrong)

/-- 'laws.FnExactPassCount': WHATEVER THE INPUT: true; the input reads as it did. -/
def fnExactPassCountSpec : ChangeSpec := { name := "fnExactPassCount", fn := fun _ => fun
  | [d1, d2] => { results := [.lit (.bool true)], args := [d1, d2] }
  | _ => none }
def fnExactPassCountRow : OpenClaim := { program := "ythmgoeafecpgeaa", sum := "7000d7ee200c879a4fcc6f78777e8e9c04b6104befb76de6d2534b6ae2600788", func := "loop.example/g00907/laws.FnExactPassCount", spec := "fnExactPassCount", apart := false }
def FnExactPassCountSaid : Prop := fnExactPassCountRow.holds Try.pinned (OpenSpec.ofChange fnExactPassCountSpec)

/-- ITS FALSE NEIGHBOUR: 'it returns false'. Refute it at one input. -/
def fnExactPassCountWrong : ChangeSpec := { name := "fnExactPassCount", fn := fun _ => fun
  | [d1, d2] => { results := [.lit (.bool false)], args := [d1, d2] }
  | _ => none }
def FnExactPassCountWrongFalsely : Prop := fnExactPassCountRow.holds Try.pinned (OpenSpec.ofChange fnExactPassCountWrong)

/-- 'laws.FnExactScanSelect': WHATEVER THE INPUT: true; the input reads as it did. -/
def fnExactScanSelectSpec : ChangeSpec := { name := "fnExactScanSelect", fn := fun _ => fun
  | [d1, d2] => { results := [.lit (.bool true)], args := [d1, d2] }
  | _ => none }
def fnExactScanSelectRow : OpenClaim := { program := "ythmgoeafecpgeaa", sum := "7000d7ee200c879a4fcc6f78777e8e9c04b6104befb76de6d2534b6ae2600788", func := "loop.example/g00907/laws.FnExactScanSelect", spec := "fnExactScanSelect", unfollowed := true, recurses := true, apart := false }
def FnExactScanSelectSaid : Prop := fnExactScanSelectRow.holds Try.pinned (OpenSpec.ofChange fnExactScanSelectSpec)

/-- ITS FALSE NEIGHBOUR: 'it returns false'. Refute it at one input. -/
def fnExactScanSelectWrong : ChangeSpec := { name := "fnExactScanSelect", fn := fun _ => fun
  | [d1, d2] => { results := [.lit (.bool false)], args := [d1, d2] }
  | _ => none }
def FnExactScanSelectWrongFalsely : Prop := fnExactScanSelectRow.holds Try.pinned (OpenSpec.ofChange fnExactScanSelectWrong)

/- THE SECOND FORM. 'bulk': how many values and letters a reading holds, each counted each time it is reached (what is shared counts as often as it is met; a slice's spare places count too). A statement '..UptoSaid' is the law's where the arguments, and the package variables that the reading takes, are together of bulk at most 1048576: NARROWER than '..Said'. Prove '..Said' where nothing that the law and all that it calls make is longer than what came in: it says more and counts as full. Else prove '..UptoSaid'. A law counts once. -/
mutual
def uptoBulk {H : Type} : DataW H → Nat
  | .lit (.string bytes) => bytes.length + 1
  | .lit _ => 1
  | .nil => 1
  | .ptr d => uptoBulk d + 1
  | .slice elems spare => uptoBulkAll elems + uptoBulkAll spare + 1
  | .agg parts => uptoBulkAll parts + 1
  | .iface _ d => uptoBulk d + 1
  | .map entries => uptoBulkEntries entries + 1
  | .held _ => 1
def uptoBulkAll {H : Type} : List (DataW H) → Nat
  | [] => 0
  | d :: r => uptoBulk d + uptoBulkAll r
def uptoBulkEntries {H : Type} : List (Lit × DataW H) → Nat
  | [] => 0
  | x :: r => uptoBulkEntry x + uptoBulkEntries r
def uptoBulkEntry {H : Type} : Lit × DataW H → Nat
  | (.string bytes, d) => bytes.length + uptoBulk d + 1
  | (_, d) => uptoBulk d + 1
 end
def uptoSmall : (H : Type) → List (DataW H) → Bool := fun _ ds => decide (uptoBulkAll ds ≤ 1048576)
def OpenSpec.upto (s : _root_.Go.ChangeSpec) : _root_.Go.OpenSpec := { _root_.Go.OpenSpec.ofChange s with cond := some uptoSmall }

/-- 'laws.FnExactBlocksOf', WHERE WHAT IT READS IS OF BULK AT MOST 1048576: true; the input reads as it did. -/
def fnExactBlocksOfUptoRow : OpenClaim := { program := "ythmgoeafecpgeaa", sum := "7000d7ee200c879a4fcc6f78777e8e9c04b6104befb76de6d2534b6ae2600788", func := "loop.example/g00907/laws.FnExactBlocksOf", spec := "fnExactBlocksOf", apart := false, narrowed := true }
def FnExactBlocksOfUptoSaid : Prop := fnExactBlocksOfUptoRow.holds Try.pinned (OpenSpec.upto fnExactBlocksOfSpec)

/-- 'laws.FnExactIsValidPlan', WHERE WHAT IT READS IS OF BULK AT MOST 1048576: true; the input reads as it did. -/
def fnExactIsValidPlanUptoRow : OpenClaim := { program := "ythmgoeafecpgeaa", sum := "7000d7ee200c879a4fcc6f78777e8e9c04b6104befb76de6d2534b6ae2600788", func := "loop.example/g00907/laws.FnExactIsValidPlan", spec := "fnExactIsValidPlan", apart := false, narrowed := true }
def FnExactIsValidPlanUptoSaid : Prop := fnExactIsValidPlanUptoRow.holds Try.pinned (OpenSpec.upto fnExactIsValidPlanSpec)

/-- 'laws.FnExactBenesSize', WHERE WHAT IT READS IS OF BULK AT MOST 1048576: true; the input reads as it did. -/
def fnExactBenesSizeUptoRow : OpenClaim := { program := "ythmgoeafecpgeaa", sum := "7000d7ee200c879a4fcc6f78777e8e9c04b6104befb76de6d2534b6ae2600788", func := "loop.example/g00907/laws.FnExactBenesSize", spec := "fnExactBenesSize", recurses := true, apart := false, narrowed := true }
def FnExactBenesSizeUptoSaid : Prop := fnExactBenesSizeUptoRow.holds Try.pinned (OpenSpec.upto fnExactBenesSizeSpec)

/-- 'laws.FnExactPassCount', WHERE WHAT IT READS IS OF BULK AT MOST 1048576: true; the input reads as it did. -/
def fnExactPassCountUptoRow : OpenClaim := { program := "ythmgoeafecpgeaa", sum := "7000d7ee200c879a4fcc6f78777e8e9c04b6104befb76de6d2534b6ae2600788", func := "loop.example/g00907/laws.FnExactPassCount", spec := "fnExactPassCount", apart := false, narrowed := true }
def FnExactPassCountUptoSaid : Prop := fnExactPassCountUptoRow.holds Try.pinned (OpenSpec.upto fnExactPassCountSpec)

/-- 'laws.FnExactScanSelect', WHERE WHAT IT READS IS OF BULK AT MOST 1048576: true; the input reads as it did. -/
def fnExactScanSelectUptoRow : OpenClaim := { program := "ythmgoeafecpgeaa", sum := "7000d7ee200c879a4fcc6f78777e8e9c04b6104befb76de6d2534b6ae2600788", func := "loop.example/g00907/laws.FnExactScanSelect", spec := "fnExactScanSelect", unfollowed := true, recurses := true, apart := false, narrowed := true }
def FnExactScanSelectUptoSaid : Prop := fnExactScanSelectUptoRow.holds Try.pinned (OpenSpec.upto fnExactScanSelectSpec)

end Rows
end Go.Proofs.Ythmgoeafecpgeaa
