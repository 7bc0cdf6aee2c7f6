/-
  No cell of these rows narrows 'for every input' (looked for: loops, veiled, ifaces, maps, wideKeys, modest, calm, conditions, laid).
  DERIVED. THE GIVEN ROWS OF THIS SEAT. 4 by the template 'for every input the law returns true; each argument reads behind the call as it read before'; 0 by the template 'total and deterministic' (their statements: YtecbagdljgnloaaTotals.lean).
  GIVEN WITH THE SEED: the statements are not yours to turn. If you find one false, say at which input.
  Laid BY PROGRAM, IN A SANDBOX (cutbox-rows.mjs): the forced cells as the released guide's own fill.sh prints them over the translation bf45858ec2642a68… (all of the seat's roots in one cut). By AI agents, Wed Nov 11 2026. No macro, syntax, notation, axiom, sorry.
-/
import Derived.Test.YtecbagdljgnloaaChecked
import GoSem.Claim
import GoSem.ClaimJoined
import GoSem.ClaimMapViews
import Derived.JoinedTies
import Derived.KernelRfl
namespace Go.Proofs.Ytecbagdljgnloaa
/- THE CELL 'sum', in the pinned program and in every row, IS THE sha256 OF THE DUMP (.gsa) THAT YtecbagdljgnloaaProg.lean LOADS. Nothing in Lean hashes anything: it is a label: what it is worth is what the hold of that sum in a sandbox is worth. -/
noncomputable def Try.pinned : Pinned := { name := "ytecbagdljgnloaa", sum := "bf45858ec2642a68f6deadd296f3f46a9e0e3348e158bc1c67073756385c4c7e", checked := Try.checked }
namespace Rows
def none {H : Type} : Left H := { results := [], args := [] }

/-- 'laws.FnExactRunLengths': WHATEVER THE INPUT: true; the input reads as it did. -/
def fnExactRunLengthsSpec : ChangeSpec := { name := "fnExactRunLengths", fn := fun _ => fun
  | [d1, d2] => { results := [.lit (.bool true)], args := [d1, d2] }
  | _ => none }
def fnExactRunLengthsRow : OpenClaim := { program := "ytecbagdljgnloaa", sum := "bf45858ec2642a68f6deadd296f3f46a9e0e3348e158bc1c67073756385c4c7e", func := "loop.example/g00907/laws.FnExactRunLengths", spec := "fnExactRunLengths", unfollowed := true, recurses := true, apart := false }
def FnExactRunLengthsSaid : Prop := fnExactRunLengthsRow.holds Try.pinned (OpenSpec.ofChange fnExactRunLengthsSpec)

/-- ITS FALSE NEIGHBOUR: 'it returns false'. Refute it at one input. -/
def fnExactRunLengthsWrong : ChangeSpec := { name := "fnExactRunLengths", fn := fun _ => fun
  | [d1, d2] => { results := [.lit (.bool false)], args := [d1, d2] }
  | _ => none }
def FnExactRunLengthsWrongFalsely : Prop := fnExactRunLengthsRow.holds Try.pinned (OpenSpec.ofChange fnExactRunLengthsWrong)

/-- 'laws.FnExactReplacementSelection': WHATEVER THE INPUT: true; the input reads as it did. -/
def fnExactReplacementSelectionSpec : ChangeSpec := { name := "fnExactReplacementSelection", fn := fun _ => fun
  | [d1, d2] => { results := [.lit (.bool true)], args := [d1, d2] }
  | _ => none }
def fnExactReplacementSelectionRow : OpenClaim := { program := "ytecbagdljgnloaa", sum := "bf45858ec2642a68f6deadd296f3f46a9e0e3348e158bc1c67073756385c4c7e", func := "loop.example/g00907/laws.FnExactReplacementSelection", spec := "fnExactReplacementSelection", unfollowed := true, recurses := true, apart := false }
def FnExactReplacementSelectionSaid : Prop := fnExactReplacementSelectionRow.holds Try.pinned (OpenSpec.ofChange fnExactReplacementSelectionSpec)

/-- ITS FALSE NEIGHBOUR: 'it returns false'. Refute it at one input. -/
def fnExactReplacementSelectionWrong : ChangeSpec := { name := "fnExactReplacementSelection", fn := fun _ => fun
  | [d1, d2] => { results := [.lit (.bool false)], args := [d1, d2] }
  | _ => none }
def FnExactReplacementSelectionWrongFalsely : Prop := fnExactReplacementSelectionRow.holds Try.pinned (OpenSpec.ofChange fnExactReplacementSelectionWrong)

/-- 'laws.FnRuns': WHATEVER THE INPUT: true; the input reads as it did. -/
def fnRunsSpec : ChangeSpec := { name := "fnRuns", fn := fun _ => fun
  | [d] => { results := [.lit (.bool true)], args := [d] }
  | _ => none }
def fnRunsRow : OpenClaim := { program := "ytecbagdljgnloaa", sum := "bf45858ec2642a68f6deadd296f3f46a9e0e3348e158bc1c67073756385c4c7e", func := "loop.example/g00907/laws.FnRuns", spec := "fnRuns", unfollowed := true, recurses := true, apart := false }
def FnRunsSaid : Prop := fnRunsRow.holds Try.pinned (OpenSpec.ofChange fnRunsSpec)

/-- ITS FALSE NEIGHBOUR: 'it returns false'. Refute it at one input. -/
def fnRunsWrong : ChangeSpec := { name := "fnRuns", fn := fun _ => fun
  | [d] => { results := [.lit (.bool false)], args := [d] }
  | _ => none }
def FnRunsWrongFalsely : Prop := fnRunsRow.holds Try.pinned (OpenSpec.ofChange fnRunsWrong)

/-- 'laws.FnSelectionRuns': WHATEVER THE INPUT: true; the input reads as it did. -/
def fnSelectionRunsSpec : ChangeSpec := { name := "fnSelectionRuns", fn := fun _ => fun
  | [d] => { results := [.lit (.bool true)], args := [d] }
  | _ => none }
def fnSelectionRunsRow : OpenClaim := { program := "ytecbagdljgnloaa", sum := "bf45858ec2642a68f6deadd296f3f46a9e0e3348e158bc1c67073756385c4c7e", func := "loop.example/g00907/laws.FnSelectionRuns", spec := "fnSelectionRuns", unfollowed := true, recurses := true, apart := false }
def FnSelectionRunsSaid : Prop := fnSelectionRunsRow.holds Try.pinned (OpenSpec.ofChange fnSelectionRunsSpec)

/-- ITS FALSE NEIGHBOUR: 'it returns false'. Refute it at one input. -/
def fnSelectionRunsWrong : ChangeSpec := { name := "fnSelectionRuns", fn := fun _ => fun
  | [d] => { results := [.lit (.bool false)], args := [d] }
  | _ => none }
def FnSelectionRunsWrongFalsely : Prop := fnSelectionRunsRow.holds Try.pinned (OpenSpec.ofChange fnSelectionRunsWrong)

/- THE SECOND FORM. 'bulk': how many values and letters a reading holds, each counted each time it is reached (what is shared counts as often as it is met; a slice's spare places count too). A statement '..UptoSaid' is the law's where the arguments, and the package variables that the reading takes, are together of bulk at most 1048576: NARROWER than '..Said'. Prove '..Said' where nothing that the law and all that it calls make is longer than what came in: it says more and counts as full. Else prove '..UptoSaid'. A law counts once. -/
mutual
def uptoBulk {H : Type} : DataW H → Nat
  | .lit (.string bytes) => bytes.length + 1
  | .lit _ => 1
  | .nil => 1
  | .ptr d => uptoBulk d + 1
  | .slice elems spare => uptoBulkAll elems + uptoBulkAll spare + 1
  | .agg parts => uptoBulkAll parts + 1
  | .iface _ d => uptoBulk d + 1
  | .map entries => uptoBulkEntries entries + 1
  | .held _ => 1
def uptoBulkAll {H : Type} : List (DataW H) → Nat
  | [] => 0
  | d :: r => uptoBulk d + uptoBulkAll r
def uptoBulkEntries {H : Type} : List (Lit × DataW H) → Nat
  | [] => 0
  | x :: r => uptoBulkEntry x + uptoBulkEntries r
def uptoBulkEntry {H : Type} : Lit × DataW H → Nat
  | (.string bytes, d) => bytes.length + uptoBulk d + 1
  | (_, d) => uptoBulk d + 1
 end
def uptoSmall : (H : Type) → List (DataW H) → Bool := fun _ ds => decide (uptoBulkAll ds ≤ 1048576)
def OpenSpec.upto (s : _root_.Go.ChangeSpec) : _root_.Go.OpenSpec := { _root_.Go.OpenSpec.ofChange s with cond := some uptoSmall }

/-- 'laws.FnExactRunLengths', WHERE WHAT IT READS IS OF BULK AT MOST 1048576: true; the input reads as it did. -/
def fnExactRunLengthsUptoRow : OpenClaim := { program := "ytecbagdljgnloaa", sum := "bf45858ec2642a68f6deadd296f3f46a9e0e3348e158bc1c67073756385c4c7e", func := "loop.example/g00907/laws.FnExactRunLengths", spec := "fnExactRunLengths", unfollowed := true, recurses := true, apart := false, narrowed := true }
def FnExactRunLengthsUptoSaid : Prop := fnExactRunLengthsUptoRow.holds Try.pinned (OpenSpec.upto fnExactRunLengthsSpec)

/-- 'laws.FnExactReplacementSelection', WHERE WHAT IT READS IS OF BULK AT MOST 1048576: true; the input reads as it did. -/
def fnExactReplacementSelectionUptoRow : OpenClaim := { program := "ytecbagdljgnloaa", sum := "bf45858ec2642a68f6deadd296f3f46a9e0e3348e158bc1c67073756385c4c7e", func := "loop.example/g00907/laws.FnExactReplacementSelection", spec := "fnExactReplacementSelection", unfollowed := true, recurses := true, apart := false, narrowed := true }
def FnExactReplacementSelectionUptoSaid : Prop := fnExactReplacementSelectionUptoRow.holds Try.pinned (OpenSpec.upto fnExactReplacementSelectionSpec)

/-- 'laws.FnRuns', WHERE WHAT IT READS IS OF BULK AT MOST 1048576: true; the input reads as it did. -/
def fnRunsUptoRow : OpenClaim := { program := "ytecbagdljgnloaa", sum := "bf45858ec2642a68f6deadd296f3f46a9e0e3348e158bc1c67073756385c4c7e", func := "loop.example/g00907/laws.FnRuns", spec := "fnRuns", unfollowed := true, recurses := true, apart := false, narrowed := true }
def FnRunsUptoSaid : Prop := fnRunsUptoRow.holds Try.pinned (OpenSpec.upto fnRunsSpec)

/-- 'laws.FnSelectionRuns', WHERE WHAT IT READS IS OF BULK AT MOST 1048576: true; the input reads as it did. -/
def fnSelectionRunsUptoRow : OpenClaim := { program := "ytecbagdljgnloaa", sum := "bf45858ec2642a68f6deadd296f3f46a9e0e3348e158bc1c67073756385c4c7e", func := "loop.example/g00907/laws.FnSelectionRuns", spec := "fnSelectionRuns", unfollowed := true, recurses := true, apart := false, narrowed := true }
def FnSelectionRunsUptoSaid : Prop := fnSelectionRunsUptoRow.holds Try.pinned (OpenSpec.upto fnSelectionRunsSpec)

end Rows
end Go.Proofs.Ytecbagdljgnloaa
