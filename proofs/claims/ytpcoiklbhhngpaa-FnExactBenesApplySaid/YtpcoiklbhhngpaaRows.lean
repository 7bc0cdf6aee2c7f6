/-
  No cell of these rows narrows 'for every input' (looked for: loops, veiled, ifaces, maps, wideKeys, modest, calm, conditions, laid).
  DERIVED. THE GIVEN ROWS OF THIS SEAT. 6 by the template 'for every input the law returns true; each argument reads behind the call as it read before'; 0 by the template 'total and deterministic' (their statements: YtpcoiklbhhngpaaTotals.lean).
  GIVEN WITH THE SEED: the statements are not yours to turn. If you find one false, say at which input.
  Laid BY PROGRAM, IN A SANDBOX (cutbox-rows.mjs): the forced cells as the released guide's own fill.sh prints them over the translation de7052506a64d638… (all of the seat's roots in one cut). By AI agents, Wed Nov 11 2026. No macro, syntax, notation, axiom, sorry.
-/
import Derived.Test.YtpcoiklbhhngpaaChecked
import GoSem.Claim
import GoSem.ClaimJoined
import GoSem.ClaimMapViews
import Derived.JoinedTies
import Derived.KernelRfl
namespace Go.Proofs.Ytpcoiklbhhngpaa
/- THE CELL 'sum', in the pinned program and in every row, IS THE sha256 OF THE DUMP (.gsa) THAT YtpcoiklbhhngpaaProg.lean LOADS. Nothing in Lean hashes anything: it is a label: what it is worth is what the hold of that sum in a sandbox is worth. -/
noncomputable def Try.pinned : Pinned := { name := "ytpcoiklbhhngpaa", sum := "de7052506a64d63842b029c95c8332a7986651175d254b24854c57e4ff7bb7d7", checked := Try.checked }
namespace Rows
def none {H : Type} : Left H := { results := [], args := [] }

/-- 'laws.FnExactBuildTree': WHATEVER THE INPUT: true; the input reads as it did. -/
def fnExactBuildTreeSpec : ChangeSpec := { name := "fnExactBuildTree", fn := fun _ => fun
  | [d] => { results := [.lit (.bool true)], args := [d] }
  | _ => none }
def fnExactBuildTreeRow : OpenClaim := { program := "ytpcoiklbhhngpaa", sum := "de7052506a64d63842b029c95c8332a7986651175d254b24854c57e4ff7bb7d7", func := "loop.example/g00907/laws.FnExactBuildTree", spec := "fnExactBuildTree", unfollowed := true, recurses := true, apart := false }
def FnExactBuildTreeSaid : Prop := fnExactBuildTreeRow.holds Try.pinned (OpenSpec.ofChange fnExactBuildTreeSpec)

/-- ITS FALSE NEIGHBOUR: 'it returns false'. Refute it at one input. -/
def fnExactBuildTreeWrong : ChangeSpec := { name := "fnExactBuildTree", fn := fun _ => fun
  | [d] => { results := [.lit (.bool false)], args := [d] }
  | _ => none }
def FnExactBuildTreeWrongFalsely : Prop := fnExactBuildTreeRow.holds Try.pinned (OpenSpec.ofChange fnExactBuildTreeWrong)

/-- 'laws.FnExactIsValidTree': WHATEVER THE INPUT: true; the input reads as it did. -/
def fnExactIsValidTreeSpec : ChangeSpec := { name := "fnExactIsValidTree", fn := fun _ => fun
  | [d] => { results := [.lit (.bool true)], args := [d] }
  | _ => none }
def fnExactIsValidTreeRow : OpenClaim := { program := "ytpcoiklbhhngpaa", sum := "de7052506a64d63842b029c95c8332a7986651175d254b24854c57e4ff7bb7d7", func := "loop.example/g00907/laws.FnExactIsValidTree", spec := "fnExactIsValidTree", apart := false }
def FnExactIsValidTreeSaid : Prop := fnExactIsValidTreeRow.holds Try.pinned (OpenSpec.ofChange fnExactIsValidTreeSpec)

/-- ITS FALSE NEIGHBOUR: 'it returns false'. Refute it at one input. -/
def fnExactIsValidTreeWrong : ChangeSpec := { name := "fnExactIsValidTree", fn := fun _ => fun
  | [d] => { results := [.lit (.bool false)], args := [d] }
  | _ => none }
def FnExactIsValidTreeWrongFalsely : Prop := fnExactIsValidTreeRow.holds Try.pinned (OpenSpec.ofChange fnExactIsValidTreeWrong)

/-- 'laws.FnExactReplaceWinner': WHATEVER THE INPUT: true; the input reads as it did. -/
def fnExactReplaceWinnerSpec : ChangeSpec := { name := "fnExactReplaceWinner", fn := fun _ => fun
  | [d1, d2, d3] => { results := [.lit (.bool true)], args := [d1, d2, d3] }
  | _ => none }
def fnExactReplaceWinnerRow : OpenClaim := { program := "ytpcoiklbhhngpaa", sum := "de7052506a64d63842b029c95c8332a7986651175d254b24854c57e4ff7bb7d7", func := "loop.example/g00907/laws.FnExactReplaceWinner", spec := "fnExactReplaceWinner", apart := false }
def FnExactReplaceWinnerSaid : Prop := fnExactReplaceWinnerRow.holds Try.pinned (OpenSpec.ofChange fnExactReplaceWinnerSpec)

/-- ITS FALSE NEIGHBOUR: 'it returns false'. Refute it at one input. -/
def fnExactReplaceWinnerWrong : ChangeSpec := { name := "fnExactReplaceWinner", fn := fun _ => fun
  | [d1, d2, d3] => { results := [.lit (.bool false)], args := [d1, d2, d3] }
  | _ => none }
def FnExactReplaceWinnerWrongFalsely : Prop := fnExactReplaceWinnerRow.holds Try.pinned (OpenSpec.ofChange fnExactReplaceWinnerWrong)

/-- 'laws.FnExactBenesApply': WHATEVER THE INPUT: true; the input reads as it did. -/
def fnExactBenesApplySpec : ChangeSpec := { name := "fnExactBenesApply", fn := fun _ => fun
  | [d1, d2] => { results := [.lit (.bool true)], args := [d1, d2] }
  | _ => none }
def fnExactBenesApplyRow : OpenClaim := { program := "ytpcoiklbhhngpaa", sum := "de7052506a64d63842b029c95c8332a7986651175d254b24854c57e4ff7bb7d7", func := "loop.example/g00907/laws.FnExactBenesApply", spec := "fnExactBenesApply", unfollowed := true, recurses := true, apart := false }
def FnExactBenesApplySaid : Prop := fnExactBenesApplyRow.holds Try.pinned (OpenSpec.ofChange fnExactBenesApplySpec)

/-- ITS FALSE NEIGHBOUR: 'it returns false'. Refute it at one input. -/
def fnExactBenesApplyWrong : ChangeSpec := { name := "fnExactBenesApply", fn := fun _ => fun
  | [d1, d2] => { results := [.lit (.bool false)], args := [d1, d2] }
  | _ => none }
def FnExactBenesApplyWrongFalsely : Prop := fnExactBenesApplyRow.holds Try.pinned (OpenSpec.ofChange fnExactBenesApplyWrong)

/-- 'laws.FnExactBenesRoute': WHATEVER THE INPUT: true; the input reads as it did. -/
def fnExactBenesRouteSpec : ChangeSpec := { name := "fnExactBenesRoute", fn := fun _ => fun
  | [d] => { results := [.lit (.bool true)], args := [d] }
  | _ => none }
def fnExactBenesRouteRow : OpenClaim := { program := "ytpcoiklbhhngpaa", sum := "de7052506a64d63842b029c95c8332a7986651175d254b24854c57e4ff7bb7d7", func := "loop.example/g00907/laws.FnExactBenesRoute", spec := "fnExactBenesRoute", recurses := true, apart := false }
def FnExactBenesRouteSaid : Prop := fnExactBenesRouteRow.holds Try.pinned (OpenSpec.ofChange fnExactBenesRouteSpec)

/-- ITS FALSE NEIGHBOUR: 'it returns false'. Refute it at one input. -/
def fnExactBenesRouteWrong : ChangeSpec := { name := "fnExactBenesRoute", fn := fun _ => fun
  | [d] => { results := [.lit (.bool false)], args := [d] }
  | _ => none }
def FnExactBenesRouteWrongFalsely : Prop := fnExactBenesRouteRow.holds Try.pinned (OpenSpec.ofChange fnExactBenesRouteWrong)

/-- 'laws.FnExactObliviousShuffle': WHATEVER THE INPUT: true; the input reads as it did. -/
def fnExactObliviousShuffleSpec : ChangeSpec := { name := "fnExactObliviousShuffle", fn := fun _ => fun
  | [d1, d2] => { results := [.lit (.bool true)], args := [d1, d2] }
  | _ => none }
def fnExactObliviousShuffleRow : OpenClaim := { program := "ytpcoiklbhhngpaa", sum := "de7052506a64d63842b029c95c8332a7986651175d254b24854c57e4ff7bb7d7", func := "loop.example/g00907/laws.FnExactObliviousShuffle", spec := "fnExactObliviousShuffle", unfollowed := true, recurses := true, apart := false }
def FnExactObliviousShuffleSaid : Prop := fnExactObliviousShuffleRow.holds Try.pinned (OpenSpec.ofChange fnExactObliviousShuffleSpec)

/-- ITS FALSE NEIGHBOUR: 'it returns false'. Refute it at one input. -/
def fnExactObliviousShuffleWrong : ChangeSpec := { name := "fnExactObliviousShuffle", fn := fun _ => fun
  | [d1, d2] => { results := [.lit (.bool false)], args := [d1, d2] }
  | _ => none }
def FnExactObliviousShuffleWrongFalsely : Prop := fnExactObliviousShuffleRow.holds Try.pinned (OpenSpec.ofChange fnExactObliviousShuffleWrong)

/- THE SECOND FORM. 'bulk': how many values and letters a reading holds, each counted each time it is reached (what is shared counts as often as it is met; a slice's spare places count too). A statement '..UptoSaid' is the law's where the arguments, and the package variables that the reading takes, are together of bulk at most 1048576: NARROWER than '..Said'. Prove '..Said' where nothing that the law and all that it calls make is longer than what came in: it says more and counts as full. Else prove '..UptoSaid'. A law counts once. -/
mutual
def uptoBulk {H : Type} : DataW H → Nat
  | .lit (.string bytes) => bytes.length + 1
  | .lit _ => 1
  | .nil => 1
  | .ptr d => uptoBulk d + 1
  | .slice elems spare => uptoBulkAll elems + uptoBulkAll spare + 1
  | .agg parts => uptoBulkAll parts + 1
  | .iface _ d => uptoBulk d + 1
  | .map entries => uptoBulkEntries entries + 1
  | .held _ => 1
def uptoBulkAll {H : Type} : List (DataW H) → Nat
  | [] => 0
  | d :: r => uptoBulk d + uptoBulkAll r
def uptoBulkEntries {H : Type} : List (Lit × DataW H) → Nat
  | [] => 0
  | x :: r => uptoBulkEntry x + uptoBulkEntries r
def uptoBulkEntry {H : Type} : Lit × DataW H → Nat
  | (.string bytes, d) => bytes.length + uptoBulk d + 1
  | (_, d) => uptoBulk d + 1
 end
def uptoSmall : (H : Type) → List (DataW H) → Bool := fun _ ds => decide (uptoBulkAll ds ≤ 1048576)
def OpenSpec.upto (s : _root_.Go.ChangeSpec) : _root_.Go.OpenSpec := { _root_.Go.OpenSpec.ofChange s with cond := some uptoSmall }

/-- 'laws.FnExactBuildTree', WHERE WHAT IT READS IS OF BULK AT MOST 1048576: true; the input reads as it did. -/
def fnExactBuildTreeUptoRow : OpenClaim := { program := "ytpcoiklbhhngpaa", sum := "de7052506a64d63842b029c95c8332a7986651175d254b24854c57e4ff7bb7d7", func := "loop.example/g00907/laws.FnExactBuildTree", spec := "fnExactBuildTree", unfollowed := true, recurses := true, apart := false, narrowed := true }
def FnExactBuildTreeUptoSaid : Prop := fnExactBuildTreeUptoRow.holds Try.pinned (OpenSpec.upto fnExactBuildTreeSpec)

/-- 'laws.FnExactIsValidTree', WHERE WHAT IT READS IS OF BULK AT MOST 1048576: true; the input reads as it did. -/
def fnExactIsValidTreeUptoRow : OpenClaim := { program := "ytpcoiklbhhngpaa", sum := "de7052506a64d63842b029c95c8332a7986651175d254b24854c57e4ff7bb7d7", func := "loop.example/g00907/laws.FnExactIsValidTree", spec := "fnExactIsValidTree", apart := false, narrowed := true }
def FnExactIsValidTreeUptoSaid : Prop := fnExactIsValidTreeUptoRow.holds Try.pinned (OpenSpec.upto fnExactIsValidTreeSpec)

/-- 'laws.FnExactReplaceWinner', WHERE WHAT IT READS IS OF BULK AT MOST 1048576: true; the input reads as it did. -/
def fnExactReplaceWinnerUptoRow : OpenClaim := { program := "ytpcoiklbhhngpaa", sum := "de7052506a64d63842b029c95c8332a7986651175d254b24854c57e4ff7bb7d7", func := "loop.example/g00907/laws.FnExactReplaceWinner", spec := "fnExactReplaceWinner", apart := false, narrowed := true }
def FnExactReplaceWinnerUptoSaid : Prop := fnExactReplaceWinnerUptoRow.holds Try.pinned (OpenSpec.upto fnExactReplaceWinnerSpec)

/-- 'laws.FnExactBenesApply', WHERE WHAT IT READS IS OF BULK AT MOST 1048576: true; the input reads as it did. -/
def fnExactBenesApplyUptoRow : OpenClaim := { program := "ytpcoiklbhhngpaa", sum := "de7052506a64d63842b029c95c8332a7986651175d254b24854c57e4ff7bb7d7", func := "loop.example/g00907/laws.FnExactBenesApply", spec := "fnExactBenesApply", unfollowed := true, recurses := true, apart := false, narrowed := true }
def FnExactBenesApplyUptoSaid : Prop := fnExactBenesApplyUptoRow.holds Try.pinned (OpenSpec.upto fnExactBenesApplySpec)

/-- 'laws.FnExactBenesRoute', WHERE WHAT IT READS IS OF BULK AT MOST 1048576: true; the input reads as it did. -/
def fnExactBenesRouteUptoRow : OpenClaim := { program := "ytpcoiklbhhngpaa", sum := "de7052506a64d63842b029c95c8332a7986651175d254b24854c57e4ff7bb7d7", func := "loop.example/g00907/laws.FnExactBenesRoute", spec := "fnExactBenesRoute", recurses := true, apart := false, narrowed := true }
def FnExactBenesRouteUptoSaid : Prop := fnExactBenesRouteUptoRow.holds Try.pinned (OpenSpec.upto fnExactBenesRouteSpec)

/-- 'laws.FnExactObliviousShuffle', WHERE WHAT IT READS IS OF BULK AT MOST 1048576: true; the input reads as it did. -/
def fnExactObliviousShuffleUptoRow : OpenClaim := { program := "ytpcoiklbhhngpaa", sum := "de7052506a64d63842b029c95c8332a7986651175d254b24854c57e4ff7bb7d7", func := "loop.example/g00907/laws.FnExactObliviousShuffle", spec := "fnExactObliviousShuffle", unfollowed := true, recurses := true, apart := false, narrowed := true }
def FnExactObliviousShuffleUptoSaid : Prop := fnExactObliviousShuffleUptoRow.holds Try.pinned (OpenSpec.upto fnExactObliviousShuffleSpec)

end Rows
end Go.Proofs.Ytpcoiklbhhngpaa
