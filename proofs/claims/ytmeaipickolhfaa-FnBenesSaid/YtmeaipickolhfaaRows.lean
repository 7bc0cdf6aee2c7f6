/-
  No cell of these rows narrows 'for every input' (looked for: loops, veiled, ifaces, maps, wideKeys, modest, calm, conditions, laid).
  DERIVED. THE GIVEN ROWS OF THIS SEAT. 5 by the template 'for every input the law returns true; each argument reads behind the call as it read before'; 0 by the template 'total and deterministic' (their statements: YtmeaipickolhfaaTotals.lean).
  GIVEN WITH THE SEED: the statements are not yours to turn. If you find one false, say at which input.
  Laid BY PROGRAM, IN A SANDBOX (cutbox-rows.mjs): the forced cells as the released guide's own fill.sh prints them over the translation a592b51fb74a1e4d… (all of the seat's roots in one cut). By AI agents, Wed Nov 11 2026. No macro, syntax, notation, axiom, sorry.
-/
import Derived.Test.YtmeaipickolhfaaChecked
import GoSem.Claim
import GoSem.ClaimJoined
import GoSem.ClaimMapViews
import Derived.JoinedTies
import Derived.KernelRfl
namespace Go.Proofs.Ytmeaipickolhfaa
/- THE CELL 'sum', in the pinned program and in every row, IS THE sha256 OF THE DUMP (.gsa) THAT YtmeaipickolhfaaProg.lean LOADS. Nothing in Lean hashes anything: it is a label: what it is worth is what the hold of that sum in a sandbox is worth. -/
noncomputable def Try.pinned : Pinned := { name := "ytmeaipickolhfaa", sum := "a592b51fb74a1e4d6d5f8e24abcca009b57685140455b3a35d4423e121f0507d", checked := Try.checked }
namespace Rows
def none {H : Type} : Left H := { results := [], args := [] }

/-- 'laws.FnExactBenesRoute': WHATEVER THE INPUT: true; the input reads as it did. -/
def fnExactBenesRouteSpec : ChangeSpec := { name := "fnExactBenesRoute", fn := fun _ => fun
  | [d] => { results := [.lit (.bool true)], args := [d] }
  | _ => none }
def fnExactBenesRouteRow : OpenClaim := { program := "ytmeaipickolhfaa", sum := "a592b51fb74a1e4d6d5f8e24abcca009b57685140455b3a35d4423e121f0507d", func := "loop.example/g00907/laws.FnExactBenesRoute", spec := "fnExactBenesRoute", recurses := true, apart := false }
def FnExactBenesRouteSaid : Prop := fnExactBenesRouteRow.holds Try.pinned (OpenSpec.ofChange fnExactBenesRouteSpec)

/-- ITS FALSE NEIGHBOUR: 'it returns false'. Refute it at one input. -/
def fnExactBenesRouteWrong : ChangeSpec := { name := "fnExactBenesRoute", fn := fun _ => fun
  | [d] => { results := [.lit (.bool false)], args := [d] }
  | _ => none }
def FnExactBenesRouteWrongFalsely : Prop := fnExactBenesRouteRow.holds Try.pinned (OpenSpec.ofChange fnExactBenesRouteWrong)

/-- 'laws.FnExactObliviousShuffle': WHATEVER THE INPUT: true; the input reads as it did. -/
def fnExactObliviousShuffleSpec : ChangeSpec := { name := "fnExactObliviousShuffle", fn := fun _ => fun
  | [d1, d2] => { results := [.lit (.bool true)], args := [d1, d2] }
  | _ => none }
def fnExactObliviousShuffleRow : OpenClaim := { program := "ytmeaipickolhfaa", sum := "a592b51fb74a1e4d6d5f8e24abcca009b57685140455b3a35d4423e121f0507d", func := "loop.example/g00907/laws.FnExactObliviousShuffle", spec := "fnExactObliviousShuffle", unfollowed := true, recurses := true, apart := false }
def FnExactObliviousShuffleSaid : Prop := fnExactObliviousShuffleRow.holds Try.pinned (OpenSpec.ofChange fnExactObliviousShuffleSpec)

/-- ITS FALSE NEIGHBOUR: 'it returns false'. Refute it at one input. -/
def fnExactObliviousShuffleWrong : ChangeSpec := { name := "fnExactObliviousShuffle", fn := fun _ => fun
  | [d1, d2] => { results := [.lit (.bool false)], args := [d1, d2] }
  | _ => none }
def FnExactObliviousShuffleWrongFalsely : Prop := fnExactObliviousShuffleRow.holds Try.pinned (OpenSpec.ofChange fnExactObliviousShuffleWrong)

/-- 'laws.FnIncreasing': WHATEVER THE INPUT: true; the input reads as it did. -/
def fnIncreasingSpec : ChangeSpec := { name := "fnIncreasing", fn := fun _ => fun
  | [d] => { results := [.lit (.bool true)], args := [d] }
  | _ => none }
def fnIncreasingRow : OpenClaim := { program := "ytmeaipickolhfaa", sum := "a592b51fb74a1e4d6d5f8e24abcca009b57685140455b3a35d4423e121f0507d", func := "loop.example/g00907/laws.FnIncreasing", spec := "fnIncreasing", unfollowed := true, recurses := true, apart := false }
def FnIncreasingSaid : Prop := fnIncreasingRow.holds Try.pinned (OpenSpec.ofChange fnIncreasingSpec)

/-- ITS FALSE NEIGHBOUR: 'it returns false'. Refute it at one input. -/
def fnIncreasingWrong : ChangeSpec := { name := "fnIncreasing", fn := fun _ => fun
  | [d] => { results := [.lit (.bool false)], args := [d] }
  | _ => none }
def FnIncreasingWrongFalsely : Prop := fnIncreasingRow.holds Try.pinned (OpenSpec.ofChange fnIncreasingWrong)

/-- 'laws.FnBenes': WHATEVER THE INPUT: true; the input reads as it did. -/
def fnBenesSpec : ChangeSpec := { name := "fnBenes", fn := fun _ => fun
  | [d] => { results := [.lit (.bool true)], args := [d] }
  | _ => none }
def fnBenesRow : OpenClaim := { program := "ytmeaipickolhfaa", sum := "a592b51fb74a1e4d6d5f8e24abcca009b57685140455b3a35d4423e121f0507d", func := "loop.example/g00907/laws.FnBenes", spec := "fnBenes", unfollowed := true, recurses := true, apart := false }
def FnBenesSaid : Prop := fnBenesRow.holds Try.pinned (OpenSpec.ofChange fnBenesSpec)

/-- ITS FALSE NEIGHBOUR: 'it returns false'. Refute it at one input. -/
def fnBenesWrong : ChangeSpec := { name := "fnBenes", fn := fun _ => fun
  | [d] => { results := [.lit (.bool false)], args := [d] }
  | _ => none }
def FnBenesWrongFalsely : Prop := fnBenesRow.holds Try.pinned (OpenSpec.ofChange fnBenesWrong)

/-- 'laws.FnShuffle': WHATEVER THE INPUT: true; the input reads as it did. -/
def fnShuffleSpec : ChangeSpec := { name := "fnShuffle", fn := fun _ => fun
  | [d] => { results := [.lit (.bool true)], args := [d] }
  | _ => none }
def fnShuffleRow : OpenClaim := { program := "ytmeaipickolhfaa", sum := "a592b51fb74a1e4d6d5f8e24abcca009b57685140455b3a35d4423e121f0507d", func := "loop.example/g00907/laws.FnShuffle", spec := "fnShuffle", unfollowed := true, recurses := true, apart := false }
def FnShuffleSaid : Prop := fnShuffleRow.holds Try.pinned (OpenSpec.ofChange fnShuffleSpec)

/-- ITS FALSE NEIGHBOUR: 'it returns false'. Refute it at one input. -/
def fnShuffleWrong : ChangeSpec := { name := "fnShuffle", fn := fun _ => fun
  | [d] => { results := [.lit (.bool false)], args := [d] }
  | _ => none }
def FnShuffleWrongFalsely : Prop := fnShuffleRow.holds Try.pinned (OpenSpec.ofChange fnShuffleWrong)

/- THE SECOND FORM. 'bulk': how many values and letters a reading holds, each counted each time it is reached (what is shared counts as often as it is met; a slice's spare places count too). A statement '..UptoSaid' is the law's where the arguments, and the package variables that the reading takes, are together of bulk at most 1048576: NARROWER than '..Said'. Prove '..Said' where nothing that the law and all that it calls make is longer than what came in: it says more and counts as full. Else prove '..UptoSaid'. A law counts once. -/
mutual
def uptoBulk {H : Type} : DataW H → Nat
  | .lit (.string bytes) => bytes.length + 1
  | .lit _ => 1
  | .nil => 1
  | .ptr d => uptoBulk d + 1
  | .slice elems spare => uptoBulkAll elems + uptoBulkAll spare + 1
  | .agg parts => uptoBulkAll parts + 1
  | .iface _ d => uptoBulk d + 1
  | .map entries => uptoBulkEntries entries + 1
  | .held _ => 1
def uptoBulkAll {H : Type} : List (DataW H) → Nat
  | [] => 0
  | d :: r => uptoBulk d + uptoBulkAll r
def uptoBulkEntries {H : Type} : List (Lit × DataW H) → Nat
  | [] => 0
  | x :: r => uptoBulkEntry x + uptoBulkEntries r
def uptoBulkEntry {H : Type} : Lit × DataW H → Nat
  | (.string bytes, d) => bytes.length + uptoBulk d + 1
  | (_, d) => uptoBulk d + 1
 end
def uptoSmall : (H : Type) → List (DataW H) → Bool := fun _ ds => decide (uptoBulkAll ds ≤ 1048576)
def OpenSpec.upto (s : _root_.Go.ChangeSpec) : _root_.Go.OpenSpec := { _root_.Go.OpenSpec.ofChange s with cond := some uptoSmall }

/-- 'laws.FnExactBenesRoute', WHERE WHAT IT READS IS OF BULK AT MOST 1048576: true; the input reads as it did. -/
def fnExactBenesRouteUptoRow : OpenClaim := { program := "ytmeaipickolhfaa", sum := "a592b51fb74a1e4d6d5f8e24abcca009b57685140455b3a35d4423e121f0507d", func := "loop.example/g00907/laws.FnExactBenesRoute", spec := "fnExactBenesRoute", recurses := true, apart := false, narrowed := true }
def FnExactBenesRouteUptoSaid : Prop := fnExactBenesRouteUptoRow.holds Try.pinned (OpenSpec.upto fnExactBenesRouteSpec)

/-- 'laws.FnExactObliviousShuffle', WHERE WHAT IT READS IS OF BULK AT MOST 1048576: true; the input reads as it did. -/
def fnExactObliviousShuffleUptoRow : OpenClaim := { program := "ytmeaipickolhfaa", sum := "a592b51fb74a1e4d6d5f8e24abcca009b57685140455b3a35d4423e121f0507d", func := "loop.example/g00907/laws.FnExactObliviousShuffle", spec := "fnExactObliviousShuffle", unfollowed := true, recurses := true, apart := false, narrowed := true }
def FnExactObliviousShuffleUptoSaid : Prop := fnExactObliviousShuffleUptoRow.holds Try.pinned (OpenSpec.upto fnExactObliviousShuffleSpec)

/-- 'laws.FnIncreasing', WHERE WHAT IT READS IS OF BULK AT MOST 1048576: true; the input reads as it did. -/
def fnIncreasingUptoRow : OpenClaim := { program := "ytmeaipickolhfaa", sum := "a592b51fb74a1e4d6d5f8e24abcca009b57685140455b3a35d4423e121f0507d", func := "loop.example/g00907/laws.FnIncreasing", spec := "fnIncreasing", unfollowed := true, recurses := true, apart := false, narrowed := true }
def FnIncreasingUptoSaid : Prop := fnIncreasingUptoRow.holds Try.pinned (OpenSpec.upto fnIncreasingSpec)

/-- 'laws.FnBenes', WHERE WHAT IT READS IS OF BULK AT MOST 1048576: true; the input reads as it did. -/
def fnBenesUptoRow : OpenClaim := { program := "ytmeaipickolhfaa", sum := "a592b51fb74a1e4d6d5f8e24abcca009b57685140455b3a35d4423e121f0507d", func := "loop.example/g00907/laws.FnBenes", spec := "fnBenes", unfollowed := true, recurses := true, apart := false, narrowed := true }
def FnBenesUptoSaid : Prop := fnBenesUptoRow.holds Try.pinned (OpenSpec.upto fnBenesSpec)

/-- 'laws.FnShuffle', WHERE WHAT IT READS IS OF BULK AT MOST 1048576: true; the input reads as it did. -/
def fnShuffleUptoRow : OpenClaim := { program := "ytmeaipickolhfaa", sum := "a592b51fb74a1e4d6d5f8e24abcca009b57685140455b3a35d4423e121f0507d", func := "loop.example/g00907/laws.FnShuffle", spec := "fnShuffle", unfollowed := true, recurses := true, apart := false, narrowed := true }
def FnShuffleUptoSaid : Prop := fnShuffleUptoRow.holds Try.pinned (OpenSpec.upto fnShuffleSpec)

end Rows
end Go.Proofs.Ytmeaipickolhfaa
