/-
  No cell of these rows narrows 'for every input' (looked for: loops, veiled, ifaces, maps, wideKeys, modest, calm, conditions, laid).
  DERIVED. THE GIVEN ROWS OF THIS SEAT. 3 by the template 'for every input the law returns true; each argument reads behind the call as it read before'; 0 by the template 'total and deterministic' (their statements: YtfpojoabfdiadaaTotals.lean).
  GIVEN WITH THE SEED: the statements are not yours to turn. If you find one false, say at which input.
  Laid BY PROGRAM, IN A SANDBOX (cutbox-rows.mjs): the forced cells as the released guide's own fill.sh prints them over the translation cb74c85359c31a52… (all of the seat's roots in one cut). By AI agents, Wed Nov 11 2026. No macro, syntax, notation, axiom, sorry.
-/
import Derived.Test.YtfpojoabfdiadaaChecked
import GoSem.Claim
import GoSem.ClaimJoined
import GoSem.ClaimMapViews
import Derived.JoinedTies
import Derived.KernelRfl
namespace Go.Proofs.Ytfpojoabfdiadaa
/- THE CELL 'sum', in the pinned program and in every row, IS THE sha256 OF THE DUMP (.gsa) THAT YtfpojoabfdiadaaProg.lean LOADS. Nothing in Lean hashes anything: it is a label: what it is worth is what the hold of that sum in a sandbox is worth. -/
noncomputable def Try.pinned : Pinned := { name := "ytfpojoabfdiadaa", sum := "cb74c85359c31a52d1f91215fa0a446b264f148732a0bf5e577d2143a50be9fd", checked := Try.checked }
namespace Rows
def none {H : Type} : Left H := { results := [], args := [] }

/-- 'laws.FnExactObliviousShuffle': WHATEVER THE INPUT: true; the input reads as it did. -/
def fnExactObliviousShuffleSpec : ChangeSpec := { name := "fnExactObliviousShuffle", fn := fun _ => fun
  | [d1, d2] => { results := [.lit (.bool true)], args := [d1, d2] }
  | _ => none }
def fnExactObliviousShuffleRow : OpenClaim := { program := "ytfpojoabfdiadaa", sum := "cb74c85359c31a52d1f91215fa0a446b264f148732a0bf5e577d2143a50be9fd", func := "loop.example/g00907/laws.FnExactObliviousShuffle", spec := "fnExactObliviousShuffle", unfollowed := true, recurses := true, apart := false }
def FnExactObliviousShuffleSaid : Prop := fnExactObliviousShuffleRow.holds Try.pinned (OpenSpec.ofChange fnExactObliviousShuffleSpec)

/-- ITS FALSE NEIGHBOUR: 'it returns false'. Refute it at one input. -/
def fnExactObliviousShuffleWrong : ChangeSpec := { name := "fnExactObliviousShuffle", fn := fun _ => fun
  | [d1, d2] => { results := [.lit (.bool false)], args := [d1, d2] }
  | _ => none }
def FnExactObliviousShuffleWrongFalsely : Prop := fnExactObliviousShuffleRow.holds Try.pinned (OpenSpec.ofChange fnExactObliviousShuffleWrong)

/-- 'laws.FnShuffle': WHATEVER THE INPUT: true; the input reads as it did. -/
def fnShuffleSpec : ChangeSpec := { name := "fnShuffle", fn := fun _ => fun
  | [d] => { results := [.lit (.bool true)], args := [d] }
  | _ => none }
def fnShuffleRow : OpenClaim := { program := "ytfpojoabfdiadaa", sum := "cb74c85359c31a52d1f91215fa0a446b264f148732a0bf5e577d2143a50be9fd", func := "loop.example/g00907/laws.FnShuffle", spec := "fnShuffle", unfollowed := true, recurses := true, apart := false }
def FnShuffleSaid : Prop := fnShuffleRow.holds Try.pinned (OpenSpec.ofChange fnShuffleSpec)

/-- ITS FALSE NEIGHBOUR: 'it returns false'. Refute it at one input. -/
def fnShuffleWrong : ChangeSpec := { name := "fnShuffle", fn := fun _ => fun
  | [d] => { results := [.lit (.bool false)], args := [d] }
  | _ => none }
def FnShuffleWrongFalsely : Prop := fnShuffleRow.holds Try.pinned (OpenSpec.ofChange fnShuffleWrong)

/-- 'laws.FnIncreasing': WHATEVER THE INPUT: true; the input reads as it did. -/
def fnIncreasingSpec : ChangeSpec := { name := "fnIncreasing", fn := fun _ => fun
  | [d] => { results := [.lit (.bool true)], args := [d] }
  | _ => none }
def fnIncreasingRow : OpenClaim := { program := "ytfpojoabfdiadaa", sum := "cb74c85359c31a52d1f91215fa0a446b264f148732a0bf5e577d2143a50be9fd", func := "loop.example/g00907/laws.FnIncreasing", spec := "fnIncreasing", unfollowed := true, recurses := true, apart := false }
def FnIncreasingSaid : Prop := fnIncreasingRow.holds Try.pinned (OpenSpec.ofChange fnIncreasingSpec)

/-- ITS FALSE NEIGHBOUR: 'it returns false'. Refute it at one input. -/
def fnIncreasingWrong : ChangeSpec := { name := "fnIncreasing", fn := fun _ => fun
  | [d] => { results := [.lit (.bool false)], args := [d] }
  | _ => none }
def FnIncreasingWrongFalsely : Prop := fnIncreasingRow.holds Try.pinned (OpenSpec.ofChange fnIncreasingWrong)

/- THE SECOND FORM. 'bulk': how many values and letters a reading holds, each counted each time it is reached (what is shared counts as often as it is met; a slice's spare places count too). A statement '..UptoSaid' is the law's where the arguments, and the package variables that the reading takes, are together of bulk at most 1048576: NARROWER than '..Said'. Prove '..Said' where nothing that the law and all that it calls make is longer than what came in: it says more and counts as full. Else prove '..UptoSaid'. A law counts once. -/
mutual
def uptoBulk {H : Type} : DataW H → Nat
  | .lit (.string bytes) => bytes.length + 1
  | .lit _ => 1
  | .nil => 1
  | .ptr d => uptoBulk d + 1
  | .slice elems spare => uptoBulkAll elems + uptoBulkAll spare + 1
  | .agg parts => uptoBulkAll parts + 1
  | .iface _ d => uptoBulk d + 1
  | .map entries => uptoBulkEntries entries + 1
  | .held _ => 1
def uptoBulkAll {H : Type} : List (DataW H) → Nat
  | [] => 0
  | d :: r => uptoBulk d + uptoBulkAll r
def uptoBulkEntries {H : Type} : List (Lit × DataW H) → Nat
  | [] => 0
  | x :: r => uptoBulkEntry x + uptoBulkEntries r
def uptoBulkEntry {H : Type} : Lit × DataW H → Nat
  | (.string bytes, d) => bytes.length + uptoBulk d + 1
  | (_, d) => uptoBulk d + 1
 end
def uptoSmall : (H : Type) → List (DataW H) → Bool := fun _ ds => decide (uptoBulkAll ds ≤ 1048576)
def OpenSpec.upto (s : _root_.Go.ChangeSpec) : _root_.Go.OpenSpec := { _root_.Go.OpenSpec.ofChange s with cond := some uptoSmall }

/-- 'laws.FnExactObliviousShuffle', WHERE WHAT IT READS IS OF BULK AT MOST 1048576: true; the input reads as it did. -/
def fnExactObliviousShuffleUptoRow : OpenClaim := { program := "ytfpojoabfdiadaa", sum := "cb74c85359c31a52d1f91215fa0a446b264f148732a0bf5e577d2143a50be9fd", func := "loop.example/g00907/laws.FnExactObliviousShuffle", spec := "fnExactObliviousShuffle", unfollowed := true, recurses := true, apart := false, narrowed := true }
def FnExactObliviousShuffleUptoSaid : Prop := fnExactObliviousShuffleUptoRow.holds Try.pinned (OpenSpec.upto fnExactObliviousShuffleSpec)

/-- 'laws.FnShuffle', WHERE WHAT IT READS IS OF BULK AT MOST 1048576: true; the input reads as it did. -/
def fnShuffleUptoRow : OpenClaim := { program := "ytfpojoabfdiadaa", sum := "cb74c85359c31a52d1f91215fa0a446b264f148732a0bf5e577d2143a50be9fd", func := "loop.example/g00907/laws.FnShuffle", spec := "fnShuffle", unfollowed := true, recurses := true, apart := false, narrowed := true }
def FnShuffleUptoSaid : Prop := fnShuffleUptoRow.holds Try.pinned (OpenSpec.upto fnShuffleSpec)

/-- 'laws.FnIncreasing', WHERE WHAT IT READS IS OF BULK AT MOST 1048576: true; the input reads as it did. -/
def fnIncreasingUptoRow : OpenClaim := { program := "ytfpojoabfdiadaa", sum := "cb74c85359c31a52d1f91215fa0a446b264f148732a0bf5e577d2143a50be9fd", func := "loop.example/g00907/laws.FnIncreasing", spec := "fnIncreasing", unfollowed := true, recurses := true, apart := false, narrowed := true }
def FnIncreasingUptoSaid : Prop := fnIncreasingUptoRow.holds Try.pinned (OpenSpec.upto fnIncreasingSpec)

end Rows
end Go.Proofs.Ytfpojoabfdiadaa
