/- Lists of lists of integers as arguments: counted and copied. Two lists of integers compared. -/
import Derived.Test.YtifjihpnhmemgaaNestL
import Derived.IntWalk
import Derived.Deep.QuietTactic
import Derived.BigQuiet
namespace Go.Proofs.Ytifjihpnhmemgaa
open Go.RowKit
set_option linter.unusedVariables false
/-- what is left behind n -/
def szw (n : Nat) (left : Int) : Int := if 0 ≤ left - n then left - n else -1
theorem szw_cases (n : Nat) (left : Int) (h0 : 0 ≤ left) (h1 : left ≤ 1048576) : szw n left < 0 ∨ n ≤ 1048576 ∧ szw n left = left - n ∧ 0 ≤ szw n left := by
  unfold szw
  by_cases h : 0 ≤ left - n
  · rw [if_pos h]; omega
  · rw [if_neg h]; omega
end Go.Proofs.Ytifjihpnhmemgaa
