/- Contracts of what the laws do to a network that came in: its size, its copy. -/
import Derived.Test.YtifjihpnhmemgaaNet
namespace Go.Proofs.Ytifjihpnhmemgaa
open Go.RowKit
set_option linter.unusedVariables false

/-- what is left of the allowance -/
def szv (n : Nat) (left : Int) : Int := if left - n < 0 then -1 else left - n
/-- valid comparators -/
def cmpOk (W : Int) (c : Int × Int) : Bool := !(c.1 == c.2) && (inB c.1 0 (W - 1) && inB c.2 0 (W - 1))
def netOk (W : Int) (cs : List (Int × Int)) : Bool := inB W 1 16 && (decide (cs.length ≤ 200) && cs.all (cmpOk W))
theorem szv_cases (n : Nat) (left : Int) (h : left ≤ 1048576) (h0 : 0 ≤ left) : (szv n left < 0) ∨ (n ≤ 1048576 ∧ szv n left = left - n ∧ 0 ≤ szv n left) := by
  unfold szv; split <;> omega
end Go.Proofs.Ytifjihpnhmemgaa
