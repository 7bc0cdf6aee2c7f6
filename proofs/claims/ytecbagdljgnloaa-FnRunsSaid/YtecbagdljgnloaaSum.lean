/- Sums of lists of integers. -/
import Derived.Test.YtecbagdljgnloaaCore
import Derived.IntWalk
import Derived.BigQuiet
namespace Go.Proofs.Ytecbagdljgnloaa
open Go.RowKit
set_option linter.unusedVariables false
/-- a sum as the machine adds -/
def sumW (zs : List Int) : Int := zs.foldl (fun a x => wrap64 (a + x)) 0
theorem sumW_snoc (zs : List Int) (x : Int) : sumW (zs ++ [x]) = wrap64 (sumW zs + x) := by simp [sumW, List.foldl_append]
theorem sumW_succ {zs : List Int} {k : Nat} (h : k < zs.length) : sumW (zs.take (k + 1)) = wrap64 (sumW (zs.take k) + zs[k]) := by rw [List.take_succ_eq_append_getElem h, sumW_snoc]
end Go.Proofs.Ytecbagdljgnloaa
