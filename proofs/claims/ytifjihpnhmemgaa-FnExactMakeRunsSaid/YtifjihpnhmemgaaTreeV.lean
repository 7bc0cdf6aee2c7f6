/- IsValidTree, the program's side. -/
import Derived.Test.YtifjihpnhmemgaaTreeSz
import Derived.Test.YtifjihpnhmemgaaTreeB
namespace Go.Proofs.Ytifjihpnhmemgaa
open Go.RowKit
set_option linter.unusedVariables false
/-- one leaf is valid -/
def nodeOk (x : Int) (d : Bool) : Bool := keyB x && !(d && x != 0)
def itOk (ks : List Int) (ds : List Bool) (ls : List Int) (W : Int) : Bool :=
  (((inB ks.length 1 16 && decide (ds.length = ks.length)) && decide (ls.length = ks.length)) && ((List.range ks.length).all fun i => nodeOk (ks[i]?.getD 0) (ds[i]?.getD false))) &&
    (decide (loserI ks ds = ls) && decide (((winnerV ks ds : Nat) : Int) = W))
theorem range_all_succ {p : Nat → Bool} {k : Nat} (h : (List.range k).all p = true) (hp : p k = true) : (List.range (k + 1)).all p = true := by
  rw [List.range_succ, List.all_append, h]; simp [hp]
theorem range_all_hit {p : Nat → Bool} {k n : Nat} (hk : k < n) (hp : p k = false) : (List.range n).all p = false := by
  rw [List.all_eq_false]; exact ⟨k, List.mem_range.2 hk, by simp [hp]⟩
end Go.Proofs.Ytifjihpnhmemgaa
