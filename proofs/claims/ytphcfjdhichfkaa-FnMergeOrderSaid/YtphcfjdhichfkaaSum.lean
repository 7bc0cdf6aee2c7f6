/- Sums of lists of integers. -/
import Derived.Test.YtphcfjdhichfkaaCore
import Derived.IntWalk
import Derived.BigQuiet
namespace Go.Proofs.Ytphcfjdhichfkaa
open Go.RowKit
set_option linter.unusedVariables false
/-- a sum as the machine adds -/
def sumW (zs : List Int) : Int := zs.foldl (fun a x => wrap64 (a + x)) 0
theorem sumW_snoc (zs : List Int) (x : Int) : sumW (zs ++ [x]) = wrap64 (sumW zs + x) := by simp [sumW, List.foldl_append]
theorem sumW_succ {zs : List Int} {k : Nat} (h : k < zs.length) : sumW (zs.take (k + 1)) = wrap64 (sumW (zs.take k) + zs[k]) := by rw [List.take_succ_eq_append_getElem h, sumW_snoc]
theorem sum_any (A : Option Addr) (zs : List Int) (c : Nat) (w : World) (hx : Reads w w.heap.size 1 A zs.length (ints zs)) (hl : zs.length ≤ 1048576) :
    Calls Try.prog 66 #[.slice A zs.length c] w fun e w' => e = .returned (.int .i64 (sumW zs)) ∧ w = w' := by
  go_enter Try.func66, Try.ntmps66
  go_wp2_with fail
  go_loop [3, 8] (fun t i => ∃ k : Nat, k ≤ zs.length ∧ i = .int .i64 k ∧ t = .int .i64 (sumW (zs.take k))) (fun _ i => zs.length - (intOf i).toNat)
  case atStart => exact ⟨0, by omega, rfl, rfl⟩
  case round =>
    obtain ⟨k, hk, rfl, rfl⟩ := hrel
    by_cases hlt : k < zs.length
    · obtain ⟨ad, rfl, -, hc⟩ := hx.int hlt
      go_wp2_with fail
      go_round
      case rel => exact ⟨k + 1, by omega, by go_num, by rw [sumW_succ hlt]⟩
      case measure => simp [intOf]; omega
    · go_wp2_with fail
      go_ret
      exact ⟨reti (by rw [List.take_of_length_le (by omega)]), rfl⟩
end Go.Proofs.Ytphcfjdhichfkaa
