/- The helpers of the laws: traces and networks compared. -/
import Derived.Test.YtphcfjdhichfkaaVL
import Derived.Test.YtphcfjdhichfkaaCmp
import Derived.Laws.StructEq
namespace Go.Proofs.Ytphcfjdhichfkaa
open Go.RowKit
set_option linter.unusedVariables false
theorem neq_cmp (a b : Int × Int) (w : World) : (binOp .neq 37 (.agg #[.int .i64 a.1, .int .i64 a.2]) (.agg #[.int .i64 b.1, .int .i64 b.2])).run Try.prog w = .ok (.bool (!decide (a = b))) w := by
  have u3 := Try.underlying3
  have a3 := Try.isAgg3
  have z3 := Try.sizeOf3
  have hS : Try.prog.underlying 37 = some (.struct (Try.prog.fieldsOf 37)) := by kernel_rfl
  have hp : Try.prog.stoodInHeld 37 = false := by kernel_rfl
  rw [run_neq_struct, show (10000 : Nat) = 9999 + 1 from rfl, run_equalIn_agg w 9999 37 _ _ hS hp]
  simp only [Program.fieldsOf, Try.underlying37]
  go_simp
  by_cases h1 : a.1 = b.1 <;> by_cases h2 : a.2 = b.2 <;> simp [h1, h2, Prod.ext_iff]
theorem guard_cmp (x y : Operand) (a b : Int × Int) (w : World) : (eqGuard .neq 37 x y (.agg #[.int .i64 a.1, .int .i64 a.2]) (.agg #[.int .i64 b.1, .int .i64 b.2])).run Try.prog w = .ok () w := run_eqGuard_agg w _ _ _ _ _ _ (by kernel_rfl)
set_option maxHeartbeats 800000 in
theorem rTrace_any (A B : Option Addr) (xs ys : List (Int × Int)) (c d : Nat) (w : World) (hx : Reads w w.heap.size 2 A xs.length (cmps xs)) (hy : Reads w w.heap.size 2 B ys.length (cmps ys))
    (hl : xs.length ≤ 1099511627776) (hl' : ys.length ≤ 1099511627776) :
    Calls Try.prog 14 #[.slice A xs.length c, .slice B ys.length d] w fun e w' => e = .returned (.bool (decide (xs = ys))) ∧ ∃ n, w' = w.drewN n := by
  by_cases hne : xs.length = ys.length
  case neg =>
    have hd : ((xs.length : Int) == (ys.length : Int)) = false := by simp; omega
    have hd' : ((xs.length : Int) != (ys.length : Int)) = true := by simp; omega
    go_enter Try.func14, Try.ntmps14
    go_wp2_with fail
    go_ret
    exact ⟨retb (by symm; simp; intro h; exact hne (by rw [h])), 0, rfl⟩
  have hd : ((xs.length : Int) == (ys.length : Int)) = true := by simp; omega
  have hd' : ((xs.length : Int) != (ys.length : Int)) = false := by simp; omega
  have Hne := Lib.hid hne; clear hne
  go_enter Try.func14, Try.ntmps14
  go_wp2_with fail
  go_loopw [5] (fun i wr => ∃ k n : Nat, k ≤ xs.length ∧ i = .int .i64 k ∧ wr = w.drewN n ∧ xs.take k = ys.take k) (fun i _ => xs.length - (intOf i).toNat)
  case atStart => exact ⟨0, 0, by omega, rfl, rfl, by simp⟩
  case round =>
    obtain ⟨k, n, hk, rfl, rfl, heq⟩ := hrel
    have HE := Lib.hid heq; clear heq
    by_cases hlt : k < xs.length
    · have hlt' : k < ys.length := by have := Hne.out; omega
      obtain ⟨ad, rfl, -, hc0, hc1⟩ := hx.cmp hlt
      obtain ⟨bd, rfl, -, hd0, hd1⟩ := hy.cmp hlt'
      have hq := neq_cmp xs[k] ys[k]
      have hg := fun x y => guard_cmp x y xs[k] ys[k]
      go_wp2_with fail
      by_cases hv : xs[k] = ys[k]
      · rw [show decide (xs[k] = ys[k]) = true by simpa using hv] at hq
        have HV := Lib.hid hv; clear hv
        go_quiet (fail)
        go_wp2_with fail
        go_roundw
        case rel => exact ⟨k + 1, n + nq, by omega, by go_num, rfl, take_succ_eq HE.out hlt hlt' HV.out⟩
        case measure => simp [intOf]; omega
      · rw [show decide (xs[k] = ys[k]) = false by simpa using hv] at hq
        have HV := Lib.hid hv; clear hv
        go_quiet (fail)
        go_wp2_with fail
        go_ret
        exact ⟨retb (by symm; simp only [decide_eq_false_iff_not]; intro h; exact HV.out (by simp [h])), _, by rw [World.drewN_drewN]⟩
    · go_wp2_with fail
      go_ret
      refine ⟨retb (by symm; simp only [decide_eq_true_eq]; have h := HE.out; have hk' := Hne.out; rwa [List.take_of_length_le (by omega), List.take_of_length_le (by omega)] at h), n, rfl⟩
end Go.Proofs.Ytphcfjdhichfkaa
