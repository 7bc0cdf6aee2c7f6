/- Lists of lists of integers as arguments: counted and copied. Two lists of integers compared. -/
import Derived.Test.YtecbagdljgnloaaNestL
import Derived.IntWalk
import Derived.Deep.QuietTactic
import Derived.BigQuiet
namespace Go.Proofs.Ytecbagdljgnloaa
open Go.RowKit
set_option linter.unusedVariables false
set_option maxHeartbeats 400000 in
theorem sEqual_any (A B : Option Addr) (xs ys : List Int) (c d : Nat) (w : World) (hx : Reads w w.heap.size 1 A xs.length (ints xs)) (hy : Reads w w.heap.size 1 B ys.length (ints ys))
    (hl : xs.length ≤ 1099511627776) (hl' : ys.length ≤ 1099511627776) :
    Calls Try.prog 38 #[.slice A xs.length c, .slice B ys.length d] w fun e w' => e = .returned (.bool (decide (xs = ys))) ∧ ∃ n, w' = w.drewN n := by
  by_cases hne : xs.length = ys.length
  case neg =>
    have hd : ((xs.length : Int) == (ys.length : Int)) = false := by simp; omega
    have hd' : ((xs.length : Int) != (ys.length : Int)) = true := by simp; omega
    go_enter Try.func38, Try.ntmps38
    go_wp2_with fail
    go_ret
    exact ⟨retb (by symm; simp; intro h; exact hne (by rw [h])), 0, rfl⟩
  have hd : ((xs.length : Int) == (ys.length : Int)) = true := by simp; omega
  have hd' : ((xs.length : Int) != (ys.length : Int)) = false := by simp; omega
  have Hne := Lib.hid hne; clear hne
  go_enter Try.func38, Try.ntmps38
  go_wp2_with fail
  go_loopw [13] (fun i wr => ∃ k n : Nat, k ≤ xs.length ∧ i = .int .i64 k ∧ wr = w.drewN n ∧ xs.take k = ys.take k) (fun i _ => xs.length - (intOf i).toNat)
  case atStart => exact ⟨0, 0, by omega, rfl, rfl, by simp⟩
  case round =>
    obtain ⟨k, n, hk, rfl, rfl, heq⟩ := hrel
    have HE := Lib.hid heq; clear heq
    by_cases hlt : k < xs.length
    · have hlt' : k < ys.length := by have := Hne.out; omega
      obtain ⟨ad, rfl, -, hc⟩ := hx.int hlt
      obtain ⟨bd, rfl, -, hc'⟩ := hy.int hlt'
      go_wp2_with fail
      by_cases hv : xs[k] = ys[k]
      · have hb : (xs[k] != ys[k]) = false := by simpa using hv
        have hb' : (xs[k] == ys[k]) = true := by simpa using hv
        have HV := Lib.hid hv; clear hv
        go_quiet (fail)
        go_wp2_with fail
        go_roundw
        case rel => exact ⟨k + 1, n + nq, by omega, by go_num, rfl, take_succ_eq HE.out hlt hlt' HV.out⟩
        case measure => simp [intOf]; omega
      · have hb : (xs[k] != ys[k]) = true := by simpa using hv
        have hb' : (xs[k] == ys[k]) = false := by simpa using hv
        have HV := Lib.hid hv; clear hv
        go_quiet (fail)
        go_wp2_with fail
        go_ret
        exact ⟨retb (by symm; simp only [decide_eq_false_iff_not]; intro h; exact HV.out (by simp [h])), _, by rw [World.drewN_drewN]⟩
    · go_wp2_with fail
      go_ret
      refine ⟨retb (by symm; simp only [decide_eq_true_eq]; have h := HE.out; have hk' := Hne.out; rwa [List.take_of_length_le (by omega), List.take_of_length_le (by omega)] at h), n, rfl⟩

/-- what is left behind n -/
def szw (n : Nat) (left : Int) : Int := if 0 ≤ left - n then left - n else -1
theorem szw_cases (n : Nat) (left : Int) (h0 : 0 ≤ left) (h1 : left ≤ 1048576) : szw n left < 0 ∨ n ≤ 1048576 ∧ szw n left = left - n ∧ 0 ≤ szw n left := by
  unfold szw
  by_cases h : 0 ≤ left - n
  · rw [if_pos h]; omega
  · rw [if_neg h]; omega
end Go.Proofs.Ytecbagdljgnloaa
