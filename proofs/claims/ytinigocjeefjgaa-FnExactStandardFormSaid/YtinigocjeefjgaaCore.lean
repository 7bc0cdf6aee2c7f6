/- Contracts of the small helpers: bounds, 'all', copies and comparisons of integer lists. -/
import Derived.Test.YtinigocjeefjgaaLib
import Derived.Test.YtinigocjeefjgaaProg
import Derived.WalkKit
import Derived.ProofKit
import Derived.WalkSpells
import Derived.WalkLawsBesides
import Derived.Deep.QuietTactic
import Derived.BigQuiet
import Derived.Deep.LoopGhost
import Derived.Deep.Light
import Derived.Handy
namespace Go.Proofs.Ytinigocjeefjgaa
open Go.RowKit
set_option linter.unusedVariables false

theorem in_any (n lo hi : Int) (w : World) :
    Calls Try.prog 36 #[.int .i64 n, .int .i64 lo, .int .i64 hi] w fun e w' => e = .returned (.bool (inB n lo hi)) ∧ w = w' := by
  go_enter Try.func36, Try.ntmps36
  go_wp2
  all_goals
    go_ret
    refine ⟨retb ?_, rfl⟩
    first | exact inB_t (by assumption) | exact inB_f (by assumption)

theorem l1In_any (n lo hi : Int) (w : World) :
    Calls Try.prog 31 #[.int .i64 n, .int .i64 lo, .int .i64 hi] w fun e w' => e = .returned (.bool (inB n lo hi)) ∧ w = w' := by
  go_enter Try.func31, Try.ntmps31
  go_wp2
  all_goals
    go_ret
    refine ⟨retb ?_, rfl⟩
    first | exact inB_t (by assumption) | exact inB_f (by assumption)

set_option maxHeartbeats 400000 in
theorem eqIntS_any (A B : Option Addr) (xs ys : List Int) (c d : Nat) (w : World) (hx : Reads w w.heap.size 1 A xs.length (ints xs)) (hy : Reads w w.heap.size 1 B ys.length (ints ys))
    (hl : xs.length ≤ 1099511627776) (hl' : ys.length ≤ 1099511627776) :
    Calls Try.prog 18 #[.slice A xs.length c, .slice B ys.length d] w fun e w' => e = .returned (.bool (decide (xs = ys))) ∧ ∃ n, w' = w.drewN n := by
  by_cases hne : xs.length = ys.length
  case neg =>
    have hd : ((xs.length : Int) == (ys.length : Int)) = false := by simp; omega
    have hd' : ((xs.length : Int) != (ys.length : Int)) = true := by simp; omega
    go_enter Try.func18, Try.ntmps18
    go_wp2_with fail
    go_ret
    exact ⟨retb (by symm; simp; intro h; exact hne (by rw [h])), 0, rfl⟩
  have hd : ((xs.length : Int) == (ys.length : Int)) = true := by simp; omega
  have hd' : ((xs.length : Int) != (ys.length : Int)) = false := by simp; omega
  have Hne := Lib.hid hne; clear hne
  go_enter Try.func18, Try.ntmps18
  go_wp2_with fail
  go_loopw [5] (fun i wr => ∃ k n : Nat, k ≤ xs.length ∧ i = .int .i64 k ∧ wr = w.drewN n ∧ xs.take k = ys.take k) (fun i _ => xs.length - (intOf i).toNat)
  case atStart => exact ⟨0, 0, by omega, rfl, rfl, by simp⟩
  case round =>
    obtain ⟨k, n, hk, rfl, rfl, heq⟩ := hrel
    have HE := Lib.hid heq; clear heq
    by_cases hlt : k < xs.length
    · have hlt' : k < ys.length := by have := Hne.out; omega
      obtain ⟨ad, rfl, -, hc⟩ := hx.int hlt
      obtain ⟨bd, rfl, -, hc'⟩ := hy.int hlt'
      go_wp2_with fail
      by_cases hv : xs[k] = ys[k]
      · have hb : (xs[k] != ys[k]) = false := by simpa using hv
        have hb' : (xs[k] == ys[k]) = true := by simpa using hv
        have HV := Lib.hid hv; clear hv
        go_quiet (fail)
        go_wp2_with fail
        go_roundw
        case rel => exact ⟨k + 1, n + nq, by omega, by go_num, rfl, take_succ_eq HE.out hlt hlt' HV.out⟩
        case measure => simp [intOf]; omega
      · have hb : (xs[k] != ys[k]) = true := by simpa using hv
        have hb' : (xs[k] == ys[k]) = false := by simpa using hv
        have HV := Lib.hid hv; clear hv
        go_quiet (fail)
        go_wp2_with fail
        go_ret
        exact ⟨retb (by symm; simp only [decide_eq_false_iff_not]; intro h; exact HV.out (by simp [h])), _, by rw [World.drewN_drewN]⟩
    · go_wp2_with fail
      go_ret
      refine ⟨retb (by symm; simp only [decide_eq_true_eq]; have h := HE.out; have hk' := Hne.out; rwa [List.take_of_length_le (by omega), List.take_of_length_le (by omega)] at h), n, rfl⟩

end Go.Proofs.Ytinigocjeefjgaa
