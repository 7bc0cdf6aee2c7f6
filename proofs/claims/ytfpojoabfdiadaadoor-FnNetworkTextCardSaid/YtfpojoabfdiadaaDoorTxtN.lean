/- Texts of numbers: the program's and the reference's. -/
import Derived.Test.YtfpojoabfdiadaaDoorTxtM
import Derived.Test.YtfpojoabfdiadaaDoorShelf
namespace Go.Proofs.YtfpojoabfdiadaaDoor
open Go.RowKit
set_option linter.unusedVariables false
theorem Itoa_at (n : Int) (h0 : 0 ≤ n) (h1 : n < 100) (w : World) : Calls Tryd.prog 24 #[.int .i64 n] w fun e w' => e = .returned (.string (bs (num n))) ∧ w' = w := by
  obtain ⟨k, rfl⟩ := Int.eq_ofNat_of_zero_le h0
  rw [num_nat]
  exact Tryd.strconv_Itoa_small k (by omega) w
theorem dig_at (n : Nat) (h : n < 10) : (⟨#[48, 49, 50, 51, 52, 53, 54, 55, 56, 57]⟩ : ByteArray).extract n (n + 1) = bs [48 + UInt8.ofNat n] := by
  have := (show ∀ k : Fin 10, (⟨#[48, 49, 50, 51, 52, 53, 54, 55, 56, 57]⟩ : ByteArray).extract k.val (k.val + 1) = bs [48 + UInt8.ofNat k.val] from by decide +kernel) ⟨n, h⟩
  exact this
set_option maxRecDepth 100000 in
set_option maxHeartbeats 800000 in
theorem l1Num_nat : ∀ (n : Nat), n < 1000000000000000000 → ∀ w : World, Calls Tryd.prog 38 #[.int .i64 n] w fun e w' => e = .returned (.string (bs (num n))) ∧ ∃ k, w' = w.drewN k := by
  intro n
  induction n using Nat.strongRecOn with
  | _ n ih =>
  intro hn w
  have c0 : ¬ (n : Int) < 0 := by omega
  by_cases h : n < 10
  · have c1 : (n : Int) < 10 := by omega
    have c2 : (0 : Int) ≤ n := by omega
    have c3 : (n : Int) ≤ (n : Int) + 1 := by omega
    have c4 : (n : Int) + 1 ≤ 10 := by omega
    have e1 : num (n : Int) = [UInt8.ofNat (48 + n)] := by rw [num_nat, Lib.decDigits_one h]
    go_enter Tryd.func38, Tryd.ntmps38
    go_wp2_with fail
    go_ret
    refine ⟨?_, 0, rfl⟩
    rw [show (⟨#[48, 49, 50, 51, 52, 53, 54, 55, 56, 57]⟩ : ByteArray).extract n (n + 1) = bs [48 + UInt8.ofNat n] from dig_at n h]
    rfl
  · have IH := ih (n / 10) (by omega) (by omega)
    rw [show ((n / 10 : Nat) : Int) = (n : Int) / 10 by omega] at IH
    have IH := Lib.hid IH
    have e1 : num (n : Int) = num ((n : Int) / 10) ++ [UInt8.ofNat (48 + n % 10)] := by
      rw [show (n : Int) / 10 = ((n / 10 : Nat) : Int) by omega, num_nat, num_nat, Lib.decDigits, dif_neg h]
    have e2 : (n : Int).tmod 10 = ((n % 10 : Nat) : Int) := by rw [Int.tmod_eq_emod_of_nonneg (by omega)]; omega
    have e3 : (bs (num ((n : Int) / 10))).size ≤ 100 := by
      rw [bs_size]
      exact Nat.le_trans (Lib.itoa_length_le _ (by omega) (by omega)) (by omega)
    have c1 : ¬ (n : Int) < 10 := by omega
    have hm := Nat.mod_lt n (show 0 < 10 by decide)
    generalize n % 10 = r at *
    have c2 : (0 : Int) ≤ r := by omega
    have c3 : (r : Int) ≤ (r : Int) + 1 := by omega
    have c4 : (r : Int) + 1 ≤ 10 := by omega
    have HE := Lib.hid e1
    clear e1
    go_enter Tryd.func38, Tryd.ntmps38
    go_wp2_with fail
    go_quiet ((go_at_call 38; refine Calls.quiet_of (IH.out _)))
    go_wp2_with fail
    go_ret
    refine ⟨?_, nq, rfl⟩
    rw [HE.out, ← bs_app, dig_at r hm, show UInt8.ofNat (48 + r) = 48 + UInt8.ofNat r from by simp]
    rfl
theorem l1Num_any (n : Int) (h0 : -1000000000 ≤ n) (h1 : n ≤ 1000000000) (w : World) : Calls Tryd.prog 38 #[.int .i64 n] w fun e w' => e = .returned (.string (bs (num n))) ∧ ∃ k, w' = w.drewN k := by
  by_cases h : 0 ≤ n
  · obtain ⟨k, rfl⟩ := Int.eq_ofNat_of_zero_le h
    exact l1Num_nat k (by omega) w
  · obtain ⟨k, hk⟩ := Int.eq_ofNat_of_zero_le (show 0 ≤ -n by omega)
    obtain rfl : n = -(k : Int) := by omega
    have IH := l1Num_nat k (by omega) w
    have e1 : num (-(k : Int)) = 45 :: num (k : Int) := by
      rw [num_nat]
      exact Lib.itoa_neg k (by omega)
    have e3 : (bs (num (k : Int))).size ≤ 100 := by
      rw [bs_size]
      exact Nat.le_trans (Lib.itoa_length_le _ (by omega) (by omega)) (by omega)
    have c0 : -(k : Int) < 0 := by omega
    have c1 : - -(k : Int) = k := by omega
    have HE := Lib.hid e1
    clear e1
    have IH := Lib.hid IH
    go_enter Tryd.func38, Tryd.ntmps38
    go_wp2_with (go_at_call 38; refine IH.out.mono ?_; rintro e w1 ⟨rfl, k1, rfl⟩)
    go_ret
    refine ⟨?_, k1, rfl⟩
    rw [HE.out, show (45 :: num (k : Int)) = [45] ++ num (k : Int) from rfl, ← bs_app]
    rfl
end Go.Proofs.YtfpojoabfdiadaaDoor
