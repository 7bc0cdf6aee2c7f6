/- Contracts of the functions on plain numbers, and of ScanSelect. -/
import Derived.Test.YtmeaipickolhfaaCore
namespace Go.Proofs.Ytmeaipickolhfaa
open Go.RowKit
set_option linter.unusedVariables false

theorem ret2_eq {a b : Int} {x y : Bool} (h : a = b) (h' : x = y) : Ending.returned (.tuple #[.int .i64 a, .bool x]) = .returned (.tuple #[.int .i64 b, .bool y]) := by rw [h, h']

def blocksOk (c b : Int) : Bool := inB c 0 100000 && inB b 1 100000
def blocksV (c b : Int) : Int := if blocksOk c b then (c + b - 1) / b else 0

/-- the size of a Benes network of n elements, or 0 -/
def szf : Nat → Int → Int
  | 0, _ => 0
  | f + 1, n => if n = 2 then 1 else if n < 4 ∨ 64 < n ∨ n % 2 = 1 ∨ szf f (n / 2) = 0 then 0 else n + 2 * szf f (n / 2)
def benesV (n : Int) : Int := szf 7 n
theorem szf_bd (f : Nat) (n : Int) : 0 ≤ szf f n ∧ szf f n ≤ 64 * 2 ^ f - 64 := by
  induction f generalizing n with
  | zero => simp [szf]
  | succ f ih =>
    have := ih (n / 2)
    have h2 : (1 : Int) ≤ 2 ^ f := by exact_mod_cast Nat.one_le_two_pow
    have h3 : (2 : Int) ^ (f + 1) = 2 * 2 ^ f := by rw [Int.pow_succ]; omega
    rw [h3]
    unfold szf
    split
    · omega
    · split <;> omega
theorem szf_bd7 (f : Nat) (hf : f ≤ 7) (n : Int) : 0 ≤ szf f n ∧ szf f n ≤ 10000 := by
  have h := szf_bd f n
  have h3 : (2 : Int) ^ f ≤ 2 ^ 7 := by exact_mod_cast Nat.pow_le_pow_right (by omega) hf
  omega
theorem l14Size_any (f : Nat) : f ≤ 7 → ∀ (n : Int) (w : World), -9223372036854775808 ≤ n → n ≤ 9223372036854775807 → (64 < n ∨ n < 2 * 2 ^ f) →
    Calls Try.prog 32 #[.int .i64 n] w fun e w' => e = .returned (.int .i64 (szf f n)) ∧ w = w' := by
  induction f with
  | zero =>
    intro hf n w h0 h1 h2
    have hn : ¬ n = 2 := by omega
    have hn4 : n < 4 ∨ 64 < n := by omega
    have hn2 : (n == 2) = false := by simpa using hn
    rcases hn4 with h4 | h4
    · go_enter Try.func32, Try.ntmps32
      go_wp2_with fail
      go_ret
      exact ⟨rfl, rfl⟩
    · have h5 : ¬ n < 4 := by omega
      go_enter Try.func32, Try.ntmps32
      go_wp2_with fail
      go_ret
      exact ⟨rfl, rfl⟩
  | succ f ih =>
    intro hf n w h0 h1 h2
    have IH := Lib.hid (ih (by omega)); clear ih
    by_cases c1 : n = 2
    · subst c1
      go_enter Try.func32, Try.ntmps32
      go_wp2_with fail
      go_ret
      exact ⟨by simp [szf], rfl⟩
    have hn2 : (n == 2) = false := by simpa using c1
    by_cases c2 : n < 4
    · have e : szf (f + 1) n = 0 := by simp [szf, c1, c2]
      have E := Lib.hid e; clear e
      go_enter Try.func32, Try.ntmps32
      go_wp2_with fail
      go_ret
      exact ⟨reti E.out.symm, rfl⟩
    by_cases c3 : 64 < n
    · have e : szf (f + 1) n = 0 := by simp [szf, c1, c3]
      have E := Lib.hid e; clear e
      go_enter Try.func32, Try.ntmps32
      go_wp2_with fail
      go_ret
      exact ⟨reti E.out.symm, rfl⟩
    by_cases c4 : n % 2 = 1
    · have e : szf (f + 1) n = 0 := by simp [szf, c1, c4]
      have E := Lib.hid e; clear e
      have hc4 : (n % 2 == 1) = true := by simpa using c4
      have C4 := Lib.hid c4; clear c4
      go_enter Try.func32, Try.ntmps32
      go_wp2_with fail
      go_ret
      exact ⟨reti E.out.symm, rfl⟩
    have hc4 : (n % 2 == 1) = false := by simpa using c4
    have h3 : (2 : Int) ^ (f + 1) = 2 * 2 ^ f := by rw [Int.pow_succ]; omega
    have hq : 64 < n / 2 ∨ n / 2 < 2 * 2 ^ f := by omega
    have bd := szf_bd7 f (by omega) (n / 2)
    clear h3 h2
    by_cases c5 : szf f (n / 2) = 0
    · have e : szf (f + 1) n = 0 := by simp [szf, c1, c5]
      have E := Lib.hid e; clear e
      have C5 := Lib.hid c5; clear c5
      go_enter Try.func32, Try.ntmps32
      go_wp2_with (go_at_call 32; refine (IH.out (n / 2) _ (by omega) (by omega) hq).mono ?_; rintro e w' ⟨rfl, rfl⟩; rw [C5.out])
      go_ret
      exact ⟨reti E.out.symm, rfl⟩
    · have e : szf (f + 1) n = n + 2 * szf f (n / 2) := by rw [szf, if_neg c1, if_neg (by omega)]
      have E := Lib.hid e; clear e
      have hc5 : (szf f (n / 2) == 0) = false := by simpa using c5
      clear c5
      go_enter Try.func32, Try.ntmps32
      go_wp2_with (go_at_call 32; refine (IH.out (n / 2) _ (by omega) (by omega) hq).mono ?_; rintro e w' ⟨rfl, rfl⟩)
      go_ret
      exact ⟨reti E.out.symm, rfl⟩
theorem pow_law : ∀ k : Fin 63, (bits BinOp.and IntKind.i64 ((k.val : Int) + 2) ((k.val : Int) + 2 - 1) == 0) = decide (0 < benesV ((k.val : Int) + 2)) := by decide +kernel
theorem pow_at (n : Int) (h0 : 2 ≤ n) (h1 : n ≤ 64) : (bits BinOp.and IntKind.i64 n (n - 1) == 0) = decide (0 < benesV n) := by
  have h := pow_law ⟨(n - 2).toNat, by omega⟩
  have e : (((n - 2).toNat : Nat) : Int) + 2 = n := by omega
  rwa [e] at h
theorem isPower_any (n : Int) (w : World) (h0 : 2 ≤ n) (h1 : n ≤ 64) :
    Calls Try.prog 48 #[.int .i64 n] w fun e w' => e = .returned (.bool (decide (0 < benesV n))) ∧ w = w' := by
  go_enter Try.func48, Try.ntmps48
  go_wp2_with fail
  go_ret
  exact ⟨retb (pow_at n h0 h1), rfl⟩
theorem benesSize_any (f : Nat) : f ≤ 7 → ∀ (n : Int) (w : World), 0 < szf f n →
    Calls Try.prog 49 #[.int .i64 n] w fun e w' => e = .returned (.int .i64 (szf f n)) ∧ w = w' := by
  induction f with
  | zero => intro _ n w h; simp [szf] at h
  | succ f ih =>
    intro hf n w h
    have IH := Lib.hid (ih (by omega)); clear ih
    by_cases c1 : n = 2
    · subst c1
      go_enter Try.func49, Try.ntmps49
      go_wp2_with fail
      go_ret
      exact ⟨by simp [szf], rfl⟩
    have hn2 : (n == 2) = false := by simpa using c1
    have c2 : ¬ (n < 4 ∨ 64 < n ∨ n % 2 = 1 ∨ szf f (n / 2) = 0) := by
      intro c; rw [szf, if_neg c1, if_pos c] at h; omega
    have bd := szf_bd7 f (by omega) (n / 2)
    have hp : 0 < szf f (n / 2) := by omega
    have g1 : 4 ≤ n := by omega
    have g2 : n ≤ 64 := by omega
    have e : szf (f + 1) n = n + 2 * szf f (n / 2) := by rw [szf, if_neg c1, if_neg c2]
    have E := Lib.hid e; clear e c2 h
    go_enter Try.func49, Try.ntmps49
    go_wp2_with (go_at_call 49; refine (IH.out (n / 2) _ hp).mono ?_; rintro e w' ⟨rfl, rfl⟩)
    go_ret
    exact ⟨reti E.out.symm, rfl⟩
theorem benesV_out (n : Int) (h : n < 2 ∨ 64 < n) : benesV n = 0 := by
  have : ¬ n = 2 := by omega
  rw [benesV, szf, if_neg this, if_pos (by omega)]
theorem BenesSize_any (n : Int) (w : World) (h0 : -9223372036854775808 ≤ n) (h1 : n ≤ 9223372036854775807) :
    Calls Try.prog 28 #[.int .i64 n] w fun e w' => e = .returned (.tuple #[.int .i64 (benesV n), .bool (decide (0 < benesV n))]) ∧ w = w' := by
  by_cases c1 : n < 2
  · have e := Lib.hid (benesV_out n (by omega))
    go_enter Try.func28, Try.ntmps28
    go_wp2_with fail
    go_ret2
    exact ⟨ret2_eq e.out.symm (by rw [e.out]; rfl), rfl⟩
  by_cases c2 : 64 < n
  · have e := Lib.hid (benesV_out n (by omega))
    go_enter Try.func28, Try.ntmps28
    go_wp2_with fail
    go_ret2
    exact ⟨ret2_eq e.out.symm (by rw [e.out]; rfl), rfl⟩
  by_cases c3 : 0 < benesV n
  · go_enter Try.func28, Try.ntmps28
    go_wp2_with (first | (go_at_call 48; refine (isPower_any n _ (by omega) (by omega)).mono ?_; rintro e w' ⟨rfl, rfl⟩) | (go_at_call 49; refine (benesSize_any 7 (by omega) n _ c3).mono ?_; rintro e w' ⟨rfl, rfl⟩))
    go_ret2
    exact ⟨ret2_eq rfl (by simpa using c3), rfl⟩
  · have hd : decide (0 < benesV n) = false := by simpa using c3
    go_enter Try.func28, Try.ntmps28
    go_wp2_with (first | (go_at_call 48; refine (isPower_any n _ (by omega) (by omega)).mono ?_; rintro e w' ⟨rfl, rfl⟩))
    go_ret2
    have := (szf_bd7 7 (by omega) n).1
    exact ⟨ret2_eq (by unfold benesV at *; omega) (by simpa using c3), rfl⟩
end Go.Proofs.Ytmeaipickolhfaa
