/- The number of passes. -/
import Derived.Test.YtphcfjdhichfkaaCore
import Derived.IntWalk
namespace Go.Proofs.Ytphcfjdhichfkaa
open Go.RowKit
set_option linter.unusedVariables false
theorem ret2_eqP {a b : Int} {x y : Bool} (h : a = b) (h' : x = y) : Ending.returned (.tuple #[.int .i64 a, .bool x]) = .returned (.tuple #[.int .i64 b, .bool y]) := by rw [h, h']
/-- the number of passes -/
def passN (y : Int) : Nat → Int → Int
  | 0, _ => 0
  | f + 1, r => if 1 < r then passN y f ((r + y - 1) / y) + 1 else 0
def passOk (r y : Int) : Bool := inB r 0 100000 && inB y 2 16
def passV (r y : Int) : Int := if passOk r y then passN y 100000 r else 0
theorem pass_less (r y : Int) (hr : 1 < r) (hy : 2 ≤ y) : (r + y - 1) / y < r ∧ 1 ≤ (r + y - 1) / y := by
  constructor
  · rw [Int.ediv_lt_iff_lt_mul (by omega)]
    have : r * 2 ≤ r * y := Int.mul_le_mul_of_nonneg_left hy (by omega)
    have h2 : (r - 1) * 2 ≤ (r - 1) * y := Int.mul_le_mul_of_nonneg_left hy (by omega)
    have h3 : (r - 1) * y = r * y - y := by rw [Int.sub_mul]; omega
    omega
  · rw [Int.le_ediv_iff_mul_le (by omega)]
    omega
theorem passN_fuel (y : Int) (hy : 2 ≤ y) : ∀ (f g : Nat) (r : Int), r ≤ f → r ≤ g → passN y f r = passN y g r := by
  intro f
  induction f with
  | zero => intro g r h h'; cases g with
    | zero => rfl
    | succ g => simp only [passN]; rw [if_neg (by omega)]
  | succ f ih => intro g r h h'; cases g with
    | zero => simp only [passN]; rw [if_neg (by omega)]
    | succ g =>
      simp only [passN]
      by_cases c : 1 < r
      · rw [if_pos c, if_pos c, ih g _ (by have := pass_less r y c hy; omega) (by have := pass_less r y c hy; omega)]
      · rw [if_neg c, if_neg c]
theorem passN_step (y : Int) (hy : 2 ≤ y) (f : Nat) (r : Int) (hr : 1 < r) (h : r ≤ f) : passN y f r = passN y f ((r + y - 1) / y) + 1 := by
  have hl := pass_less r y hr hy
  have e := passN_fuel y hy f (f + 1) r h (by omega)
  rw [e, passN, if_pos hr]
theorem passN_end (y : Int) (f : Nat) (r : Int) (hr : ¬ 1 < r) : passN y f r = 0 := by
  cases f with
  | zero => rfl
  | succ f => rw [passN, if_neg hr]
theorem passCount_any (r0 y : Int) (w : World) (h1 : inB r0 0 100000 = true) (h2 : inB y 2 16 = true) :
    Calls Try.prog 67 #[.int .i64 r0, .int .i64 y] w fun e w' => e = .returned (.int .i64 (passN y 100000 r0)) ∧ w = w' := by
  have ⟨a1, a2⟩ := inB_iff.1 h1
  have ⟨b1, b2⟩ := inB_iff.1 h2
  go_enter Try.func67, Try.ntmps67
  go_wp2_with fail
  go_loop [0, 5] (fun r n => ∃ (rv nv : Int), r = .int .i64 rv ∧ n = .int .i64 nv ∧ 0 ≤ rv ∧ rv ≤ 100000 ∧ 0 ≤ nv ∧ nv + rv ≤ 200000 ∧ nv + passN y 100000 rv = passN y 100000 r0) (fun r _ => (intOf r).toNat)
  case atStart => exact ⟨r0, 0, rfl, rfl, a1, a2, by omega, by omega, by omega⟩
  case round =>
    obtain ⟨rv, nv, rfl, rfl, g1, g2, g3, g4, he⟩ := hrel
    have HE := Lib.hid he; clear he
    by_cases c : 1 < rv
    · have hl := pass_less rv y c b1
      go_wp2_with fail
      go_round
      case rel => exact ⟨_, _, rfl, rfl, by omega, by omega, by omega, by omega, by have := HE.out; have h3 := passN_step y b1 100000 rv c (by omega); omega⟩
      case measure => simp [intOf]; omega
    · go_wp2_with fail
      go_ret
      exact ⟨reti (by have := HE.out; have h3 := passN_end y 100000 rv (by omega); omega), rfl⟩
theorem PassCount_any (r y : Int) (w : World) :
    Calls Try.prog 34 #[.int .i64 r, .int .i64 y] w fun e w' => e = .returned (.tuple #[.int .i64 (passV r y), .bool (passOk r y)]) ∧ w = w' := by
  cases h1 : inB r 0 100000 <;> cases h2 : inB y 2 16
  all_goals
    go_enter Try.func34, Try.ntmps34
    go_wp2_with (first | (go_at_call 40; refine (in_any _ _ _ _).mono ?_; rintro e w' ⟨rfl, rfl⟩) | (go_at_call 67; refine (passCount_any _ _ _ h1 h2).mono ?_; rintro e w' ⟨rfl, rfl⟩))
    go_ret2
    exact ⟨ret2_eqP (by simp [passV, passOk, h1, h2]) (by simp [passOk, h1, h2]), rfl⟩
theorem sPassCount_any (r y : Int) (w : World) :
    Calls Try.prog 35 #[.int .i64 r, .int .i64 y] w fun e w' => e = .returned (.tuple #[.int .i64 (passV r y), .bool (passOk r y)]) ∧ w = w' := by
  cases h1 : inB r 0 100000
  · go_enter Try.func35, Try.ntmps35
    go_wp2_with (go_at_call 61; refine (l1In_any _ _ _ _).mono ?_; rintro e w' ⟨rfl, rfl⟩)
    go_ret2
    exact ⟨ret2_eqP (by simp [passV, passOk, h1]) (by simp [passOk, h1]), rfl⟩
  cases h2 : inB y 2 16
  · go_enter Try.func35, Try.ntmps35
    go_wp2_with (go_at_call 61; refine (l1In_any _ _ _ _).mono ?_; rintro e w' ⟨rfl, rfl⟩)
    go_ret2
    exact ⟨ret2_eqP (by simp [passV, passOk, h1, h2]) (by simp [passOk, h1, h2]), rfl⟩
  have ⟨a1, a2⟩ := inB_iff.1 h1
  have ⟨b1, b2⟩ := inB_iff.1 h2
  have hv : passV r y = passN y 100000 r := by simp [passV, passOk, h1, h2]
  have ho : passOk r y = true := by simp [passOk, h1, h2]
  have HV := Lib.hid hv; clear hv
  have HO := Lib.hid ho; clear ho
  go_enter Try.func35, Try.ntmps35
  go_wp2_with (go_at_call 61; refine (l1In_any _ _ _ _).mono ?_; rintro e w' ⟨rfl, rfl⟩)
  clear h1 h2
  go_loop [0, 6] (fun x n => ∃ (rv nv : Int), x = .int .i64 rv ∧ n = .int .i64 nv ∧ 0 ≤ rv ∧ rv ≤ 100000 ∧ 0 ≤ nv ∧ nv + rv ≤ 200000 ∧ nv + passN y 100000 rv = passN y 100000 r) (fun x _ => (intOf x).toNat)
  case atStart => exact ⟨r, 0, rfl, rfl, a1, a2, by omega, by omega, by omega⟩
  case round =>
    obtain ⟨rv, nv, rfl, rfl, g1, g2, g3, g4, he⟩ := hrel
    have HE := Lib.hid he; clear he
    by_cases c : 1 < rv
    · have hl := pass_less rv y c b1
      go_wp2_with fail
      go_round
      case rel => exact ⟨_, _, rfl, rfl, by omega, by omega, by omega, by omega, by have := HE.out; have h3 := passN_step y b1 100000 rv c (by omega); omega⟩
      case measure => simp [intOf]; omega
    · go_wp2_with fail
      go_ret2
      exact ⟨ret2_eqP (by have := HE.out; have h3 := passN_end y 100000 rv (by omega); have h4 := HV.out; omega) HO.out.symm, rfl⟩
end Go.Proofs.Ytphcfjdhichfkaa
