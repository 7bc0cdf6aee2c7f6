/- Contracts of the functions on plain numbers, and of ScanSelect. -/
import Derived.Test.YthmgoeafecpgeaaCore
namespace Go.Proofs.Ythmgoeafecpgeaa
open Go.RowKit
set_option linter.unusedVariables false

theorem ret2_eq {a b : Int} {x y : Bool} (h : a = b) (h' : x = y) : Ending.returned (.tuple #[.int .i64 a, .bool x]) = .returned (.tuple #[.int .i64 b, .bool y]) := by rw [h, h']

def blocksOk (c b : Int) : Bool := inB c 0 100000 && inB b 1 100000
def blocksV (c b : Int) : Int := if blocksOk c b then (c + b - 1) / b else 0

theorem blocks_any (c b : Int) (w : World) (hc : inB c 0 100000 = true) (hb : inB b 1 100000 = true) :
    Calls Try.prog 24 #[.int .i64 c, .int .i64 b] w fun e w' => e = .returned (.int .i64 ((c + b - 1) / b)) ∧ w = w' := by
  have ⟨g1, g2⟩ := inB_iff.1 hc
  have ⟨g3, g4⟩ := inB_iff.1 hb
  go_enter Try.func24, Try.ntmps24
  go_wp2
  go_ret
  exact ⟨rfl, rfl⟩
theorem BlocksOf_any (c b : Int) (w : World) :
    Calls Try.prog 9 #[.int .i64 c, .int .i64 b] w fun e w' => e = .returned (.tuple #[.int .i64 (blocksV c b), .bool (blocksOk c b)]) ∧ w = w' := by
  cases h1 : inB c 0 100000 <;> cases h2 : inB b 1 100000
  all_goals
    go_enter Try.func9, Try.ntmps9
    go_wp2_with (first | (go_at_call 23; refine (in_any _ _ _ _).mono ?_; rintro e w' ⟨rfl, rfl⟩) | (go_at_call 24; refine (blocks_any _ _ _ h1 h2).mono ?_; rintro e w' ⟨rfl, rfl⟩))
    go_ret2
    exact ⟨ret2_eq (by simp [blocksV, blocksOk, h1, h2]) (by simp [blocksOk, h1, h2]), rfl⟩
theorem l17Blocks_any (c b : Int) (w : World) (hc : inB c 0 100000 = true) (hb : inB b 1 100000 = true) :
    Calls Try.prog 22 #[.int .i64 c, .int .i64 b] w fun e w' => e = .returned (.int .i64 ((c + b - 1) / b)) ∧ w = w' := by
  have ⟨g1, g2⟩ := inB_iff.1 hc
  have ⟨g3, g4⟩ := inB_iff.1 hb
  go_enter Try.func22, Try.ntmps22
  go_wp2
  go_ret
  exact ⟨rfl, rfl⟩
theorem sBlocksOf_any (c b : Int) (w : World) :
    Calls Try.prog 8 #[.int .i64 c, .int .i64 b] w fun e w' => e = .returned (.tuple #[.int .i64 (blocksV c b), .bool (blocksOk c b)]) ∧ w = w' := by
  cases h1 : inB c 0 100000 <;> cases h2 : inB b 1 100000
  all_goals
    go_enter Try.func8, Try.ntmps8
    go_wp2_with (first | (go_at_call 21; refine (l1In_any _ _ _ _).mono ?_; rintro e w' ⟨rfl, rfl⟩) | (go_at_call 22; refine (l17Blocks_any _ _ _ h1 h2).mono ?_; rintro e w' ⟨rfl, rfl⟩))
    go_ret2
    exact ⟨ret2_eq (by simp [blocksV, blocksOk, h1, h2]) (by simp [blocksOk, h1, h2]), rfl⟩
theorem FnExactBlocksOf_any (c b : Int) (w : World) :
    Calls Try.prog 3 #[.int .i64 c, .int .i64 b] w fun e w' => e = .returned (.bool true) ∧ Below w.heap.size w w' := by
  have e1 : ∀ x : Int, (x != x) = false := by simp
  have e2 : ∀ x : Bool, (x != x) = false := by simp
  go_enter Try.func3, Try.ntmps3
  go_wp2_with (first | (go_at_call 9; refine (BlocksOf_any _ _ _).mono ?_; rintro e w' ⟨rfl, rfl⟩) | (go_at_call 8; refine (sBlocksOf_any _ _ _).mono ?_; rintro e w' ⟨rfl, rfl⟩))
  go_ret
  exact ⟨rfl, Below.refl _ _⟩

/-- plans -/
def planOk (m y b : Int) : Bool := inB m 1 64 && (inB y 2 16 && inB b 1 m)
theorem IsValidPlan_any (m y b : Int) (w : World) :
    Calls Try.prog 12 #[.agg #[.int .i64 m, .int .i64 y, .int .i64 b]] w fun e w' => e = .returned (.bool (planOk m y b)) ∧ Below w.heap.size w w' := by
  cases h1 : inB m 1 64 <;> cases h2 : inB y 2 16 <;> cases h3 : inB b 1 m
  all_goals
    go_enter Try.func12, Try.ntmps12
    go_wp2_with (go_at_call 23; refine (in_any _ _ _ _).mono ?_; rintro e w' ⟨rfl, rfl⟩)
    go_ret
    exact ⟨retb (by simp [planOk, h1, h2, h3]), (Below.refl _ _).alloc (Nat.le_refl _) _⟩
theorem l17Plan_any (m y b : Int) (w : World) :
    Calls Try.prog 25 #[.agg #[.int .i64 m, .int .i64 y, .int .i64 b]] w fun e w' => e = .returned (.bool (planOk m y b)) ∧ Below w.heap.size w w' := by
  cases h1 : inB m 1 64 <;> cases h2 : inB y 2 16 <;> cases h3 : inB b 1 m
  all_goals
    go_enter Try.func25, Try.ntmps25
    go_wp2_with (go_at_call 21; refine (l1In_any _ _ _ _).mono ?_; rintro e w' ⟨rfl, rfl⟩)
    go_ret
    exact ⟨retb (by simp [planOk, h1, h2, h3]), (Below.refl _ _).alloc (Nat.le_refl _) _⟩
theorem sIsValidPlan_any (m y b : Int) (w : World) :
    Calls Try.prog 10 #[.agg #[.int .i64 m, .int .i64 y, .int .i64 b]] w fun e w' => e = .returned (.bool (planOk m y b)) ∧ Below w.heap.size w w' := by
  go_enter Try.func10, Try.ntmps10
  go_wp2_with (go_at_call 25; refine (l17Plan_any _ _ _ _).mono ?_; rintro e w1 ⟨rfl, hb1⟩)
  go_ret
  exact ⟨rfl, ((Below.refl _ _).alloc (Nat.le_refl _) _).trans (hb1.mono (by simp))⟩
theorem toDiskPlan_any (m y b : Int) (w : World) :
    Calls Try.prog 11 #[.agg #[.int .i64 m, .int .i64 y, .int .i64 b]] w fun e w' => e = .returned (.agg #[.int .i64 m, .int .i64 y, .int .i64 b]) ∧ Below w.heap.size w w' := by
  go_enter Try.func11, Try.ntmps11
  go_wp2
  refine bodyPost_ret (v := .agg #[.int .i64 m, .int .i64 y, .int .i64 b]) (by simp [results, Try.results11, go_sem]) rfl ⟨rfl, ?_⟩
  go_grown
theorem FnExactIsValidPlan_any (m y b : Int) (w : World) :
    Calls Try.prog 4 #[.agg #[.int .i64 m, .int .i64 y, .int .i64 b]] w fun e w' => e = .returned (.bool true) ∧ Below w.heap.size w w' := by
  have e2 : ∀ x : Bool, (x != x) = false := by simp
  go_enter Try.func4, Try.ntmps4
  go_wp2_with fail
  have B0 := Blk.new w 26 #[.int .i64 m, .int .i64 y, .int .i64 b]
  have hb0 : Below w.heap.size w (w.alloc (.cells #[.int .i64 m, .int .i64 y, .int .i64 b] 26)) := (Below.refl _ _).alloc (Nat.le_refl _) _
  refine (toDiskPlan_any _ _ _ _).mono ?_
  rintro e w1 ⟨rfl, hb1⟩
  have B1 := B0.below hb1 (by simp)
  have hb1 := bthen hb0 hb1
  go_wp2_with fail
  refine (sIsValidPlan_any _ _ _ _).mono ?_
  rintro e w2 ⟨rfl, hb2⟩
  have B2 := B1.below hb2 B1.lt
  have hb2 := bthen hb1 hb2
  have c0 : w2.cell? ⟨w.heap.size, 0, none⟩ = some (.int .i64 m) := B2.cell 0
  have c1 : w2.cell? ⟨w.heap.size, 1, none⟩ = some (.int .i64 y) := B2.cell 1
  have c2 : w2.cell? ⟨w.heap.size, 2, none⟩ = some (.int .i64 b) := B2.cell 2
  go_wp2_with fail
  refine (toDiskPlan_any _ _ _ _).mono ?_
  rintro e w3 ⟨rfl, hb3⟩
  have hb3 := bthen hb2 hb3
  go_wp2_with fail
  refine (IsValidPlan_any _ _ _ _).mono ?_
  rintro e w4 ⟨rfl, hb4⟩
  have hb4 := bthen hb3 hb4
  go_wp2_with fail
  go_ret
  exact ⟨rfl, hb4⟩

/-- the size of a Benes network of n elements, or 0 -/
def szf : Nat → Int → Int
  | 0, _ => 0
  | f + 1, n => if n = 2 then 1 else if n < 4 ∨ 64 < n ∨ n % 2 = 1 ∨ szf f (n / 2) = 0 then 0 else n + 2 * szf f (n / 2)
def benesV (n : Int) : Int := szf 7 n
theorem szf_bd (f : Nat) (n : Int) : 0 ≤ szf f n ∧ szf f n ≤ 64 * 2 ^ f - 64 := by
  induction f generalizing n with
  | zero => simp [szf]
  | succ f ih =>
    have := ih (n / 2)
    have h2 : (1 : Int) ≤ 2 ^ f := by exact_mod_cast Nat.one_le_two_pow
    have h3 : (2 : Int) ^ (f + 1) = 2 * 2 ^ f := by rw [Int.pow_succ]; omega
    rw [h3]
    unfold szf
    split
    · omega
    · split <;> omega
theorem szf_bd7 (f : Nat) (hf : f ≤ 7) (n : Int) : 0 ≤ szf f n ∧ szf f n ≤ 10000 := by
  have h := szf_bd f n
  have h3 : (2 : Int) ^ f ≤ 2 ^ 7 := by exact_mod_cast Nat.pow_le_pow_right (by omega) hf
  omega
theorem l14Size_any (f : Nat) : f ≤ 7 → ∀ (n : Int) (w : World), -9223372036854775808 ≤ n → n ≤ 9223372036854775807 → (64 < n ∨ n < 2 * 2 ^ f) →
    Calls Try.prog 26 #[.int .i64 n] w fun e w' => e = .returned (.int .i64 (szf f n)) ∧ w = w' := by
  induction f with
  | zero =>
    intro hf n w h0 h1 h2
    have hn : ¬ n = 2 := by omega
    have hn4 : n < 4 ∨ 64 < n := by omega
    have hn2 : (n == 2) = false := by simpa using hn
    rcases hn4 with h4 | h4
    · go_enter Try.func26, Try.ntmps26
      go_wp2_with fail
      go_ret
      exact ⟨rfl, rfl⟩
    · have h5 : ¬ n < 4 := by omega
      go_enter Try.func26, Try.ntmps26
      go_wp2_with fail
      go_ret
      exact ⟨rfl, rfl⟩
  | succ f ih =>
    intro hf n w h0 h1 h2
    have IH := Lib.hid (ih (by omega)); clear ih
    by_cases c1 : n = 2
    · subst c1
      go_enter Try.func26, Try.ntmps26
      go_wp2_with fail
      go_ret
      exact ⟨by simp [szf], rfl⟩
    have hn2 : (n == 2) = false := by simpa using c1
    by_cases c2 : n < 4
    · have e : szf (f + 1) n = 0 := by simp [szf, c1, c2]
      have E := Lib.hid e; clear e
      go_enter Try.func26, Try.ntmps26
      go_wp2_with fail
      go_ret
      exact ⟨reti E.out.symm, rfl⟩
    by_cases c3 : 64 < n
    · have e : szf (f + 1) n = 0 := by simp [szf, c1, c3]
      have E := Lib.hid e; clear e
      go_enter Try.func26, Try.ntmps26
      go_wp2_with fail
      go_ret
      exact ⟨reti E.out.symm, rfl⟩
    by_cases c4 : n % 2 = 1
    · have e : szf (f + 1) n = 0 := by simp [szf, c1, c4]
      have E := Lib.hid e; clear e
      have hc4 : (n % 2 == 1) = true := by simpa using c4
      have C4 := Lib.hid c4; clear c4
      go_enter Try.func26, Try.ntmps26
      go_wp2_with fail
      go_ret
      exact ⟨reti E.out.symm, rfl⟩
    have hc4 : (n % 2 == 1) = false := by simpa using c4
    have h3 : (2 : Int) ^ (f + 1) = 2 * 2 ^ f := by rw [Int.pow_succ]; omega
    have hq : 64 < n / 2 ∨ n / 2 < 2 * 2 ^ f := by omega
    have bd := szf_bd7 f (by omega) (n / 2)
    clear h3 h2
    by_cases c5 : szf f (n / 2) = 0
    · have e : szf (f + 1) n = 0 := by simp [szf, c1, c5]
      have E := Lib.hid e; clear e
      have C5 := Lib.hid c5; clear c5
      go_enter Try.func26, Try.ntmps26
      go_wp2_with (go_at_call 26; refine (IH.out (n / 2) _ (by omega) (by omega) hq).mono ?_; rintro e w' ⟨rfl, rfl⟩; rw [C5.out])
      go_ret
      exact ⟨reti E.out.symm, rfl⟩
    · have e : szf (f + 1) n = n + 2 * szf f (n / 2) := by rw [szf, if_neg c1, if_neg (by omega)]
      have E := Lib.hid e; clear e
      have hc5 : (szf f (n / 2) == 0) = false := by simpa using c5
      clear c5
      go_enter Try.func26, Try.ntmps26
      go_wp2_with (go_at_call 26; refine (IH.out (n / 2) _ (by omega) (by omega) hq).mono ?_; rintro e w' ⟨rfl, rfl⟩)
      go_ret
      exact ⟨reti E.out.symm, rfl⟩
theorem sBenesSize_any (n : Int) (w : World) (h0 : -9223372036854775808 ≤ n) (h1 : n ≤ 9223372036854775807) :
    Calls Try.prog 13 #[.int .i64 n] w fun e w' => e = .returned (.tuple #[.int .i64 (benesV n), .bool (decide (0 < benesV n))]) ∧ w = w' := by
  go_enter Try.func13, Try.ntmps13
  go_wp2_with (go_at_call 26; refine (l14Size_any 7 (by omega) n _ h0 h1 (by omega)).mono ?_; rintro e w' ⟨rfl, rfl⟩)
  go_ret2
  exact ⟨rfl, rfl⟩
theorem pow_law : ∀ k : Fin 63, (bits BinOp.and IntKind.i64 ((k.val : Int) + 2) ((k.val : Int) + 2 - 1) == 0) = decide (0 < benesV ((k.val : Int) + 2)) := by decide +kernel
theorem pow_at (n : Int) (h0 : 2 ≤ n) (h1 : n ≤ 64) : (bits BinOp.and IntKind.i64 n (n - 1) == 0) = decide (0 < benesV n) := by
  have h := pow_law ⟨(n - 2).toNat, by omega⟩
  have e : (((n - 2).toNat : Nat) : Int) + 2 = n := by omega
  rwa [e] at h
theorem isPower_any (n : Int) (w : World) (h0 : 2 ≤ n) (h1 : n ≤ 64) :
    Calls Try.prog 27 #[.int .i64 n] w fun e w' => e = .returned (.bool (decide (0 < benesV n))) ∧ w = w' := by
  go_enter Try.func27, Try.ntmps27
  go_wp2_with fail
  go_ret
  exact ⟨retb (pow_at n h0 h1), rfl⟩
theorem benesSize_any (f : Nat) : f ≤ 7 → ∀ (n : Int) (w : World), 0 < szf f n →
    Calls Try.prog 28 #[.int .i64 n] w fun e w' => e = .returned (.int .i64 (szf f n)) ∧ w = w' := by
  induction f with
  | zero => intro _ n w h; simp [szf] at h
  | succ f ih =>
    intro hf n w h
    have IH := Lib.hid (ih (by omega)); clear ih
    by_cases c1 : n = 2
    · subst c1
      go_enter Try.func28, Try.ntmps28
      go_wp2_with fail
      go_ret
      exact ⟨by simp [szf], rfl⟩
    have hn2 : (n == 2) = false := by simpa using c1
    have c2 : ¬ (n < 4 ∨ 64 < n ∨ n % 2 = 1 ∨ szf f (n / 2) = 0) := by
      intro c; rw [szf, if_neg c1, if_pos c] at h; omega
    have bd := szf_bd7 f (by omega) (n / 2)
    have hp : 0 < szf f (n / 2) := by omega
    have g1 : 4 ≤ n := by omega
    have g2 : n ≤ 64 := by omega
    have e : szf (f + 1) n = n + 2 * szf f (n / 2) := by rw [szf, if_neg c1, if_neg c2]
    have E := Lib.hid e; clear e c2 h
    go_enter Try.func28, Try.ntmps28
    go_wp2_with (go_at_call 28; refine (IH.out (n / 2) _ hp).mono ?_; rintro e w' ⟨rfl, rfl⟩)
    go_ret
    exact ⟨reti E.out.symm, rfl⟩
theorem benesV_out (n : Int) (h : n < 2 ∨ 64 < n) : benesV n = 0 := by
  have : ¬ n = 2 := by omega
  rw [benesV, szf, if_neg this, if_pos (by omega)]
theorem BenesSize_any (n : Int) (w : World) (h0 : -9223372036854775808 ≤ n) (h1 : n ≤ 9223372036854775807) :
    Calls Try.prog 14 #[.int .i64 n] w fun e w' => e = .returned (.tuple #[.int .i64 (benesV n), .bool (decide (0 < benesV n))]) ∧ w = w' := by
  by_cases c1 : n < 2
  · have e := Lib.hid (benesV_out n (by omega))
    go_enter Try.func14, Try.ntmps14
    go_wp2_with fail
    go_ret2
    exact ⟨ret2_eq e.out.symm (by rw [e.out]; rfl), rfl⟩
  by_cases c2 : 64 < n
  · have e := Lib.hid (benesV_out n (by omega))
    go_enter Try.func14, Try.ntmps14
    go_wp2_with fail
    go_ret2
    exact ⟨ret2_eq e.out.symm (by rw [e.out]; rfl), rfl⟩
  by_cases c3 : 0 < benesV n
  · go_enter Try.func14, Try.ntmps14
    go_wp2_with (first | (go_at_call 27; refine (isPower_any n _ (by omega) (by omega)).mono ?_; rintro e w' ⟨rfl, rfl⟩) | (go_at_call 28; refine (benesSize_any 7 (by omega) n _ c3).mono ?_; rintro e w' ⟨rfl, rfl⟩))
    go_ret2
    exact ⟨ret2_eq rfl (by simpa using c3), rfl⟩
  · have hd : decide (0 < benesV n) = false := by simpa using c3
    go_enter Try.func14, Try.ntmps14
    go_wp2_with (first | (go_at_call 27; refine (isPower_any n _ (by omega) (by omega)).mono ?_; rintro e w' ⟨rfl, rfl⟩))
    go_ret2
    have := (szf_bd7 7 (by omega) n).1
    exact ⟨ret2_eq (by unfold benesV at *; omega) (by simpa using c3), rfl⟩
theorem FnExactBenesSize_any (n : Int) (w : World) (h0 : -9223372036854775808 ≤ n) (h1 : n ≤ 9223372036854775807) :
    Calls Try.prog 5 #[.int .i64 n] w fun e w' => e = .returned (.bool true) ∧ Below w.heap.size w w' := by
  have e1 : ∀ x : Int, (x != x) = false := by simp
  have e2 : ∀ x : Bool, (x != x) = false := by simp
  go_enter Try.func5, Try.ntmps5
  go_wp2_with (first | (go_at_call 14; refine (BenesSize_any _ _ h0 h1).mono ?_; rintro e w' ⟨rfl, rfl⟩) | (go_at_call 13; refine (sBenesSize_any _ _ h0 h1).mono ?_; rintro e w' ⟨rfl, rfl⟩))
  go_ret
  exact ⟨rfl, Below.refl _ _⟩

/-- the number of passes -/
def passN (y : Int) : Nat → Int → Int
  | 0, _ => 0
  | f + 1, r => if 1 < r then passN y f ((r + y - 1) / y) + 1 else 0
def passOk (r y : Int) : Bool := inB r 0 100000 && inB y 2 16
def passV (r y : Int) : Int := if passOk r y then passN y 100000 r else 0
theorem pass_less (r y : Int) (hr : 1 < r) (hy : 2 ≤ y) : (r + y - 1) / y < r ∧ 1 ≤ (r + y - 1) / y := by
  constructor
  · rw [Int.ediv_lt_iff_lt_mul (by omega)]
    have : r * 2 ≤ r * y := Int.mul_le_mul_of_nonneg_left hy (by omega)
    have h2 : (r - 1) * 2 ≤ (r - 1) * y := Int.mul_le_mul_of_nonneg_left hy (by omega)
    have h3 : (r - 1) * y = r * y - y := by rw [Int.sub_mul]; omega
    omega
  · rw [Int.le_ediv_iff_mul_le (by omega)]
    omega
theorem passN_fuel (y : Int) (hy : 2 ≤ y) : ∀ (f g : Nat) (r : Int), r ≤ f → r ≤ g → passN y f r = passN y g r := by
  intro f
  induction f with
  | zero => intro g r h h'; cases g with
    | zero => rfl
    | succ g => simp only [passN]; rw [if_neg (by omega)]
  | succ f ih => intro g r h h'; cases g with
    | zero => simp only [passN]; rw [if_neg (by omega)]
    | succ g =>
      simp only [passN]
      by_cases c : 1 < r
      · rw [if_pos c, if_pos c, ih g _ (by have := pass_less r y c hy; omega) (by have := pass_less r y c hy; omega)]
      · rw [if_neg c, if_neg c]
theorem passN_step (y : Int) (hy : 2 ≤ y) (f : Nat) (r : Int) (hr : 1 < r) (h : r ≤ f) : passN y f r = passN y f ((r + y - 1) / y) + 1 := by
  have hl := pass_less r y hr hy
  have e := passN_fuel y hy f (f + 1) r h (by omega)
  rw [e, passN, if_pos hr]
theorem passN_end (y : Int) (f : Nat) (r : Int) (hr : ¬ 1 < r) : passN y f r = 0 := by
  cases f with
  | zero => rfl
  | succ f => rw [passN, if_neg hr]
theorem passCount_any (r0 y : Int) (w : World) (h1 : inB r0 0 100000 = true) (h2 : inB y 2 16 = true) :
    Calls Try.prog 29 #[.int .i64 r0, .int .i64 y] w fun e w' => e = .returned (.int .i64 (passN y 100000 r0)) ∧ w = w' := by
  have ⟨a1, a2⟩ := inB_iff.1 h1
  have ⟨b1, b2⟩ := inB_iff.1 h2
  go_enter Try.func29, Try.ntmps29
  go_wp2_with fail
  go_loop [0, 5] (fun r n => ∃ (rv nv : Int), r = .int .i64 rv ∧ n = .int .i64 nv ∧ 0 ≤ rv ∧ rv ≤ 100000 ∧ 0 ≤ nv ∧ nv + rv ≤ 200000 ∧ nv + passN y 100000 rv = passN y 100000 r0) (fun r _ => (intOf r).toNat)
  case atStart => exact ⟨r0, 0, rfl, rfl, a1, a2, by omega, by omega, by omega⟩
  case round =>
    obtain ⟨rv, nv, rfl, rfl, g1, g2, g3, g4, he⟩ := hrel
    have HE := Lib.hid he; clear he
    by_cases c : 1 < rv
    · have hl := pass_less rv y c b1
      go_wp2_with fail
      go_round
      case rel => exact ⟨_, _, rfl, rfl, by omega, by omega, by omega, by omega, by have := HE.out; have h3 := passN_step y b1 100000 rv c (by omega); omega⟩
      case measure => simp [intOf]; omega
    · go_wp2_with fail
      go_ret
      exact ⟨reti (by have := HE.out; have h3 := passN_end y 100000 rv (by omega); omega), rfl⟩
theorem PassCount_any (r y : Int) (w : World) :
    Calls Try.prog 16 #[.int .i64 r, .int .i64 y] w fun e w' => e = .returned (.tuple #[.int .i64 (passV r y), .bool (passOk r y)]) ∧ w = w' := by
  cases h1 : inB r 0 100000 <;> cases h2 : inB y 2 16
  all_goals
    go_enter Try.func16, Try.ntmps16
    go_wp2_with (first | (go_at_call 23; refine (in_any _ _ _ _).mono ?_; rintro e w' ⟨rfl, rfl⟩) | (go_at_call 29; refine (passCount_any _ _ _ h1 h2).mono ?_; rintro e w' ⟨rfl, rfl⟩))
    go_ret2
    exact ⟨ret2_eq (by simp [passV, passOk, h1, h2]) (by simp [passOk, h1, h2]), rfl⟩
theorem sPassCount_any (r y : Int) (w : World) :
    Calls Try.prog 15 #[.int .i64 r, .int .i64 y] w fun e w' => e = .returned (.tuple #[.int .i64 (passV r y), .bool (passOk r y)]) ∧ w = w' := by
  cases h1 : inB r 0 100000
  · go_enter Try.func15, Try.ntmps15
    go_wp2_with (go_at_call 21; refine (l1In_any _ _ _ _).mono ?_; rintro e w' ⟨rfl, rfl⟩)
    go_ret2
    exact ⟨ret2_eq (by simp [passV, passOk, h1]) (by simp [passOk, h1]), rfl⟩
  cases h2 : inB y 2 16
  · go_enter Try.func15, Try.ntmps15
    go_wp2_with (go_at_call 21; refine (l1In_any _ _ _ _).mono ?_; rintro e w' ⟨rfl, rfl⟩)
    go_ret2
    exact ⟨ret2_eq (by simp [passV, passOk, h1, h2]) (by simp [passOk, h1, h2]), rfl⟩
  have ⟨a1, a2⟩ := inB_iff.1 h1
  have ⟨b1, b2⟩ := inB_iff.1 h2
  have hv : passV r y = passN y 100000 r := by simp [passV, passOk, h1, h2]
  have ho : passOk r y = true := by simp [passOk, h1, h2]
  have HV := Lib.hid hv; clear hv
  have HO := Lib.hid ho; clear ho
  go_enter Try.func15, Try.ntmps15
  go_wp2_with (go_at_call 21; refine (l1In_any _ _ _ _).mono ?_; rintro e w' ⟨rfl, rfl⟩)
  clear h1 h2
  go_loop [0, 6] (fun x n => ∃ (rv nv : Int), x = .int .i64 rv ∧ n = .int .i64 nv ∧ 0 ≤ rv ∧ rv ≤ 100000 ∧ 0 ≤ nv ∧ nv + rv ≤ 200000 ∧ nv + passN y 100000 rv = passN y 100000 r) (fun x _ => (intOf x).toNat)
  case atStart => exact ⟨r, 0, rfl, rfl, a1, a2, by omega, by omega, by omega⟩
  case round =>
    obtain ⟨rv, nv, rfl, rfl, g1, g2, g3, g4, he⟩ := hrel
    have HE := Lib.hid he; clear he
    by_cases c : 1 < rv
    · have hl := pass_less rv y c b1
      go_wp2_with fail
      go_round
      case rel => exact ⟨_, _, rfl, rfl, by omega, by omega, by omega, by omega, by have := HE.out; have h3 := passN_step y b1 100000 rv c (by omega); omega⟩
      case measure => simp [intOf]; omega
    · go_wp2_with fail
      go_ret2
      exact ⟨ret2_eq (by have := HE.out; have h3 := passN_end y 100000 rv (by omega); have h4 := HV.out; omega) HO.out.symm, rfl⟩
theorem FnExactPassCount_any (c b : Int) (w : World) :
    Calls Try.prog 6 #[.int .i64 c, .int .i64 b] w fun e w' => e = .returned (.bool true) ∧ Below w.heap.size w w' := by
  have e1 : ∀ x : Int, (x != x) = false := by simp
  have e2 : ∀ x : Bool, (x != x) = false := by simp
  go_enter Try.func6, Try.ntmps6
  go_wp2_with (first | (go_at_call 16; refine (PassCount_any _ _ _).mono ?_; rintro e w' ⟨rfl, rfl⟩) | (go_at_call 15; refine (sPassCount_any _ _ _).mono ?_; rintro e w' ⟨rfl, rfl⟩))
  go_ret
  exact ⟨rfl, Below.refl _ _⟩
end Go.Proofs.Ythmgoeafecpgeaa
