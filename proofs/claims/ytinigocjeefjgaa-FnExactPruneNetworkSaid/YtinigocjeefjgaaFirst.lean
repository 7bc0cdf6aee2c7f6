/- FirstUnsorted: the functions that it calls, and the program's and the reference's function. -/
import Derived.Test.YtinigocjeefjgaaBits
namespace Go.Proofs.Ytinigocjeefjgaa
open Go.RowKit
set_option linter.unusedVariables false
theorem isChecked_any (W : Int) (A : Option Addr) (cs : List (Int × Int)) (c : Nat) (w : World) (hx : Reads w w.heap.size 2 A cs.length (cmps cs)) (hl : cs.length ≤ 1099511627776) :
    Calls Try.prog 44 #[.agg #[.int .i64 W, .slice A cs.length c]] w fun e w' => e = .returned (.bool (chkOk W cs)) ∧ Below w.heap.size w w' := by
  have hb0 : Below w.heap.size w (w.alloc (.cells #[.int .i64 W, .slice A cs.length c] 28)) := by go_grown
  cases h : netOk W cs
  all_goals
    go_enter Try.func44, Try.ntmps44
    go_wp2_with fail
    refine (IsValidNetwork_any W A cs c _ ((hx.below hb0).more hb0.size) hl).mono ?_
    rintro e w1 ⟨rfl, hb1⟩
    obtain ⟨B1, k1⟩ := step_box hb1
    obtain ⟨x0, x1⟩ := k1.two
    go_wp2_with fail
    go_ret
    exact ⟨retb (by simp [chkOk, h]), B1⟩
theorem l12Checked_any (W : Int) (A : Option Addr) (cs : List (Int × Int)) (c : Nat) (w : World) (hx : Reads w w.heap.size 2 A cs.length (cmps cs)) (hl : cs.length ≤ 1099511627776) :
    Calls Try.prog 42 #[.agg #[.int .i64 W, .slice A cs.length c]] w fun e w' => e = .returned (.bool (chkOk W cs)) ∧ Below w.heap.size w w' := by
  have hb0 : Below w.heap.size w (w.alloc (.cells #[.int .i64 W, .slice A cs.length c] 28)) := by go_grown
  cases h : netOk W cs
  all_goals
    go_enter Try.func42, Try.ntmps42
    go_wp2_with fail
    refine (l12Good_any W A cs c _ ((hx.below hb0).more hb0.size) hl).mono ?_
    rintro e w1 ⟨rfl, hb1⟩
    obtain ⟨B1, k1⟩ := step_box hb1
    obtain ⟨x0, x1⟩ := k1.two
    go_wp2_with fail
    go_ret
    exact ⟨retb (by simp [chkOk, h]), B1⟩
set_option maxHeartbeats 800000 in
theorem l12Step_any (m a b : Nat) (w : World) (hm : m < 4096) (ha : a < 12) (hb : b < 12) :
    Calls Try.prog 52 #[.int .i64 m, .agg #[.int .i64 a, .int .i64 b]] w fun e w' => e = .returned (.int .i64 (stepN m a b)) ∧ Below w.heap.size w w' := by
  have ea := and1_bit m a (by omega)
  have eb := and1_bit m b (by omega)
  cases ta : m.testBit a
  · have hs : stepN m a b = m := by simp [stepN, ta]
    rw [hs]
    rw [show bitI m a = 0 from by simp [bitI, ta]] at ea
    clear hs eb ta
    go_enter Try.func52, Try.ntmps52
    go_wp2_with fail
    go_ret
    exact ⟨rfl, by go_grown⟩
  · rw [show bitI m a = 1 from by simp [bitI, ta]] at ea
    cases tb : m.testBit b
    · rw [show bitI m b = 0 from by simp [bitI, tb]] at eb
      have hs : stepN m a b = m ^^^ 2 ^ a ^^^ 2 ^ b := by simp [stepN, ta, tb]
      rw [hs]
      clear hs ta tb
      go_enter Try.func52, Try.ntmps52
      go_wp2_with fail
      go_ret
      exact ⟨reti (xor2_bit m a b hm ha hb), by go_grown⟩
    · have hs : stepN m a b = m := by simp [stepN, ta, tb]
      rw [hs]
      rw [show bitI m b = 1 from by simp [bitI, tb]] at eb
      clear hs ta tb
      go_enter Try.func52, Try.ntmps52
      go_wp2_with fail
      go_ret
      exact ⟨rfl, by go_grown⟩
set_option maxHeartbeats 800000 in
theorem binary_any (m W : Nat) (w : World) (hm : m < 4096) (hW : W ≤ 12) :
    Calls Try.prog 53 #[.int .i64 m, .int .i64 W] w fun e w' => ∃ v, e = .returned v ∧ w'.ownsRow w.heap.size 3 1 v W (ints (binL m W)) ∧ Below w.heap.size w w' := by
  obtain ⟨i0, hi, hz0, hz1, hz2⟩ := info_parts (show (Try.prog.info? 3).map (fun i => (i.zero, i.size, i.bytes)) = some (some (.int .i64 0), 1, 8) by kernel_rfl)
  have ho1 := World.ownsRow_made (base := w.heap.size) (size := 1) (e := 3) w #[] 0 (Nat.le_refl _) (by simp) (by simp)
  have hb1 := alloc_ (Below.refl w.heap.size w) (.cells #[] 3)
  go_enter Try.func53, Try.ntmps53
  go_wp2_with fail
  go_loopw [5, 9] (fun o i wr => ∃ k : Nat, k ≤ W ∧ i = .int .i64 k ∧ Below w.heap.size w wr ∧ wr.ownsRow w.heap.size 3 1 o k (ints (binL m k))) (fun _ i _ => W - (intOf i).toNat)
  case atStart => exact ⟨0, by omega, rfl, hb1, ho1⟩
  case round =>
    clear ho1 hb1
    obtain ⟨k, hk, rfl, hb, hown⟩ := hrel
    by_cases hlt : k < W
    · have ea := and1_bit m k (by omega)
      have hsu := binL_succ m k
      have HS := Lib.hid hsu; clear hsu
      go_wp2_with (at_builtin; refine wpList_push _ rfl _ _ 37 rfl w.heap.size 3 i0 _ 1 8 Try.underlying37 hi hz0 hz1 hz2 rfl (by decide) u5 _ _ rfl hown #[.int .i64 (bitI m k)] rfl rfl (by simp [Value.oneCell']) (by omega) (by unfold maxLen; omega) hb.size ?_; intro g1 k1 w2 hown1 hg1 hb3 hat3)
      go_roundw
      case rel => exact ⟨k + 1, by omega, by go_num, hb.trans hb3, by rw [HS.out]; simpa [ints] using hown1⟩
      case measure => simp [intOf]; omega
    · obtain rfl : k = W := by omega
      go_wp2_with fail
      go_ret
      exact ⟨_, rfl, hown, hb⟩
end Go.Proofs.Ytinigocjeefjgaa
