/- The builders of networks: nests of loops that put comparators. Printed by gen_build.py. -/
import Derived.Test.YtkhfilkikpiepaaBuildL
import Derived.Test.YtkhfilkikpiepaaNet
import Derived.Test.YtkhfilkikpiepaaPush
namespace Go.Proofs.Ytkhfilkikpiepaa
open Go.RowKit
set_option linter.unusedVariables false
set_option maxRecDepth 100000 in
set_option maxHeartbeats 3200000 in
theorem sbubble_any (W : Nat) (w : World) (hW1 : 1 ≤ W) (hW : W ≤ 16) :
    Calls Try.prog 53 #[.int .i64 W] w fun e w' => ∃ v, e = .returned v ∧ w'.ownsRow w.heap.size 54 2 v (bubbleL W).length (cmps (bubbleL W)) ∧ Below w.heap.size w w' := by
  have HT := Lib.hid (bubbleL_len W hW)
  obtain ⟨i0, hi, hz0, hz1, hz2⟩ := info_parts info_cmp
  have hb0 : Below w.heap.size w (w.alloc (.cells #[] 54)) := (Below.refl _ _).alloc (Nat.le_refl _) _
  have hn0 : (w.alloc (.cells #[] 54)).ownsRow w.heap.size 54 2 (.slice (some ⟨w.heap.size, 0, none⟩) 0 0) 0 [] := World.ownsRow_made w #[] 0 (Nat.le_refl _) (by simp) (by simp)
  go_enter Try.func53, Try.ntmps53
  go_wp2_with fail
  go_loopw [3, 4] (fun v i wr => ∃ (r : Nat) (f0 : Nat) (acc0 : List (Int × Int)), i = .int .i64 r ∧ (r ≤ W - 1) ∧ r ≤ f0 ∧ acc0 ++ loopL (fun r => decide (1 ≤ r)) bubB (fun r => r - 1) f0 r = (bubbleL W) ∧ Below w.heap.size w wr ∧ wr.ownsRow w.heap.size 54 2 v acc0.length (cmps acc0)) (fun _ i _ => (intOf i).toNat)
  case atStart => exact ⟨(W - 1), (W - 1), [], by first | rfl | (rw [show ((W - 1 : Nat) : Int) = (W : Int) - 1 from by omega]), by omega, Nat.le_refl _, by first | rfl | (simp; done) | (exact rfl), hb0, hn0⟩
  case round =>
    clear hb0 hn0
    obtain ⟨r, f0, acc0, rfl, hr, hm0, hacc0, hb1, hn1⟩ := hrel
    have hal0 : acc0.length ≤ (bubbleL W).length := by rw [← hacc0, List.length_append]; omega
    have HA0 := Lib.hid hacc0; clear hacc0
    by_cases hc0 : 1 ≤ r
    · obtain ⟨f0, rfl⟩ : ∃ g, f0 = g + 1 := ⟨f0 - 1, by omega⟩
      have hs0 := HA0.out
      rw [loopL_true (by simpa using hc0)] at hs0
      have HS0 := Lib.hid hs0; clear hs0
      have hI1 : (1 : Int) ≤ (r : Int) := by omega
      have hI0 : (0 : Int) < (r : Int) := by omega
      go_wp2_with fail
      have hal0b : (acc0 ++ bubB r).length ≤ (bubbleL W).length := by have h := congrArg List.length HS0.out; simp only [List.length_append] at h ⊢; omega
      obtain ⟨wo1, rfl⟩ : ∃ wo : World, wo = wr := ⟨_, rfl⟩
      go_loopw [3, 5] (fun v i wr => ∃ (k : Nat) (f1 : Nat) (acc1 : List (Int × Int)), i = .int .i64 k ∧ (k ≤ r) ∧ r - k ≤ f1 ∧ acc1 ++ loopL (fun k => decide (k < r)) stepB (fun k => k + 1) f1 k = (acc0 ++ bubB r) ∧ Below w.heap.size w wr ∧ wr.ownsRow w.heap.size 54 2 v acc1.length (cmps acc1)) (fun _ i _ => r - (intOf i).toNat)
      case atStart => exact ⟨0, 64, acc0, rfl, by omega, by omega, by first | rfl | (simp; done) | (exact rfl), hb1, hn1⟩
      case round =>
        clear hb1 hn1
        obtain ⟨k, f1, acc1, rfl, hk, hm1, hacc1, hb2, hn2⟩ := hrel
        have hal1 : acc1.length ≤ (acc0 ++ bubB r).length := by rw [← hacc1, List.length_append]; omega
        have HA1 := Lib.hid hacc1; clear hacc1
        by_cases hc1 : k < r
        · obtain ⟨f1, rfl⟩ : ∃ g, f1 = g + 1 := ⟨f1 - 1, by omega⟩
          have hs1 := HA1.out
          rw [loopL_true (by simpa using hc1)] at hs1
          have HS1 := Lib.hid hs1; clear hs1
          have HSB : stepB k = [((k : Int), (k : Int) + 1)] := rfl
          rw [HSB] at HS1
          clear HSB
          have HP := HS1
          go_wp2_with (at_builtin; refine wpList_push' _ rfl _ _ 26 rfl w.heap.size 54 i0 _ 2 16 Try.underlying26 hi hz0 hz1 hz2 rfl (by decide) u3 _ _ rfl (by first | exact World.ownsRow.alloc hn2 _ | exact own_drew_ (World.ownsRow.alloc hn2 _)) #[.int .i64 (k : Int), .int .i64 ((k : Int) + 1)] wr.heap.size rfl (by exact Blk.new wr _ _) rfl (by simp [Value.oneCell']) (by have := HT.out; omega) (by have := HT.out; unfold maxLen; omega) (by have := hb2.size; simp; omega) ?_; intro g1 k1 w1 hown1 hg1 hB1 hat1)
          go_roundw
          case rel => first | exact ⟨k + 1, f1, acc1 ++ [((k : Int), ((k : Int) + 1))], (by go_num), (by omega), by omega, (by rw [List.append_assoc]; exact HP.out), (alloc_ hb2 _).trans hB1, cmps_push hown1⟩ | exact ⟨k + 1, (by go_num), (by omega), f1, by omega, acc1 ++ [((k : Int), ((k : Int) + 1))], (by rw [List.append_assoc]; exact HP.out), (alloc_ hb2 _).trans hB1, cmps_push hown1⟩
          case measure => simp [intOf]; omega
        · have he1 : acc1 = (acc0 ++ bubB r) := by have h := HA1.out; rwa [loopL_false (by simpa using hc1), List.append_nil] at h
          have HE1 := Lib.hid he1; clear he1
          go_wp2_with fail
          go_roundw
          case rel => first | exact ⟨r - 1, f0, acc1, (by rw [show ((r - 1 : Nat) : Int) = (r : Int) - 1 from by omega]), (by omega), by omega, (by rw [HE1.out, List.append_assoc]; exact HS0.out), hb2, hn2⟩ | exact ⟨r - 1, (by rw [show ((r - 1 : Nat) : Int) = (r : Int) - 1 from by omega]), (by omega), f0, by omega, acc1, (by rw [HE1.out, List.append_assoc]; exact HS0.out), hb2, hn2⟩
          case measure => simp [intOf]; omega
    · have he0 : acc0 = (bubbleL W) := by have h := HA0.out; rwa [loopL_false (by simpa using hc0), List.append_nil] at h
      have hI1 : ¬ (1 : Int) ≤ (r : Int) := by omega
      have hI0 : ¬ (0 : Int) < (r : Int) := by omega
      rw [he0] at hn1
      go_wp2_with fail
      go_ret
      exact ⟨_, rfl, hn1, hb1⟩
end Go.Proofs.Ytkhfilkikpiepaa
