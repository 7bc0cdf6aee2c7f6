/- The builders of networks: nests of loops that put comparators. Printed by gen_build.py. -/
import Derived.Test.YtkhfilkikpiepaaBuildL
import Derived.Test.YtkhfilkikpiepaaNet
import Derived.Test.YtkhfilkikpiepaaPush
namespace Go.Proofs.Ytkhfilkikpiepaa
open Go.RowKit
set_option linter.unusedVariables false
set_option maxRecDepth 100000 in
set_option maxHeartbeats 3200000 in
theorem sbatcher_any (W : Nat) (w : World) (hW1 : 1 ≤ W) (hW : W ≤ 16) :
    Calls Try.prog 55 #[.int .i64 W] w fun e w' => ∃ v, e = .returned v ∧ w'.ownsRow w.heap.size 54 2 v (batcherL W).length (cmps (batcherL W)) ∧ Below w.heap.size w w' := by
  have HT := Lib.hid (batcherL_len W hW)
  obtain ⟨i0, hi, hz0, hz1, hz2⟩ := info_parts info_cmp
  have hb0 : Below w.heap.size w (w.alloc (.cells #[] 54)) := (Below.refl _ _).alloc (Nat.le_refl _) _
  have hn0 : (w.alloc (.cells #[] 54)).ownsRow w.heap.size 54 2 (.slice (some ⟨w.heap.size, 0, none⟩) 0 0) 0 [] := World.ownsRow_made w #[] 0 (Nat.le_refl _) (by simp) (by simp)
  go_enter Try.func55, Try.ntmps55
  go_wp2_with fail
  go_loopw [3, 4] (fun v i wr => ∃ (p : Nat) (f0 : Nat) (acc0 : List (Int × Int)), i = .int .i64 p ∧ (1 ≤ p ∧ p ≤ 32) ∧ W - p ≤ f0 ∧ acc0 ++ loopL (fun p => decide (p < W)) (batB W) (fun p => p * 2) f0 p = (batcherL W) ∧ Below w.heap.size w wr ∧ wr.ownsRow w.heap.size 54 2 v acc0.length (cmps acc0)) (fun _ i _ => W - (intOf i).toNat)
  case atStart => exact ⟨1, 64, [], rfl, by omega, by omega, by first | rfl | (simp; done) | (exact rfl), hb0, hn0⟩
  case round =>
    clear hb0 hn0
    obtain ⟨p, f0, acc0, rfl, ⟨hp1, hp2⟩, hm0, hacc0, hb1, hn1⟩ := hrel
    have hal0 : acc0.length ≤ (batcherL W).length := by rw [← hacc0, List.length_append]; omega
    have HA0 := Lib.hid hacc0; clear hacc0
    by_cases hc0 : p < W
    · obtain ⟨f0, rfl⟩ : ∃ g, f0 = g + 1 := ⟨f0 - 1, by omega⟩
      have hs0 := HA0.out
      rw [loopL_true (by simpa using hc0)] at hs0
      have HS0 := Lib.hid hs0; clear hs0
      go_wp2_with fail
      have hal0b : (acc0 ++ batB W p).length ≤ (batcherL W).length := by have h := congrArg List.length HS0.out; simp only [List.length_append] at h ⊢; omega
      obtain ⟨wo1, rfl⟩ : ∃ wo : World, wo = wr := ⟨_, rfl⟩
      go_loopw [3, 5] (fun v i wr => ∃ (k : Nat) (f1 : Nat) (acc1 : List (Int × Int)), i = .int .i64 k ∧ (k ≤ p) ∧ k ≤ f1 ∧ acc1 ++ loopL (fun k => decide (1 ≤ k)) (batK W p) (fun k => k / 2) f1 k = (acc0 ++ batB W p) ∧ Below w.heap.size w wr ∧ wr.ownsRow w.heap.size 54 2 v acc1.length (cmps acc1)) (fun _ i _ => (intOf i).toNat)
      case atStart => exact ⟨p, 64, acc0, rfl, by omega, by omega, by first | rfl | (simp; done) | (exact rfl), hb1, hn1⟩
      case round =>
        clear hb1 hn1
        obtain ⟨k, f1, acc1, rfl, hkp, hm1, hacc1, hb2, hn2⟩ := hrel
        have hal1 : acc1.length ≤ (acc0 ++ batB W p).length := by rw [← hacc1, List.length_append]; omega
        have HA1 := Lib.hid hacc1; clear hacc1
        by_cases hc1 : 1 ≤ k
        · obtain ⟨f1, rfl⟩ : ∃ g, f1 = g + 1 := ⟨f1 - 1, by omega⟩
          have hs1 := HA1.out
          rw [loopL_true (by simpa using hc1)] at hs1
          have HS1 := Lib.hid hs1; clear hs1
          have hJ1 : (1 : Int) ≤ (k : Int) := by omega
          have hJ0 : (0 : Int) < (k : Int) := by omega
          have hp0 : ¬ ((p : Int) = 0) := by omega
          go_wp2_with fail
          have hal1b : (acc1 ++ batK W p k).length ≤ (acc0 ++ batB W p).length := by have h := congrArg List.length HS1.out; simp only [List.length_append] at h ⊢; omega
          obtain ⟨wo2, rfl⟩ : ∃ wo : World, wo = wr := ⟨_, rfl⟩
          go_loopw [3, 6] (fun v i wr => ∃ (j : Nat) (f2 : Nat) (acc2 : List (Int × Int)), i = .int .i64 j ∧ (j ≤ 64) ∧ W - j ≤ f2 ∧ acc2 ++ loopL (fun j => decide (j + k < W)) (batJ W p k) (fun j => j + 2 * k) f2 j = (acc1 ++ batK W p k) ∧ Below w.heap.size w wr ∧ wr.ownsRow w.heap.size 54 2 v acc2.length (cmps acc2)) (fun _ i _ => W + 64 - (intOf i).toNat)
          case atStart => exact ⟨(k % p), 64, acc1, by first | rfl | simp, by (have := Nat.mod_lt k (show 0 < p by omega); omega), by omega, by first | rfl | (simp; done) | (exact rfl), hb2, hn2⟩
          case round =>
            clear hb2 hn2
            obtain ⟨j, f2, acc2, rfl, hj, hm2, hacc2, hb3, hn3⟩ := hrel
            have hal2 : acc2.length ≤ (acc1 ++ batK W p k).length := by rw [← hacc2, List.length_append]; omega
            have HA2 := Lib.hid hacc2; clear hacc2
            by_cases hc2 : j + k < W
            · obtain ⟨f2, rfl⟩ : ∃ g, f2 = g + 1 := ⟨f2 - 1, by omega⟩
              have hs2 := HA2.out
              rw [loopL_true (by simpa using hc2)] at hs2
              have HS2 := Lib.hid hs2; clear hs2
              have hI2 : (j : Int) + k < (W : Int) := by omega
              go_wp2_with fail
              have hal2b : (acc2 ++ batJ W p k j).length ≤ (acc1 ++ batK W p k).length := by have h := congrArg List.length HS2.out; simp only [List.length_append] at h ⊢; omega
              obtain ⟨wo3, rfl⟩ : ∃ wo : World, wo = wr := ⟨_, rfl⟩
              go_loopw [3, 7] (fun v i wr => ∃ (q : Nat) (f3 : Nat) (acc3 : List (Int × Int)), i = .int .i64 q ∧ (q ≤ k) ∧ k - q ≤ f3 ∧ acc3 ++ loopL (fun q => decide (q < k) && decide (q + j + k < W)) (batI p k j) (fun q => q + 1) f3 q = (acc2 ++ batJ W p k j) ∧ Below w.heap.size w wr ∧ wr.ownsRow w.heap.size 54 2 v acc3.length (cmps acc3)) (fun _ i _ => k - (intOf i).toNat)
              case atStart => exact ⟨0, 64, acc2, rfl, by omega, by omega, by first | rfl | (simp; done) | (exact rfl), hb3, hn3⟩
              case round =>
                clear hb3 hn3
                obtain ⟨q, f3, acc3, rfl, hq1, hm3, hacc3, hb4, hn4⟩ := hrel
                have hal3 : acc3.length ≤ (acc2 ++ batJ W p k j).length := by rw [← hacc3, List.length_append]; omega
                have HA3 := Lib.hid hacc3; clear hacc3
                by_cases hc3 : q < k ∧ q + j + k < W
                · obtain ⟨f3, rfl⟩ : ∃ g, f3 = g + 1 := ⟨f3 - 1, by omega⟩
                  have hs3 := HA3.out
                  rw [loopL_true (by simpa using hc3)] at hs3
                  have HS3 := Lib.hid hs3; clear hs3
                  have hI3 : (q : Int) + j + k < (W : Int) := by omega
                  have hI4 : q < k := by omega
                  have hbI : batI p k j q = if (q + j) / (2 * p) = (q + j + k) / (2 * p) then [((q : Int) + j, (q : Int) + j + k)] else [] := rfl
                  rw [hbI] at HS3
                  clear hbI
                  have h2p : ¬ (2 * (p : Int) = 0) := by omega
                  obtain ⟨hc3a, hc3b⟩ := hc3
                  by_cases hq : (q + j) / (2 * p) = (q + j + k) / (2 * p)
                  · have hp := HS3.out
                    rw [if_pos hq] at hp
                    have HP := Lib.hid hp; clear hp
                    have hqI : (((q : Int) + j) / (2 * (p : Int)) == ((q : Int) + j + k) / (2 * (p : Int))) = true := by
                      have e1 : ((q : Int) + j) / (2 * (p : Int)) = (((q + j) / (2 * p) : Nat) : Int) := by simp
                      have e2 : ((q : Int) + j + k) / (2 * (p : Int)) = (((q + j + k) / (2 * p) : Nat) : Int) := by simp
                      rw [e1, e2]; simp; omega
                    go_upto_region 99 with fail
                    go_region
                    go_wp2_with (at_builtin; refine wpList_push' _ rfl _ _ 26 rfl w.heap.size 54 i0 _ 2 16 Try.underlying26 hi hz0 hz1 hz2 rfl (by decide) u3 _ _ rfl (by first | exact World.ownsRow.alloc hn4 _ | exact own_drew_ (World.ownsRow.alloc hn4 _)) #[.int .i64 ((q : Int) + j), .int .i64 ((q : Int) + j + k)] wr.heap.size rfl (by exact Blk.new wr _ _) rfl (by simp [Value.oneCell']) (by have := HT.out; omega) (by have := HT.out; unfold maxLen; omega) (by have := hb4.size; simp; omega) ?_; intro g1 k1 w1 hown1 hg1 hB1 hat1)
                    go_roundw
                    case rel => first | exact ⟨q + 1, f3, acc3 ++ [(((q : Int) + j), ((q : Int) + j + k))], (by go_num), (by omega), by omega, (by rw [List.append_assoc]; exact HP.out), (bdrew (alloc_ hb4 _)).trans hB1, cmps_push hown1⟩ | exact ⟨q + 1, (by go_num), (by omega), f3, by omega, acc3 ++ [(((q : Int) + j), ((q : Int) + j + k))], (by rw [List.append_assoc]; exact HP.out), (bdrew (alloc_ hb4 _)).trans hB1, cmps_push hown1⟩
                    case measure => simp [intOf]; omega
                  · have hp := HS3.out
                    rw [if_neg hq] at hp
                    have HP := Lib.hid hp; clear hp
                    have hqI : (((q : Int) + j) / (2 * (p : Int)) == ((q : Int) + j + k) / (2 * (p : Int))) = false := by
                      have e1 : ((q : Int) + j) / (2 * (p : Int)) = (((q + j) / (2 * p) : Nat) : Int) := by simp
                      have e2 : ((q : Int) + j + k) / (2 * (p : Int)) = (((q + j + k) / (2 * p) : Nat) : Int) := by simp
                      rw [e1, e2]; simp; omega
                    go_upto_region 99 with fail
                    go_region
                    go_wp2_with fail
                    go_roundw
                    case rel => first | exact ⟨q + 1, f3, acc3, (by go_num), (by omega), by omega, (by simpa using HP.out), bdrew hb4, (by exact hn4)⟩ | exact ⟨q + 1, (by go_num), (by omega), f3, by omega, acc3, (by simpa using HP.out), bdrew hb4, (by exact hn4)⟩
                    case measure => simp [intOf]; omega
                · have he3 : acc3 = (acc2 ++ batJ W p k j) := by have h := HA3.out; rwa [loopL_false (by rw [Bool.eq_false_iff]; simpa using hc3), List.append_nil] at h
                  have HE3 := Lib.hid he3; clear he3
                  by_cases hx : q < k
                  all_goals
                    try (have hI3 : ¬ (q : Int) + j + k < (W : Int) := by omega)
                    go_wp2_with fail
                    go_roundw
                    case rel => first | exact ⟨j + 2 * k, f2, acc3, (by first | go_num | simp), (by omega), by omega, (by rw [HE3.out, List.append_assoc]; exact HS2.out), hb4, hn4⟩ | exact ⟨j + 2 * k, (by first | go_num | simp), (by omega), f2, by omega, acc3, (by rw [HE3.out, List.append_assoc]; exact HS2.out), hb4, hn4⟩
                    case measure => simp [intOf]; omega
            · have he2 : acc2 = (acc1 ++ batK W p k) := by have h := HA2.out; rwa [loopL_false (by simpa using hc2), List.append_nil] at h
              have hI2 : ¬ (j : Int) + k < (W : Int) := by omega
              have HE2 := Lib.hid he2; clear he2
              go_wp2_with fail
              go_roundw
              case rel => first | exact ⟨k / 2, f1, acc2, (by first | go_num | simp), (by omega), by omega, (by rw [HE2.out, List.append_assoc]; exact HS1.out), hb3, hn3⟩ | exact ⟨k / 2, (by first | go_num | simp), (by omega), f1, by omega, acc2, (by rw [HE2.out, List.append_assoc]; exact HS1.out), hb3, hn3⟩
              case measure => simp [intOf]; omega
        · have he1 : acc1 = (acc0 ++ batB W p) := by have h := HA1.out; rwa [loopL_false (by simpa using hc1), List.append_nil] at h
          have hJ1 : ¬ (1 : Int) ≤ (k : Int) := by omega
          have hJ0 : ¬ (0 : Int) < (k : Int) := by omega
          have HE1 := Lib.hid he1; clear he1
          go_wp2_with fail
          go_roundw
          case rel => first | exact ⟨p * 2, f0, acc1, (by first | go_num | (congr 1; omega)), (by omega), by omega, (by rw [HE1.out, List.append_assoc]; exact HS0.out), hb2, hn2⟩ | exact ⟨p * 2, (by first | go_num | (congr 1; omega)), (by omega), f0, by omega, acc1, (by rw [HE1.out, List.append_assoc]; exact HS0.out), hb2, hn2⟩
          case measure => simp [intOf]; omega
    · have he0 : acc0 = (batcherL W) := by have h := HA0.out; rwa [loopL_false (by simpa using hc0), List.append_nil] at h
      rw [he0] at hn1
      go_wp2_with fail
      go_ret
      exact ⟨_, rfl, hn1, hb1⟩
end Go.Proofs.Ytkhfilkikpiepaa
