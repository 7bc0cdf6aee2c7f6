/- The builders of networks: nests of loops that put comparators. Printed by gen_build.py. -/
import Derived.Test.YtkhfilkikpiepaaBuildL
import Derived.Test.YtkhfilkikpiepaaNet
import Derived.Test.YtkhfilkikpiepaaPush
namespace Go.Proofs.Ytkhfilkikpiepaa
open Go.RowKit
set_option linter.unusedVariables false
set_option maxRecDepth 100000 in
set_option maxHeartbeats 3200000 in
theorem sbitonic_any (W : Nat) (w : World) (hW1 : 1 ≤ W) (hW : W ≤ 16) :
    Calls Try.prog 56 #[.int .i64 W] w fun e w' => ∃ v, e = .returned v ∧ w'.ownsRow w.heap.size 54 2 v (bitonicL W).length (cmps (bitonicL W)) ∧ Below w.heap.size w w' := by
  have HT := Lib.hid (bitonicL_len W hW)
  obtain ⟨i0, hi, hz0, hz1, hz2⟩ := info_parts info_cmp
  have hb0 : Below w.heap.size w (w.alloc (.cells #[] 54)) := (Below.refl _ _).alloc (Nat.le_refl _) _
  have hn0 : (w.alloc (.cells #[] 54)).ownsRow w.heap.size 54 2 (.slice (some ⟨w.heap.size, 0, none⟩) 0 0) 0 [] := World.ownsRow_made w #[] 0 (Nat.le_refl _) (by simp) (by simp)
  go_enter Try.func56, Try.ntmps56
  go_wp2_with fail
  go_loopw [3, 4] (fun v i wr => ∃ (k : Nat) (f0 : Nat) (acc0 : List (Int × Int)), i = .int .i64 k ∧ (2 ≤ k ∧ k ≤ 64) ∧ W + 1 - k ≤ f0 ∧ acc0 ++ loopL (fun k => decide (k ≤ W)) (btqB W) (fun k => k * 2) f0 k = (bitonicL W) ∧ Below w.heap.size w wr ∧ wr.ownsRow w.heap.size 54 2 v acc0.length (cmps acc0)) (fun _ i _ => W + 1 - (intOf i).toNat)
  case atStart => exact ⟨2, 64, [], rfl, by omega, by omega, by first | rfl | (simp; done) | (exact rfl), hb0, hn0⟩
  case round =>
    clear hb0 hn0
    obtain ⟨k, f0, acc0, rfl, ⟨hk1, hk2⟩, hm0, hacc0, hb1, hn1⟩ := hrel
    have hal0 : acc0.length ≤ (bitonicL W).length := by rw [← hacc0, List.length_append]; omega
    have HA0 := Lib.hid hacc0; clear hacc0
    by_cases hc0 : k ≤ W
    · obtain ⟨f0, rfl⟩ : ∃ g, f0 = g + 1 := ⟨f0 - 1, by omega⟩
      have hs0 := HA0.out
      rw [loopL_true (by simpa using hc0)] at hs0
      have HS0 := Lib.hid hs0; clear hs0
      go_wp2_with fail
      have hal0b : (acc0 ++ btqB W k).length ≤ (bitonicL W).length := by have h := congrArg List.length HS0.out; simp only [List.length_append] at h ⊢; omega
      obtain ⟨wo1, rfl⟩ : ∃ wo : World, wo = wr := ⟨_, rfl⟩
      go_loopw [3, 5] (fun v i wr => ∃ (j : Nat) (f1 : Nat) (acc1 : List (Int × Int)), i = .int .i64 j ∧ (j ≤ 8) ∧ j ≤ f1 ∧ acc1 ++ loopL (fun j => decide (1 ≤ j)) (btqJ W k) (fun j => j / 2) f1 j = (acc0 ++ btqB W k) ∧ Below w.heap.size w wr ∧ wr.ownsRow w.heap.size 54 2 v acc1.length (cmps acc1)) (fun _ i _ => (intOf i).toNat)
      case atStart => exact ⟨(k / 2), 64, acc0, by first | rfl | simp, by omega, by omega, by first | rfl | (simp; done) | (exact rfl), hb1, hn1⟩
      case round =>
        clear hb1 hn1
        obtain ⟨j, f1, acc1, rfl, hj, hm1, hacc1, hb2, hn2⟩ := hrel
        have hal1 : acc1.length ≤ (acc0 ++ btqB W k).length := by rw [← hacc1, List.length_append]; omega
        have HA1 := Lib.hid hacc1; clear hacc1
        by_cases hc1 : 1 ≤ j
        · obtain ⟨f1, rfl⟩ : ∃ g, f1 = g + 1 := ⟨f1 - 1, by omega⟩
          have hs1 := HA1.out
          rw [loopL_true (by simpa using hc1)] at hs1
          have HS1 := Lib.hid hs1; clear hs1
          have hJ1 : (1 : Int) ≤ (j : Int) := by omega
          have hJ0 : (0 : Int) < (j : Int) := by omega
          go_wp2_with fail
          have hal1b : (acc1 ++ btqJ W k j).length ≤ (acc0 ++ btqB W k).length := by have h := congrArg List.length HS1.out; simp only [List.length_append] at h ⊢; omega
          obtain ⟨wo2, rfl⟩ : ∃ wo : World, wo = wr := ⟨_, rfl⟩
          go_loopw [3, 6] (fun v i wr => ∃ (q : Nat) (f2 : Nat) (acc2 : List (Int × Int)), i = .int .i64 q ∧ (q ≤ W) ∧ W - q ≤ f2 ∧ acc2 ++ loopL (fun q => decide (q < W)) (btqI k j) (fun q => q + 1) f2 q = (acc1 ++ btqJ W k j) ∧ Below w.heap.size w wr ∧ wr.ownsRow w.heap.size 54 2 v acc2.length (cmps acc2)) (fun _ i _ => W - (intOf i).toNat)
          case atStart => exact ⟨0, 64, acc1, rfl, by omega, by omega, by first | rfl | (simp; done) | (exact rfl), hb2, hn2⟩
          case round =>
            clear hb2 hn2
            obtain ⟨q, f2, acc2, rfl, hq1, hm2, hacc2, hb3, hn3⟩ := hrel
            have hal2 : acc2.length ≤ (acc1 ++ btqJ W k j).length := by rw [← hacc2, List.length_append]; omega
            have HA2 := Lib.hid hacc2; clear hacc2
            by_cases hc2 : q < W
            · obtain ⟨f2, rfl⟩ : ∃ g, f2 = g + 1 := ⟨f2 - 1, by omega⟩
              have hs2 := HA2.out
              rw [loopL_true (by simpa using hc2)] at hs2
              have HS2 := Lib.hid hs2; clear hs2
              have E1 := i64_xor_ q j (by omega) (by omega)
              have E2 := i64_xor_ q (k - 1) (by omega) (by omega)
              rw [show ((k - 1 : Nat) : Int) = (k : Int) - 1 from by omega] at E2
              obtain ⟨mm, hmm⟩ : ∃ mm, mm = btqM k j q := ⟨_, rfl⟩
              have hbI : btqI k j q = if q < mm then [((q : Int), (mm : Int))] else [] := by rw [hmm]; rfl
              rw [hbI] at HS2
              clear hbI
              have hE2 : j = k / 2 → bits .xor .i64 (q : Int) ((k : Int) - 1) = (mm : Int) := fun h => by rw [E2, hmm, btqM, if_pos h]
              have hE1 : ¬ j = k / 2 → bits .xor .i64 (q : Int) (j : Int) = (mm : Int) := fun h => by rw [E1, hmm, btqM, if_neg h]
              by_cases hjk : j = k / 2
              all_goals
                first | (have E3 := hE2 hjk; clear E1 E2; have hb2k : ((j : Int) == (k : Int) / 2) = true := (by rw [beq_iff_eq]; omega)) | (have E3 := hE1 hjk; clear E1 E2; have hb2k : ((j : Int) == (k : Int) / 2) = false := (by rw [beq_eq_false_iff_ne]; omega))
                clear hmm hjk hE1 hE2
                go_upto_region 14 with fail
                clear E3
                by_cases hq : q < mm
                · have hp := HS2.out
                  rw [if_pos hq] at hp
                  have HP := Lib.hid hp; clear hp
                  go_wp2_with (at_builtin; refine wpList_push' _ rfl _ _ 26 rfl w.heap.size 54 i0 _ 2 16 Try.underlying26 hi hz0 hz1 hz2 rfl (by decide) u3 _ _ rfl (by first | exact World.ownsRow.alloc hn3 _ | exact own_drew_ (World.ownsRow.alloc hn3 _)) #[.int .i64 (q : Int), .int .i64 (mm : Int)] wr.heap.size rfl (by exact Blk.new wr _ _) rfl (by simp [Value.oneCell']) (by have := HT.out; omega) (by have := HT.out; unfold maxLen; omega) (by have := hb3.size; simp; omega) ?_; intro g1 k1 w1 hown1 hg1 hB1 hat1)
                  go_roundw
                  case rel => first | exact ⟨q + 1, f2, acc2 ++ [((q : Int), (mm : Int))], (by go_num), (by omega), by omega, (by rw [List.append_assoc]; exact HP.out), (alloc_ hb3 _).trans hB1, cmps_push hown1⟩ | exact ⟨q + 1, (by go_num), (by omega), f2, by omega, acc2 ++ [((q : Int), (mm : Int))], (by rw [List.append_assoc]; exact HP.out), (alloc_ hb3 _).trans hB1, cmps_push hown1⟩
                  case measure => simp [intOf]; omega
                · have hp := HS2.out
                  rw [if_neg hq] at hp
                  have HP := Lib.hid hp; clear hp
                  go_wp2_with fail
                  go_roundw
                  case rel => first | exact ⟨q + 1, f2, acc2, (by go_num), (by omega), by omega, (by simpa using HP.out), hb3, (by exact hn3)⟩ | exact ⟨q + 1, (by go_num), (by omega), f2, by omega, acc2, (by simpa using HP.out), hb3, (by exact hn3)⟩
                  case measure => simp [intOf]; omega
            · have he2 : acc2 = (acc1 ++ btqJ W k j) := by have h := HA2.out; rwa [loopL_false (by simpa using hc2), List.append_nil] at h
              have HE2 := Lib.hid he2; clear he2
              go_wp2_with fail
              go_roundw
              case rel => first | exact ⟨j / 2, f1, acc2, (by first | go_num | simp), (by omega), by omega, (by rw [HE2.out, List.append_assoc]; exact HS1.out), hb3, hn3⟩ | exact ⟨j / 2, (by first | go_num | simp), (by omega), f1, by omega, acc2, (by rw [HE2.out, List.append_assoc]; exact HS1.out), hb3, hn3⟩
              case measure => simp [intOf]; omega
        · have he1 : acc1 = (acc0 ++ btqB W k) := by have h := HA1.out; rwa [loopL_false (by simpa using hc1), List.append_nil] at h
          have hJ1 : ¬ (1 : Int) ≤ (j : Int) := by omega
          have hJ0 : ¬ (0 : Int) < (j : Int) := by omega
          have HE1 := Lib.hid he1; clear he1
          go_wp2_with fail
          go_roundw
          case rel => first | exact ⟨k * 2, f0, acc1, (by first | go_num | (congr 1; omega)), (by omega), by omega, (by rw [HE1.out, List.append_assoc]; exact HS0.out), hb2, hn2⟩ | exact ⟨k * 2, (by first | go_num | (congr 1; omega)), (by omega), f0, by omega, acc1, (by rw [HE1.out, List.append_assoc]; exact HS0.out), hb2, hn2⟩
          case measure => simp [intOf]; omega
    · have he0 : acc0 = (bitonicL W) := by have h := HA0.out; rwa [loopL_false (by simpa using hc0), List.append_nil] at h
      rw [he0] at hn1
      go_wp2_with fail
      go_ret
      exact ⟨_, rfl, hn1, hb1⟩
end Go.Proofs.Ytkhfilkikpiepaa
