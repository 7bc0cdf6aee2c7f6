/- Walks of exact laws, printed by lawgen.py. -/
import Derived.Test.YtinigocjeefjgaaRedB
namespace Go.Proofs.Ytinigocjeefjgaa
open Go.RowKit
set_option linter.unusedVariables false
set_option maxRecDepth 100000 in
set_option maxHeartbeats 1600000 in
theorem FnExactRedundantComparators_any (W0 : Int) (A0 : Option Addr) (z0 : List (Int × Int)) (c0 : Nat) (w : World) (hx0 : Reads w w.heap.size 2 A0 z0.length (cmps z0)) (hm0 : z0.length ≤ maxLen) :
    Calls Try.prog 5 #[.agg #[.int .i64 W0, .slice A0 z0.length c0]] w fun e w' => e = .returned (.bool true) ∧ Below w.heap.size w w' := by
  have e1 : ∀ x : Int, (x != x) = false := by simp
  have e2 : ∀ x : Bool, (x != x) = false := by simp
  rcases szv_cases z0.length 1048576 (by omega) (by omega) with hz0 | ⟨hl0, hze0, hzp0⟩
  case inl =>
    go_enter Try.func5, Try.ntmps5
    go_wp2_with fail
    refine (szNetwork_any W0 A0 z0.length c0 1048576 _ hm0 (by omega) (by omega)).mono ?_
    rintro e w1 ⟨rfl, b1⟩
    obtain ⟨B1, k1⟩ := step_box b1
    go_wp2_with fail
    go_ret
    exact ⟨rfl, B1⟩
  have hzn0 : ¬ (szv z0.length 1048576) < 0 := by omega
  have HZ0 := Lib.hid hze0; clear hze0
  have hzu0 : (szv z0.length 1048576) ≤ 1048576 := by have := HZ0.out; omega
  have hlenA := rc_len W0 z0
  go_enter Try.func5, Try.ntmps5
  go_wp2_with fail
  refine (szNetwork_any W0 A0 z0.length c0 1048576 _ hm0 (by omega) (by omega)).mono ?_
  rintro e w2 ⟨rfl, b2⟩
  obtain ⟨B2, k2⟩ := step_box b2
  have q3 := (k2).two
  have q3l := (k2).lt
  go_wp2_with fail
  clear q3 q3l
  refine (toNetwork_any W0 A0 z0 c0 _ (by exact (Reads.more (Reads.below hx0 B2) (Below.size B2))) (by omega)).mono ?_
  rintro e w4 ⟨gt3, rfl, ot3, b4⟩
  have c4_w := bthen B2 b4
  have ot3B := own_base (base' := w2.heap.size) ot3 (by first | exact Nat.le_refl _ | (simp only [World.size_alloc]; omega))
  have q5 := ((Blk.below_ k2 b4)).two
  have q5l := ((Blk.below_ k2 b4)).lt
  go_wp2_with fail
  clear q5 q5l
  refine (sRedundantComparators_any W0 (some ⟨gt3, 0, none⟩) z0 z0.length _ (by exact (Reads.of_own ot3B)) (by omega)).mono ?_
  rintro e w6 ⟨AW0, CW0, rfl, oW0, b6⟩
  have c6_w := bthen c4_w b6
  have c6_w2 := bthen b4 b6
  have oW0B := own_base (base' := w4.heap.size) oW0 (by first | exact Nat.le_refl _ | (simp only [World.size_alloc]; omega))
  have q7 := ((Blk.below_ k2 c6_w2)).two
  have q7l := ((Blk.below_ k2 c6_w2)).lt
  go_wp2_with fail
  clear q7 q7l
  refine (toNetwork_any W0 A0 z0 c0 _ (by exact (Reads.more (Reads.below hx0 c6_w) (Below.size c6_w))) (by omega)).mono ?_
  rintro e w8 ⟨gx0, rfl, ox0, b8⟩
  have c8_w := bthen c6_w b8
  have c8_w2 := bthen c6_w2 b8
  have ox0B := own_base (base' := w6.heap.size) ox0 (by first | exact Nat.le_refl _ | (simp only [World.size_alloc]; omega))
  have q9 := ((Blk.below_ k2 c8_w2)).two
  have q9l := ((Blk.below_ k2 c8_w2)).lt
  go_wp2_with fail
  clear q9 q9l
  refine (RedundantComparators_any W0 (some ⟨gx0, 0, none⟩) z0 z0.length _ (by exact (Reads.of_own (own_below ox0B (alloc_ (Below.refl _ _) _) (Nat.le_refl _)))) (by omega)).mono ?_
  rintro e w10 ⟨AG0, CG0, rfl, oG0, b10⟩
  obtain ⟨B10, k10⟩ := step_box b10
  have c10_w := bthen c8_w B10
  have c10_w2 := bthen c8_w2 B10
  have c10_w6 := bthen b8 B10
  have oG0B := own_base (base' := w8.heap.size) oG0 (by first | exact Nat.le_refl _ | (simp only [World.size_alloc]; omega))
  have q11 := ((Blk.below_ k2 c10_w2)).two
  have q11l := ((Blk.below_ k2 c10_w2)).lt
  have q12 := (k10).two
  have q12l := (k10).lt
  go_wp2_with fail
  clear q11 q11l q12 q12l
  refine (eqIntS_b AG0 AW0 (rcV W0 z0) (rcV W0 z0) CG0 CW0 _ (by exact (Reads.of_own oG0B)) (by exact (Reads.of_own (own_below oW0B c10_w6 (Nat.le_refl _)))) (by omega) (by omega)).mono ?_
  rintro e w13 ⟨rfl, b13⟩
  have c13_w := bthen c10_w b13
  have c13_w2 := bthen c10_w2 b13
  have c13_w6 := bthen c10_w6 b13
  have c13_w8 := bthen B10 b13
  have q14 := ((Blk.below_ k2 c13_w2)).two
  have q14l := ((Blk.below_ k2 c13_w2)).lt
  have q15 := ((Blk.below_ k10 b13)).two
  have q15l := ((Blk.below_ k10 b13)).lt
  go_wp2_with fail
  have r16 := (Reads.more (Reads.below hx0 c13_w) (Below.size c13_w))
  go_region_held3 (fun w' => w'.cell? ⟨w8.heap.size, 0, none⟩ = some (.int .i64 W0) ∧ w'.cell? ⟨w8.heap.size, 1, none⟩ = some (.slice (some ⟨gx0, 0, none⟩) z0.length z0.length) ∧ w'.cell? ⟨w.heap.size, 0, none⟩ = some (.int .i64 W0) ∧ w'.cell? ⟨w.heap.size, 1, none⟩ = some (.slice A0 z0.length c0)) (first | go_keep | (go_split_ands; refine ⟨?_, ?_, ?_, ?_⟩ <;> (first | (rw [Below.cell b16B (by simp; omega)]; assumption) | (rw [Below.cell b16A (by simp; omega)]; assumption)))) (first | (go_at_call 9; refine (toNetwork_any W0 A0 z0 c0 _ (by exact r16) (by omega)).mono ?_; rintro e w16A ⟨g16A, rfl, o16A, b16A⟩; have l16A := b16A.size; simp only [World.size_drew] at l16A) | (go_at_call 11; refine (eqNetwork_any W0 W0 (some ⟨gx0, 0, none⟩) (some ⟨g16A, 0, none⟩) z0 z0 z0.length z0.length _ (by exact Reads.of_own (own_below (own_below ox0B c13_w8 (Nat.le_refl _)) (undrew b16A) (Nat.le_refl _))) (by exact Reads.of_own o16A) (by omega) (by omega)).mono ?_; rintro e w16B ⟨rfl, b16B⟩))
  clear q14 q14l q15 q15l
  have b16 := bthen (undrew b16A) b16B
  have c16_w := bthen c13_w b16
  have c16_w2 := bthen c13_w2 b16
  have c16_w6 := bthen c13_w6 b16
  have c16_w8 := bthen c13_w8 b16
  have c16_w10 := bthen b13 b16
  have q17 := ((Blk.below_ k2 c16_w2)).two
  have q17l := ((Blk.below_ k2 c16_w2)).lt
  have q18 := ((Blk.below_ k10 c16_w10)).two
  have q18l := ((Blk.below_ k10 c16_w10)).lt
  go_wp2_with fail
  clear q17 q17l q18 q18l
  refine (markNetwork_any w6.heap.size W0 (some ⟨gx0, 0, none⟩) z0 z0.length 1 _ (by omega) (by omega) (by omega) (by exact (own_below ox0B c16_w8 (Nat.le_refl _)))).mono ?_
  rintro e w19 ⟨rfl, o19, g19⟩
  have o19_W0 := World.ownsRow.kept (own_below oW0B c16_w6 (Nat.le_refl _)) g19 (own_ne_type (own_below oW0B c16_w6 (Nat.le_refl _)) (own_below ox0B c16_w8 (Nat.le_refl _)) (by decide))
  have o19_G0 := World.ownsRow.kept (own_below oG0B c16_w10 (Nat.le_refl _)) g19 (own_ne_type (own_below oG0B c16_w10 (Nat.le_refl _)) (own_below ox0B c16_w8 (Nat.le_refl _)) (by decide))
  have k19_a0 := Blk.grown (Blk.below_ k2 c16_w2) g19 (fun e => own_blk_ne (own_below ox0B c16_w8 (Nat.le_refl _)) (Blk.below_ k2 c16_w2) (by decide) e.symm)
  have k19_x0 := Blk.grown (Blk.below_ k10 c16_w10) g19 (fun e => own_blk_ne (own_below ox0B c16_w8 (Nat.le_refl _)) (Blk.below_ k10 c16_w10) (by decide) e.symm)
  have c19_w := Below.trans c16_w (below_of_grown g19 (Below.size c16_w) (fun k hk => Nat.le_trans (Below.size c6_w) (own_lt ox0B k hk).1))
  have hk0 : ¬ ((1 + 2 * z0.length) : Int) < 0 := by omega
  have q20 := (k19_a0).two
  have q20l := (k19_a0).lt
  go_wp2_with fail
  clear q20 q20l
  refine (eqIntS_b AG0 AW0 (rcV W0 z0) (rcV W0 z0) CG0 CW0 _ (by exact (Reads.of_own o19_G0)) (by exact (Reads.of_own o19_W0)) (by omega) (by omega)).mono ?_
  rintro e w21 ⟨rfl, b21⟩
  have c21_w := bthen c19_w b21
  have q22 := ((Blk.below_ k19_a0 b21)).two
  have q22l := ((Blk.below_ k19_a0 b21)).lt
  go_wp2_with fail
  clear q22 q22l
  refine (markIntS_b w8.heap.size AG0 (rcV W0 z0) CG0 1 _ (by omega) (by omega) (by omega) (by exact (own_below o19_G0 b21 (Nat.le_refl _)))).mono ?_
  rintro e w23 ⟨rfl, o23, g23⟩
  have o23_W0 := World.ownsRow.kept (own_below o19_W0 b21 (Nat.le_refl _)) g23 (own_ne_new oW0B oG0B (Below.size b8))
  have k23_a0 := Blk.grown (Blk.below_ k19_a0 b21) g23 (fun e => own_blk_ne (own_below o19_G0 b21 (Nat.le_refl _)) (Blk.below_ k19_a0 b21) (by decide) e.symm)
  have c23_w := Below.trans c21_w (below_of_grown g23 (Below.size c21_w) (fun k hk => Nat.le_trans (Below.size c8_w) (own_lt oG0B k hk).1))
  have hq0 : ¬ ((1 + (rcV W0 z0).length) : Int) < 0 := by omega
  have hqm : (((1 + (rcV W0 z0).length) : Int) != (1 + (rcV W0 z0).length)) = false := by simp
  have q24 := (k23_a0).two
  have q24l := (k23_a0).lt
  go_wp2_with fail
  clear q24 q24l
  refine (heldIntS_b AG0 (rcV W0 z0).length CG0 1 _ (by omega) (by omega) (by omega) (by exact (Reads.of_own o23))).mono ?_
  rintro e w25 ⟨rfl, b25⟩
  have c25_w := bthen c23_w b25
  have q26 := ((Blk.below_ k23_a0 b25)).two
  have q26l := ((Blk.below_ k23_a0 b25)).lt
  go_wp2_with fail
  clear q26 q26l
  refine (toNetwork_any W0 A0 z0 c0 _ (by exact (Reads.more (Reads.below hx0 c25_w) (Below.size c25_w))) (by omega)).mono ?_
  rintro e w27 ⟨gt26, rfl, ot26, b27⟩
  have c27_w := bthen c25_w b27
  have c27_w23 := bthen b25 b27
  have ot26B := own_base (base' := w25.heap.size) ot26 (by first | exact Nat.le_refl _ | (simp only [World.size_alloc]; omega))
  have q28 := ((Blk.below_ k23_a0 c27_w23)).two
  have q28l := ((Blk.below_ k23_a0 c27_w23)).lt
  go_wp2_with fail
  clear q28 q28l
  refine (RedundantComparators_any W0 (some ⟨gt26, 0, none⟩) z0 z0.length _ (by exact (Reads.of_own ot26B)) (by omega)).mono ?_
  rintro e w29 ⟨AH0, CH0, rfl, oH0, b29⟩
  have c29_w := bthen c27_w b29
  have c29_w23 := bthen c27_w23 b29
  have oH0B := own_base (base' := w27.heap.size) oH0 (by first | exact Nat.le_refl _ | (simp only [World.size_alloc]; omega))
  have q30 := ((Blk.below_ k23_a0 c29_w23)).two
  have q30l := ((Blk.below_ k23_a0 c29_w23)).lt
  go_wp2_with fail
  clear q30 q30l
  refine (eqIntS_b AH0 AW0 (rcV W0 z0) (rcV W0 z0) CH0 CW0 _ (by exact (Reads.of_own oH0B)) (by exact (Reads.of_own (own_below o23_W0 c29_w23 (Nat.le_refl _)))) (by omega) (by omega)).mono ?_
  rintro e w31 ⟨rfl, b31⟩
  have c31_w := bthen c29_w b31
  have c31_w23 := bthen c29_w23 b31
  have q32 := ((Blk.below_ k23_a0 c31_w23)).two
  have q32l := ((Blk.below_ k23_a0 c31_w23)).lt
  go_wp2_with fail
  clear q32 q32l
  refine (heldIntS_b AG0 (rcV W0 z0).length CG0 1 _ (by omega) (by omega) (by omega) (by exact (Reads.of_own (own_below o23 c31_w23 (Nat.le_refl _))))).mono ?_
  rintro e w33 ⟨rfl, b33⟩
  have c33_w := bthen c31_w b33
  have c33_w23 := bthen c31_w23 b33
  have c33_w29 := bthen b31 b33
  go_wp2_with fail
  go_ret
  exact ⟨rfl, c33_w⟩
end Go.Proofs.Ytinigocjeefjgaa
