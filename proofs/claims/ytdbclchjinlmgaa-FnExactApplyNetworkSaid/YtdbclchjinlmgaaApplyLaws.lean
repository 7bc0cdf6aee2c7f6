/- Walks of exact laws, printed by lawgen.py. -/
import Derived.Test.YtdbclchjinlmgaaApplyW
namespace Go.Proofs.Ytdbclchjinlmgaa
open Go.RowKit
set_option linter.unusedVariables false
set_option maxRecDepth 100000 in
set_option maxHeartbeats 1600000 in
theorem FnExactApplyNetwork_any (W0 : Int) (A0 : Option Addr) (z0 : List (Int × Int)) (c0 : Nat) (A1 : Option Addr) (z1 : List Int) (c1 : Nat) (w : World) (hx0 : Reads w w.heap.size 2 A0 z0.length (cmps z0)) (hm0 : z0.length ≤ maxLen) (hx1 : Reads w w.heap.size 1 A1 z1.length (ints z1)) (hm1 : z1.length ≤ maxLen) :
    Calls Try.prog 5 #[.agg #[.int .i64 W0, .slice A0 z0.length c0], .slice A1 z1.length c1] w fun e w' => e = .returned (.bool true) ∧ Below w.heap.size w w' := by
  have e1 : ∀ x : Int, (x != x) = false := by simp
  have e2 : ∀ x : Bool, (x != x) = false := by simp
  unfold maxLen at hm1
  by_cases hl1 : z1.length ≤ 1048576
  case neg =>
    have hl1' : (1048576 : Int) < z1.length := by omega
    go_enter Try.func5, Try.ntmps5
    go_wp2_with fail
    go_ret
    exact ⟨rfl, by go_grown⟩
  have hl1' : ¬ (1048576 : Int) < z1.length := by omega
  rcases szv_cases z0.length 1048576 (by omega) (by omega) with hz0 | ⟨hl0, hze0, hzp0⟩
  case inl =>
    go_enter Try.func5, Try.ntmps5
    go_wp2_with fail
    refine (szNetwork_any W0 A0 z0.length c0 1048576 _ hm0 (by omega) (by omega)).mono ?_
    rintro e w1 ⟨rfl, b1⟩
    obtain ⟨B1, k1⟩ := step_box b1
    go_wp2_with fail
    go_ret
    exact ⟨rfl, B1⟩
  have hzn0 : ¬ (szv z0.length 1048576) < 0 := by omega
  have HZ0 := Lib.hid hze0; clear hze0
  have hzu0 : (szv z0.length 1048576) ≤ 1048576 := by have := HZ0.out; omega
  have hlenA := ap_len W0 z0 z1
  go_enter Try.func5, Try.ntmps5
  go_wp2_with fail
  refine (szNetwork_any W0 A0 z0.length c0 1048576 _ hm0 (by omega) (by omega)).mono ?_
  rintro e w2 ⟨rfl, b2⟩
  obtain ⟨B2, k2⟩ := step_box b2
  have q3 := (k2).two
  have q3l := (k2).lt
  go_wp2_with fail
  clear q3 q3l
  refine (toNetwork_any W0 A0 z0 c0 _ (by exact (Reads.more (Reads.below hx0 B2) (Below.size B2))) (by omega)).mono ?_
  rintro e w4 ⟨gt3, rfl, ot3, b4⟩
  have c4_w := bthen B2 b4
  have ot3B := own_base (base' := w2.heap.size) ot3 (by first | exact Nat.le_refl _ | (simp only [World.size_alloc]; omega))
  have q5 := ((Blk.below_ k2 b4)).two
  have q5l := ((Blk.below_ k2 b4)).lt
  go_wp2_with fail
  clear q5 q5l
  refine (toIntS_any A1 z1 c1 _ (by exact (Reads.more (Reads.below hx1 c4_w) (Below.size c4_w))) (by omega)).mono ?_
  rintro e w6 ⟨gt5, rfl, ot5, b6⟩
  have c6_w := bthen c4_w b6
  have c6_w2 := bthen b4 b6
  have ot5B := own_base (base' := w4.heap.size) ot5 (by first | exact Nat.le_refl _ | (simp only [World.size_alloc]; omega))
  have q7 := ((Blk.below_ k2 c6_w2)).two
  have q7l := ((Blk.below_ k2 c6_w2)).lt
  go_wp2_with fail
  clear q7 q7l
  refine (sApplyNetwork_any W0 (some ⟨gt3, 0, none⟩) z0 z0.length (some ⟨gt5, 0, none⟩) z1 z1.length _ (by exact (Reads.of_own (own_below ot3B b6 (Nat.le_refl _)))) (by omega) (by exact (Reads.of_own ot5B)) (by omega)).mono ?_
  rintro e w8 ⟨AW0, CW0, rfl, oW0, b8⟩
  have c8_w := bthen c6_w b8
  have c8_w2 := bthen c6_w2 b8
  have c8_w4 := bthen b6 b8
  have oW0B := own_base (base' := w6.heap.size) oW0 (by first | exact Nat.le_refl _ | (simp only [World.size_alloc]; omega))
  have q9 := ((Blk.below_ k2 c8_w2)).two
  have q9l := ((Blk.below_ k2 c8_w2)).lt
  go_wp2_with fail
  clear q9 q9l
  refine (toNetwork_any W0 A0 z0 c0 _ (by exact (Reads.more (Reads.below hx0 c8_w) (Below.size c8_w))) (by omega)).mono ?_
  rintro e w10 ⟨gx0, rfl, ox0, b10⟩
  have c10_w := bthen c8_w b10
  have c10_w2 := bthen c8_w2 b10
  have ox0B := own_base (base' := w8.heap.size) ox0 (by first | exact Nat.le_refl _ | (simp only [World.size_alloc]; omega))
  have q11 := ((Blk.below_ k2 c10_w2)).two
  have q11l := ((Blk.below_ k2 c10_w2)).lt
  go_wp2_with fail
  clear q11 q11l
  refine (toIntS_any A1 z1 c1 _ (by exact (Reads.more (Reads.below hx1 (alloc_ c10_w _)) (Below.size (alloc_ c10_w _)))) (by omega)).mono ?_
  rintro e w12 ⟨gx1, rfl, ox1, b12⟩
  obtain ⟨B12, k12⟩ := step_box b12
  have c12_w := bthen c10_w B12
  have c12_w2 := bthen c10_w2 B12
  have c12_w8 := bthen b10 B12
  have ox1B := own_base (base' := w10.heap.size) ox1 (by first | exact Nat.le_refl _ | (simp only [World.size_alloc]; omega))
  have q13 := ((Blk.below_ k2 c12_w2)).two
  have q13l := ((Blk.below_ k2 c12_w2)).lt
  have q14 := (k12).two
  have q14l := (k12).lt
  go_wp2_with fail
  clear q13 q13l q14 q14l
  refine (ApplyNetwork_any W0 (some ⟨gx0, 0, none⟩) z0 z0.length (some ⟨gx1, 0, none⟩) z1 z1.length _ (by exact (Reads.of_own (own_below ox0B B12 (Nat.le_refl _)))) (by omega) (by exact (Reads.of_own ox1B)) (by omega)).mono ?_
  rintro e w15 ⟨AG0, CG0, rfl, oG0, b15⟩
  have c15_w := bthen c12_w b15
  have c15_w2 := bthen c12_w2 b15
  have c15_w8 := bthen c12_w8 b15
  have c15_w10 := bthen B12 b15
  have oG0B := own_base (base' := w12.heap.size) oG0 (by first | exact Nat.le_refl _ | (simp only [World.size_alloc]; omega))
  have q16 := ((Blk.below_ k2 c15_w2)).two
  have q16l := ((Blk.below_ k2 c15_w2)).lt
  have q17 := ((Blk.below_ k12 b15)).two
  have q17l := ((Blk.below_ k12 b15)).lt
  go_wp2_with fail
  clear q16 q16l q17 q17l
  refine (eqIntS_b AG0 AW0 (apV W0 z0 z1) (apV W0 z0 z1) CG0 CW0 _ (by exact (Reads.of_own oG0B)) (by exact (Reads.of_own (own_below oW0B c15_w8 (Nat.le_refl _)))) (by omega) (by omega)).mono ?_
  rintro e w18 ⟨rfl, b18⟩
  have c18_w := bthen c15_w b18
  have c18_w2 := bthen c15_w2 b18
  have c18_w8 := bthen c15_w8 b18
  have c18_w10 := bthen c15_w10 b18
  have c18_w12 := bthen b15 b18
  have q19 := ((Blk.below_ k2 c18_w2)).two
  have q19l := ((Blk.below_ k2 c18_w2)).lt
  have q20 := ((Blk.below_ k12 c18_w12)).two
  have q20l := ((Blk.below_ k12 c18_w12)).lt
  go_wp2_with fail
  have r21 := (Reads.more (Reads.below hx0 c18_w) (Below.size c18_w))
  go_region_held3 (fun w' => w'.cell? ⟨w10.heap.size, 0, none⟩ = some (.int .i64 W0) ∧ w'.cell? ⟨w10.heap.size, 1, none⟩ = some (.slice (some ⟨gx0, 0, none⟩) z0.length z0.length) ∧ w'.cell? ⟨w.heap.size, 0, none⟩ = some (.int .i64 W0) ∧ w'.cell? ⟨w.heap.size, 1, none⟩ = some (.slice A0 z0.length c0)) (first | go_keep | (go_split_ands; refine ⟨?_, ?_, ?_, ?_⟩ <;> (first | (rw [Below.cell b21B (by simp; omega)]; assumption) | (rw [Below.cell b21A (by simp; omega)]; assumption)))) (first | (go_at_call 11; refine (toNetwork_any W0 A0 z0 c0 _ (by exact r21) (by omega)).mono ?_; rintro e w21A ⟨g21A, rfl, o21A, b21A⟩; have l21A := b21A.size; simp only [World.size_drew] at l21A) | (go_at_call 14; refine (eqNetwork_any W0 W0 (some ⟨gx0, 0, none⟩) (some ⟨g21A, 0, none⟩) z0 z0 z0.length z0.length _ (by exact Reads.of_own (own_below (own_below ox0B c18_w10 (Nat.le_refl _)) (undrew b21A) (Nat.le_refl _))) (by exact Reads.of_own o21A) (by omega) (by omega)).mono ?_; rintro e w21B ⟨rfl, b21B⟩))
  clear q19 q19l q20 q20l
  have b21 := bthen (undrew b21A) b21B
  have c21_w := bthen c18_w b21
  have c21_w2 := bthen c18_w2 b21
  have c21_w8 := bthen c18_w8 b21
  have c21_w10 := bthen c18_w10 b21
  have c21_w12 := bthen c18_w12 b21
  have c21_w15 := bthen b18 b21
  have q22 := ((Blk.below_ k2 c21_w2)).two
  have q22l := ((Blk.below_ k2 c21_w2)).lt
  have q23 := ((Blk.below_ k12 c21_w12)).two
  have q23l := ((Blk.below_ k12 c21_w12)).lt
  go_wp2_with fail
  clear q22 q22l q23 q23l
  refine (toIntS_any A1 z1 c1 _ (by exact (Reads.more (Reads.below hx1 c21_w) (Below.size c21_w))) (by omega)).mono ?_
  rintro e w24 ⟨gt23, rfl, ot23, b24⟩
  have c24_w := bthen c21_w b24
  have c24_w2 := bthen c21_w2 b24
  have c24_w8 := bthen c21_w8 b24
  have c24_w10 := bthen c21_w10 b24
  have c24_w12 := bthen c21_w12 b24
  have c24_w15 := bthen c21_w15 b24
  have ot23B := own_base (base' := w21B.heap.size) ot23 (by first | exact Nat.le_refl _ | (simp only [World.size_alloc]; omega))
  have q25 := ((Blk.below_ k2 c24_w2)).two
  have q25l := ((Blk.below_ k2 c24_w2)).lt
  have q26 := ((Blk.below_ k12 c24_w12)).two
  have q26l := ((Blk.below_ k12 c24_w12)).lt
  go_wp2_with fail
  clear q25 q25l q26 q26l
  refine (eqIntS_b (some ⟨gx1, 0, none⟩) (some ⟨gt23, 0, none⟩) z1 z1 z1.length z1.length _ (by exact (Reads.of_own (own_below ox1B c24_w12 (Nat.le_refl _)))) (by exact (Reads.of_own ot23B)) (by omega) (by omega)).mono ?_
  rintro e w27 ⟨rfl, b27⟩
  have c27_w := bthen c24_w b27
  have c27_w2 := bthen c24_w2 b27
  have c27_w8 := bthen c24_w8 b27
  have c27_w10 := bthen c24_w10 b27
  have c27_w12 := bthen c24_w12 b27
  have c27_w15 := bthen c24_w15 b27
  have q28 := ((Blk.below_ k2 c27_w2)).two
  have q28l := ((Blk.below_ k2 c27_w2)).lt
  have q29 := ((Blk.below_ k12 c27_w12)).two
  have q29l := ((Blk.below_ k12 c27_w12)).lt
  go_wp2_with fail
  clear q28 q28l q29 q29l
  refine (markNetwork_any w8.heap.size W0 (some ⟨gx0, 0, none⟩) z0 z0.length 1 _ (by omega) (by omega) (by omega) (by exact (own_below ox0B c27_w10 (Nat.le_refl _)))).mono ?_
  rintro e w30 ⟨rfl, o30, g30⟩
  have o30_W0 := World.ownsRow.kept (own_below oW0B c27_w8 (Nat.le_refl _)) g30 (own_ne_type (own_below oW0B c27_w8 (Nat.le_refl _)) (own_below ox0B c27_w10 (Nat.le_refl _)) (by decide))
  have o30_x1 := World.ownsRow.kept (own_below ox1B c27_w12 (Nat.le_refl _)) g30 (own_ne_type (own_below ox1B c27_w12 (Nat.le_refl _)) (own_below ox0B c27_w10 (Nat.le_refl _)) (by decide))
  have o30_G0 := World.ownsRow.kept (own_below oG0B c27_w15 (Nat.le_refl _)) g30 (own_ne_type (own_below oG0B c27_w15 (Nat.le_refl _)) (own_below ox0B c27_w10 (Nat.le_refl _)) (by decide))
  have k30_a0 := Blk.grown (Blk.below_ k2 c27_w2) g30 (fun e => own_blk_ne (own_below ox0B c27_w10 (Nat.le_refl _)) (Blk.below_ k2 c27_w2) (by decide) e.symm)
  have k30_x0 := Blk.grown (Blk.below_ k12 c27_w12) g30 (fun e => own_blk_ne (own_below ox0B c27_w10 (Nat.le_refl _)) (Blk.below_ k12 c27_w12) (by decide) e.symm)
  have c30_w := Below.trans c27_w (below_of_grown g30 (Below.size c27_w) (fun k hk => Nat.le_trans (Below.size c8_w) (own_lt ox0B k hk).1))
  have q31 := (k30_a0).two
  have q31l := (k30_a0).lt
  have q32 := (k30_x0).two
  have q32l := (k30_x0).lt
  go_wp2_with fail
  clear q31 q31l q32 q32l
  refine (markIntS_b w10.heap.size (some ⟨gx1, 0, none⟩) z1 z1.length (1 + 2 * z0.length) _ (by omega) (by omega) (by omega) (by exact o30_x1)).mono ?_
  rintro e w33 ⟨rfl, o33, g33⟩
  have o33_W0 := World.ownsRow.kept o30_W0 g33 (own_ne_new oW0B ox1B (Below.size b10))
  have o33_x0 := World.ownsRow.kept o30 g33 (own_ne_type o30 o30_x1 (by decide))
  have o33_G0 := World.ownsRow.kept o30_G0 g33 (own_ne_old ox1B oG0B (Nat.le_refl _))
  have k33_a0 := Blk.grown k30_a0 g33 (fun e => own_blk_ne o30_x1 k30_a0 (by decide) e.symm)
  have k33_x0 := Blk.grown k30_x0 g33 (fun e => own_blk_ne o30_x1 k30_x0 (by decide) e.symm)
  have c33_w := Below.trans c30_w (below_of_grown g33 (Below.size c30_w) (fun k hk => Nat.le_trans (Below.size c10_w) (own_lt ox1B k hk).1))
  have hk0 : ¬ (((1 + 2 * z0.length) + z1.length) : Int) < 0 := by omega
  have q34 := (k33_a0).two
  have q34l := (k33_a0).lt
  go_wp2_with fail
  clear q34 q34l
  refine (eqIntS_b AG0 AW0 (apV W0 z0 z1) (apV W0 z0 z1) CG0 CW0 _ (by exact (Reads.of_own o33_G0)) (by exact (Reads.of_own o33_W0)) (by omega) (by omega)).mono ?_
  rintro e w35 ⟨rfl, b35⟩
  have c35_w := bthen c33_w b35
  have q36 := ((Blk.below_ k33_a0 b35)).two
  have q36l := ((Blk.below_ k33_a0 b35)).lt
  go_wp2_with fail
  clear q36 q36l
  refine (markIntS_b w12.heap.size AG0 (apV W0 z0 z1) CG0 1 _ (by omega) (by omega) (by omega) (by exact (own_below o33_G0 b35 (Nat.le_refl _)))).mono ?_
  rintro e w37 ⟨rfl, o37, g37⟩
  have o37_W0 := World.ownsRow.kept (own_below o33_W0 b35 (Nat.le_refl _)) g37 (own_ne_new oW0B oG0B (Below.size c12_w8))
  have k37_a0 := Blk.grown (Blk.below_ k33_a0 b35) g37 (fun e => own_blk_ne (own_below o33_G0 b35 (Nat.le_refl _)) (Blk.below_ k33_a0 b35) (by decide) e.symm)
  have c37_w := Below.trans c35_w (below_of_grown g37 (Below.size c35_w) (fun k hk => Nat.le_trans (Below.size c12_w) (own_lt oG0B k hk).1))
  have hq0 : ¬ ((1 + (apV W0 z0 z1).length) : Int) < 0 := by omega
  have hqm : (((1 + (apV W0 z0 z1).length) : Int) != (1 + (apV W0 z0 z1).length)) = false := by simp
  have q38 := (k37_a0).two
  have q38l := (k37_a0).lt
  go_wp2_with fail
  clear q38 q38l
  refine (heldIntS_b AG0 (apV W0 z0 z1).length CG0 1 _ (by omega) (by omega) (by omega) (by exact (Reads.of_own o37))).mono ?_
  rintro e w39 ⟨rfl, b39⟩
  have c39_w := bthen c37_w b39
  have q40 := ((Blk.below_ k37_a0 b39)).two
  have q40l := ((Blk.below_ k37_a0 b39)).lt
  go_wp2_with fail
  clear q40 q40l
  refine (toNetwork_any W0 A0 z0 c0 _ (by exact (Reads.more (Reads.below hx0 c39_w) (Below.size c39_w))) (by omega)).mono ?_
  rintro e w41 ⟨gt40, rfl, ot40, b41⟩
  have c41_w := bthen c39_w b41
  have c41_w37 := bthen b39 b41
  have ot40B := own_base (base' := w39.heap.size) ot40 (by first | exact Nat.le_refl _ | (simp only [World.size_alloc]; omega))
  have q42 := ((Blk.below_ k37_a0 c41_w37)).two
  have q42l := ((Blk.below_ k37_a0 c41_w37)).lt
  go_wp2_with fail
  clear q42 q42l
  refine (toIntS_any A1 z1 c1 _ (by exact (Reads.more (Reads.below hx1 c41_w) (Below.size c41_w))) (by omega)).mono ?_
  rintro e w43 ⟨gt42, rfl, ot42, b43⟩
  have c43_w := bthen c41_w b43
  have c43_w37 := bthen c41_w37 b43
  have ot42B := own_base (base' := w41.heap.size) ot42 (by first | exact Nat.le_refl _ | (simp only [World.size_alloc]; omega))
  have q44 := ((Blk.below_ k37_a0 c43_w37)).two
  have q44l := ((Blk.below_ k37_a0 c43_w37)).lt
  go_wp2_with fail
  clear q44 q44l
  refine (ApplyNetwork_any W0 (some ⟨gt40, 0, none⟩) z0 z0.length (some ⟨gt42, 0, none⟩) z1 z1.length _ (by exact (Reads.of_own (own_below ot40B b43 (Nat.le_refl _)))) (by omega) (by exact (Reads.of_own ot42B)) (by omega)).mono ?_
  rintro e w45 ⟨AH0, CH0, rfl, oH0, b45⟩
  have c45_w := bthen c43_w b45
  have c45_w37 := bthen c43_w37 b45
  have c45_w41 := bthen b43 b45
  have oH0B := own_base (base' := w43.heap.size) oH0 (by first | exact Nat.le_refl _ | (simp only [World.size_alloc]; omega))
  have q46 := ((Blk.below_ k37_a0 c45_w37)).two
  have q46l := ((Blk.below_ k37_a0 c45_w37)).lt
  go_wp2_with fail
  clear q46 q46l
  refine (eqIntS_b AH0 AW0 (apV W0 z0 z1) (apV W0 z0 z1) CH0 CW0 _ (by exact (Reads.of_own oH0B)) (by exact (Reads.of_own (own_below o37_W0 c45_w37 (Nat.le_refl _)))) (by omega) (by omega)).mono ?_
  rintro e w47 ⟨rfl, b47⟩
  have c47_w := bthen c45_w b47
  have c47_w37 := bthen c45_w37 b47
  have q48 := ((Blk.below_ k37_a0 c47_w37)).two
  have q48l := ((Blk.below_ k37_a0 c47_w37)).lt
  go_wp2_with fail
  clear q48 q48l
  refine (heldIntS_b AG0 (apV W0 z0 z1).length CG0 1 _ (by omega) (by omega) (by omega) (by exact (Reads.of_own (own_below o37 c47_w37 (Nat.le_refl _))))).mono ?_
  rintro e w49 ⟨rfl, b49⟩
  have c49_w := bthen c47_w b49
  have c49_w37 := bthen c47_w37 b49
  have c49_w45 := bthen b47 b49
  go_wp2_with fail
  go_ret
  exact ⟨rfl, c49_w⟩
end Go.Proofs.Ytdbclchjinlmgaa
