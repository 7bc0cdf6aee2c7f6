/- Walks of exact laws, printed by lawgen.py. -/
import Derived.Test.YtinigocjeefjgaaStdS
namespace Go.Proofs.Ytinigocjeefjgaa
open Go.RowKit
set_option linter.unusedVariables false
set_option maxRecDepth 100000 in
set_option maxHeartbeats 1600000 in
theorem FnExactStandardForm_any (W0 : Int) (A0 : Option Addr) (z0 : List (Int × Int)) (c0 : Nat) (w : World) (hx0 : Reads w w.heap.size 2 A0 z0.length (cmps z0)) (hm0 : z0.length ≤ maxLen) :
    Calls Try.prog 3 #[.agg #[.int .i64 W0, .slice A0 z0.length c0]] w fun e w' => e = .returned (.bool true) ∧ Below w.heap.size w w' := by
  have e1 : ∀ x : Int, (x != x) = false := by simp
  have e2 : ∀ x : Bool, (x != x) = false := by simp
  rcases szv_cases z0.length 1048576 (by omega) (by omega) with hz0 | ⟨hl0, hze0, hzp0⟩
  case inl =>
    go_enter Try.func3, Try.ntmps3
    go_wp2_with fail
    refine (szNetwork_any W0 A0 z0.length c0 1048576 _ hm0 (by omega) (by omega)).mono ?_
    rintro e w1 ⟨rfl, b1⟩
    obtain ⟨B1, k1⟩ := step_box b1
    go_wp2_with fail
    go_ret
    exact ⟨rfl, B1⟩
  have hzn0 : ¬ (szv z0.length 1048576) < 0 := by omega
  have HZ0 := Lib.hid hze0; clear hze0
  have hzu0 : (szv z0.length 1048576) ≤ 1048576 := by have := HZ0.out; omega
  have hlenA := sf_len W0 z0
  go_enter Try.func3, Try.ntmps3
  go_wp2_with fail
  refine (szNetwork_any W0 A0 z0.length c0 1048576 _ hm0 (by omega) (by omega)).mono ?_
  rintro e w2 ⟨rfl, b2⟩
  obtain ⟨B2, k2⟩ := step_box b2
  have q3 := (k2).two
  have q3l := (k2).lt
  go_wp2_with fail
  clear q3 q3l
  refine (toNetwork_any W0 A0 z0 c0 _ (by exact (Reads.more (Reads.below hx0 B2) (Below.size B2))) (by omega)).mono ?_
  rintro e w4 ⟨gt3, rfl, ot3, b4⟩
  have c4_w := bthen B2 b4
  have ot3B := own_base (base' := w2.heap.size) ot3 (by first | exact Nat.le_refl _ | (simp only [World.size_alloc]; omega))
  have q5 := ((Blk.below_ k2 b4)).two
  have q5l := ((Blk.below_ k2 b4)).lt
  go_wp2_with fail
  clear q5 q5l
  refine (sStandardForm_any W0 (some ⟨gt3, 0, none⟩) z0 z0.length _ (by exact (Reads.of_own ot3B)) (by omega)).mono ?_
  rintro e w6 ⟨AW0, CW0, rfl, oW0, b6⟩
  have c6_w := bthen c4_w b6
  have c6_w2 := bthen b4 b6
  have oW0B := own_base (base' := w4.heap.size) oW0 (by first | exact Nat.le_refl _ | (simp only [World.size_alloc]; omega))
  have q7 := ((Blk.below_ k2 c6_w2)).two
  have q7l := ((Blk.below_ k2 c6_w2)).lt
  go_wp2_with fail
  clear q7 q7l
  refine (toNetwork_any W0 A0 z0 c0 _ (by exact (Reads.more (Reads.below hx0 (alloc_ c6_w _)) (Below.size (alloc_ c6_w _)))) (by omega)).mono ?_
  rintro e w8 ⟨gx0, rfl, ox0, b8⟩
  obtain ⟨B8, k8⟩ := step_box b8
  have c8_w := bthen c6_w B8
  have c8_w2 := bthen c6_w2 B8
  have ox0B := own_base (base' := w6.heap.size) ox0 (by first | exact Nat.le_refl _ | (simp only [World.size_alloc]; omega))
  have q9 := ((Blk.below_ k2 c8_w2)).two
  have q9l := ((Blk.below_ k2 c8_w2)).lt
  have q10 := (k8).two
  have q10l := (k8).lt
  go_wp2_with fail
  clear q9 q9l q10 q10l
  refine (StandardForm_any W0 (some ⟨gx0, 0, none⟩) z0 z0.length _ (by exact (Reads.of_own (own_below ox0B (alloc_ (Below.refl _ _) _) (Nat.le_refl _)))) (by omega)).mono ?_
  rintro e w11 ⟨AG0, CG0, rfl, oG0, b11⟩
  obtain ⟨B11, k11⟩ := step_box b11
  have c11_w := bthen c8_w B11
  have c11_w2 := bthen c8_w2 B11
  have c11_w6 := bthen B8 B11
  have oG0B := own_base (base' := w8.heap.size) oG0 (by first | exact Nat.le_refl _ | (simp only [World.size_alloc]; omega))
  have q12 := ((Blk.below_ k2 c11_w2)).two
  have q12l := ((Blk.below_ k2 c11_w2)).lt
  have q13 := ((Blk.below_ k8 B11)).two
  have q13l := ((Blk.below_ k8 B11)).lt
  have q14 := (k11).two
  have q14l := (k11).lt
  go_wp2_with fail
  clear q12 q12l q13 q13l q14 q14l
  refine (eqNetwork_any (sfW W0 z0) (sfW W0 z0) AG0 AW0 (sfV W0 z0) (sfV W0 z0) CG0 CW0 _ (by exact (Reads.of_own (own_below oG0B (alloc_ (Below.refl _ _) _) (Nat.le_refl _)))) (by exact (Reads.of_own (own_below oW0B (alloc_ c11_w6 _) (Nat.le_refl _)))) (by omega) (by omega)).mono ?_
  rintro e w15 ⟨rfl, b15⟩
  obtain ⟨B15, k15⟩ := step_box b15
  have c15_w := bthen c11_w B15
  have c15_w2 := bthen c11_w2 B15
  have c15_w6 := bthen c11_w6 B15
  have c15_w8 := bthen B11 B15
  have q16 := ((Blk.below_ k2 c15_w2)).two
  have q16l := ((Blk.below_ k2 c15_w2)).lt
  have q17 := ((Blk.below_ k8 c15_w8)).two
  have q17l := ((Blk.below_ k8 c15_w8)).lt
  have q18 := ((Blk.below_ k11 B15)).two
  have q18l := ((Blk.below_ k11 B15)).lt
  have q19 := (k15).two
  have q19l := (k15).lt
  go_wp2_with fail
  have r20 := (Reads.more (Reads.below hx0 c15_w) (Below.size c15_w))
  go_region_held3 (fun w' => w'.cell? ⟨w8.heap.size, 0, none⟩ = some (.int .i64 W0) ∧ w'.cell? ⟨w8.heap.size, 1, none⟩ = some (.slice (some ⟨gx0, 0, none⟩) z0.length z0.length) ∧ w'.cell? ⟨w.heap.size, 0, none⟩ = some (.int .i64 W0) ∧ w'.cell? ⟨w.heap.size, 1, none⟩ = some (.slice A0 z0.length c0)) (first | go_keep | (go_split_ands; refine ⟨?_, ?_, ?_, ?_⟩ <;> (first | (rw [Below.cell b20B (by simp; omega)]; assumption) | (rw [Below.cell b20A (by simp; omega)]; assumption)))) (first | (go_at_call 9; refine (toNetwork_any W0 A0 z0 c0 _ (by exact r20) (by omega)).mono ?_; rintro e w20A ⟨g20A, rfl, o20A, b20A⟩; have l20A := b20A.size; simp only [World.size_drew] at l20A) | (go_at_call 11; refine (eqNetwork_any W0 W0 (some ⟨gx0, 0, none⟩) (some ⟨g20A, 0, none⟩) z0 z0 z0.length z0.length _ (by exact Reads.of_own (own_below (own_below ox0B c15_w8 (Nat.le_refl _)) (undrew b20A) (Nat.le_refl _))) (by exact Reads.of_own o20A) (by omega) (by omega)).mono ?_; rintro e w20B ⟨rfl, b20B⟩))
  clear q16 q16l q17 q17l q18 q18l q19 q19l
  have b20 := bthen (undrew b20A) b20B
  have c20_w := bthen c15_w b20
  have c20_w2 := bthen c15_w2 b20
  have c20_w6 := bthen c15_w6 b20
  have c20_w8 := bthen c15_w8 b20
  have c20_w11 := bthen B15 b20
  have q21 := ((Blk.below_ k2 c20_w2)).two
  have q21l := ((Blk.below_ k2 c20_w2)).lt
  have q22 := ((Blk.below_ k8 c20_w8)).two
  have q22l := ((Blk.below_ k8 c20_w8)).lt
  have q23 := ((Blk.below_ k11 c20_w11)).two
  have q23l := ((Blk.below_ k11 c20_w11)).lt
  have q24 := ((Blk.below_ k15 b20)).two
  have q24l := ((Blk.below_ k15 b20)).lt
  go_wp2_with fail
  clear q21 q21l q22 q22l q23 q23l q24 q24l
  refine (markNetwork_any w6.heap.size W0 (some ⟨gx0, 0, none⟩) z0 z0.length 1 _ (by omega) (by omega) (by omega) (by exact (own_below ox0B c20_w8 (Nat.le_refl _)))).mono ?_
  rintro e w25 ⟨rfl, o25, g25⟩
  have o25_W0 := World.ownsRow.kept (own_below oW0B c20_w6 (Nat.le_refl _)) g25 (own_ne_new oW0B ox0B (Nat.le_refl _))
  have o25_G0 := World.ownsRow.kept (own_below oG0B c20_w11 (Nat.le_refl _)) g25 (own_ne_old ox0B oG0B (Nat.le_refl _))
  have k25_a0 := Blk.grown (Blk.below_ k2 c20_w2) g25 (fun e => own_blk_ne (own_below ox0B c20_w8 (Nat.le_refl _)) (Blk.below_ k2 c20_w2) (by decide) e.symm)
  have k25_W0 := Blk.grown (Blk.below_ k8 c20_w8) g25 (fun e => own_blk_ne (own_below ox0B c20_w8 (Nat.le_refl _)) (Blk.below_ k8 c20_w8) (by decide) e.symm)
  have k25_x0 := Blk.grown (Blk.below_ k11 c20_w11) g25 (fun e => own_blk_ne (own_below ox0B c20_w8 (Nat.le_refl _)) (Blk.below_ k11 c20_w11) (by decide) e.symm)
  have k25_G0 := Blk.grown (Blk.below_ k15 b20) g25 (fun e => own_blk_ne (own_below ox0B c20_w8 (Nat.le_refl _)) (Blk.below_ k15 b20) (by decide) e.symm)
  have c25_w := Below.trans c20_w (below_of_grown g25 (Below.size c20_w) (fun k hk => Nat.le_trans (Below.size c6_w) (own_lt ox0B k hk).1))
  have hk0 : ¬ ((1 + 2 * z0.length) : Int) < 0 := by omega
  have q26 := (k25_a0).two
  have q26l := (k25_a0).lt
  have q27 := (k25_W0).two
  have q27l := (k25_W0).lt
  have q28 := (k25_G0).two
  have q28l := (k25_G0).lt
  go_wp2_with fail
  clear q26 q26l q27 q27l q28 q28l
  refine (eqNetwork_any (sfW W0 z0) (sfW W0 z0) AG0 AW0 (sfV W0 z0) (sfV W0 z0) CG0 CW0 _ (by exact (Reads.of_own o25_G0)) (by exact (Reads.of_own o25_W0)) (by omega) (by omega)).mono ?_
  rintro e w29 ⟨rfl, b29⟩
  have c29_w := bthen c25_w b29
  have q30 := ((Blk.below_ k25_a0 b29)).two
  have q30l := ((Blk.below_ k25_a0 b29)).lt
  have q31 := ((Blk.below_ k25_W0 b29)).two
  have q31l := ((Blk.below_ k25_W0 b29)).lt
  have q32 := ((Blk.below_ k25_G0 b29)).two
  have q32l := ((Blk.below_ k25_G0 b29)).lt
  go_wp2_with fail
  clear q30 q30l q31 q31l q32 q32l
  refine (markNetwork_any w8.heap.size (sfW W0 z0) AG0 (sfV W0 z0) CG0 1 _ (by omega) (by omega) (by omega) (by exact (own_below o25_G0 b29 (Nat.le_refl _)))).mono ?_
  rintro e w33 ⟨rfl, o33, g33⟩
  have o33_W0 := World.ownsRow.kept (own_below o25_W0 b29 (Nat.le_refl _)) g33 (own_ne_new oW0B oG0B (Below.size B8))
  have k33_a0 := Blk.grown (Blk.below_ k25_a0 b29) g33 (fun e => own_blk_ne (own_below o25_G0 b29 (Nat.le_refl _)) (Blk.below_ k25_a0 b29) (by decide) e.symm)
  have k33_W0 := Blk.grown (Blk.below_ k25_W0 b29) g33 (fun e => own_blk_ne (own_below o25_G0 b29 (Nat.le_refl _)) (Blk.below_ k25_W0 b29) (by decide) e.symm)
  have k33_G0 := Blk.grown (Blk.below_ k25_G0 b29) g33 (fun e => own_blk_ne (own_below o25_G0 b29 (Nat.le_refl _)) (Blk.below_ k25_G0 b29) (by decide) e.symm)
  have c33_w := Below.trans c29_w (below_of_grown g33 (Below.size c29_w) (fun k hk => Nat.le_trans (Below.size c8_w) (own_lt oG0B k hk).1))
  have hq0 : ¬ ((1 + 2 * (sfV W0 z0).length) : Int) < 0 := by omega
  have hqm : (((1 + 2 * (sfV W0 z0).length) : Int) != (1 + 2 * (sfV W0 z0).length)) = false := by simp
  have q34 := (k33_a0).two
  have q34l := (k33_a0).lt
  have q35 := (k33_W0).two
  have q35l := (k33_W0).lt
  have q36 := (k33_G0).two
  have q36l := (k33_G0).lt
  go_wp2_with fail
  clear q34 q34l q35 q35l q36 q36l
  refine (heldNetwork_any (sfW W0 z0) AG0 (sfV W0 z0).length CG0 1 _ (by omega) (by omega) (by omega) (by exact (Reads.of_own o33))).mono ?_
  rintro e w37 ⟨rfl, b37⟩
  have c37_w := bthen c33_w b37
  have q38 := ((Blk.below_ k33_a0 b37)).two
  have q38l := ((Blk.below_ k33_a0 b37)).lt
  have q39 := ((Blk.below_ k33_W0 b37)).two
  have q39l := ((Blk.below_ k33_W0 b37)).lt
  have q40 := ((Blk.below_ k33_G0 b37)).two
  have q40l := ((Blk.below_ k33_G0 b37)).lt
  go_wp2_with fail
  clear q38 q38l q39 q39l q40 q40l
  refine (toNetwork_any W0 A0 z0 c0 _ (by exact (Reads.more (Reads.below hx0 c37_w) (Below.size c37_w))) (by omega)).mono ?_
  rintro e w41 ⟨gt40, rfl, ot40, b41⟩
  have c41_w := bthen c37_w b41
  have c41_w33 := bthen b37 b41
  have ot40B := own_base (base' := w37.heap.size) ot40 (by first | exact Nat.le_refl _ | (simp only [World.size_alloc]; omega))
  have q42 := ((Blk.below_ k33_a0 c41_w33)).two
  have q42l := ((Blk.below_ k33_a0 c41_w33)).lt
  have q43 := ((Blk.below_ k33_W0 c41_w33)).two
  have q43l := ((Blk.below_ k33_W0 c41_w33)).lt
  have q44 := ((Blk.below_ k33_G0 c41_w33)).two
  have q44l := ((Blk.below_ k33_G0 c41_w33)).lt
  go_wp2_with fail
  clear q42 q42l q43 q43l q44 q44l
  refine (StandardForm_any W0 (some ⟨gt40, 0, none⟩) z0 z0.length _ (by exact (Reads.of_own ot40B)) (by omega)).mono ?_
  rintro e w45 ⟨AH0, CH0, rfl, oH0, b45⟩
  have c45_w := bthen c41_w b45
  have c45_w33 := bthen c41_w33 b45
  have oH0B := own_base (base' := w41.heap.size) oH0 (by first | exact Nat.le_refl _ | (simp only [World.size_alloc]; omega))
  have q46 := ((Blk.below_ k33_a0 c45_w33)).two
  have q46l := ((Blk.below_ k33_a0 c45_w33)).lt
  have q47 := ((Blk.below_ k33_W0 c45_w33)).two
  have q47l := ((Blk.below_ k33_W0 c45_w33)).lt
  have q48 := ((Blk.below_ k33_G0 c45_w33)).two
  have q48l := ((Blk.below_ k33_G0 c45_w33)).lt
  go_wp2_with fail
  clear q46 q46l q47 q47l q48 q48l
  refine (eqNetwork_any (sfW W0 z0) (sfW W0 z0) AH0 AW0 (sfV W0 z0) (sfV W0 z0) CH0 CW0 _ (by exact (Reads.of_own (own_below oH0B (alloc_ (Below.refl _ _) _) (Nat.le_refl _)))) (by exact (Reads.of_own (own_below o33_W0 (alloc_ c45_w33 _) (Nat.le_refl _)))) (by omega) (by omega)).mono ?_
  rintro e w49 ⟨rfl, b49⟩
  obtain ⟨B49, k49⟩ := step_box b49
  have c49_w := bthen c45_w B49
  have c49_w33 := bthen c45_w33 B49
  have q50 := ((Blk.below_ k33_a0 c49_w33)).two
  have q50l := ((Blk.below_ k33_a0 c49_w33)).lt
  have q51 := ((Blk.below_ k33_W0 c49_w33)).two
  have q51l := ((Blk.below_ k33_W0 c49_w33)).lt
  have q52 := ((Blk.below_ k33_G0 c49_w33)).two
  have q52l := ((Blk.below_ k33_G0 c49_w33)).lt
  have q53 := (k49).two
  have q53l := (k49).lt
  go_wp2_with fail
  clear q50 q50l q51 q51l q52 q52l q53 q53l
  refine (heldNetwork_any (sfW W0 z0) AG0 (sfV W0 z0).length CG0 1 _ (by omega) (by omega) (by omega) (by exact (Reads.of_own (own_below o33 c49_w33 (Nat.le_refl _))))).mono ?_
  rintro e w54 ⟨rfl, b54⟩
  have c54_w := bthen c49_w b54
  have c54_w33 := bthen c49_w33 b54
  have c54_w45 := bthen B49 b54
  go_wp2_with fail
  go_ret
  exact ⟨rfl, c54_w⟩
end Go.Proofs.Ytinigocjeefjgaa
