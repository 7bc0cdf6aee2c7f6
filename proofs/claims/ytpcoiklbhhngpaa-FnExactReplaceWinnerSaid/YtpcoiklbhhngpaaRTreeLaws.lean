/- Walks of exact laws, printed by lawgen.py. -/
import Derived.Test.YtpcoiklbhhngpaaTreeVL
import Derived.Test.YtpcoiklbhhngpaaTreeRS
namespace Go.Proofs.Ytpcoiklbhhngpaa
open Go.RowKit
set_option linter.unusedVariables false
set_option maxRecDepth 100000 in
set_option maxHeartbeats 1600000 in
theorem FnExactReplaceWinner_any (AK0 : Option Addr) (ks0 : List Int) (cK0 : Nat) (AD0 : Option Addr) (ds0 : List Bool) (cD0 : Nat) (AL0 : Option Addr) (ls0 : List Int) (cL0 : Nat) (W0 : Int) (x1 : Int) (y2 : Bool) (w : World) (hx0 : ReadsT w w.heap.size AK0 ks0.length AD0 ds0.length AL0 ls0.length ks0 ds0 ls0) (hm0 : ks0.length ≤ maxLen ∧ ds0.length ≤ maxLen ∧ ls0.length ≤ maxLen) :
    Calls Try.prog 5 #[.agg #[.slice AK0 ks0.length cK0, .slice AD0 ds0.length cD0, .slice AL0 ls0.length cL0, .int .i64 W0], .int .i64 x1, .bool y2] w fun e w' => e = .returned (.bool true) ∧ Below w.heap.size w w' := by
  have e1 : ∀ x : Int, (x != x) = false := by simp
  have e2 : ∀ x : Bool, (x != x) = false := by simp
  rcases szw_cases (ks0.length + ds0.length + ls0.length) 1048576 (by omega) (by omega) with hz0 | ⟨hl0, hze0, hzp0⟩
  case inl =>
    go_enter Try.func5, Try.ntmps5
    go_wp2_with fail
    refine (szLoserTree_any AK0 ks0.length cK0 AD0 ds0.length cD0 AL0 ls0.length cL0 W0 1048576 _ hm0.1 hm0.2.1 hm0.2.2 (by omega) (by omega)).mono ?_
    rintro e w1 ⟨rfl, b1⟩
    obtain ⟨B1, k1⟩ := step_box b1
    go_wp2_with fail
    go_ret
    exact ⟨rfl, B1⟩
  have hzn0 : ¬ (szw (ks0.length + ds0.length + ls0.length) 1048576) < 0 := by omega
  have HZ0 := Lib.hid hze0; clear hze0
  have hzu0 : (szw (ks0.length + ds0.length + ls0.length) 1048576) ≤ 1048576 := by have := HZ0.out; omega
  obtain ⟨hlenA, hlenB, hlenC⟩ := rw_lens ks0 ds0 ls0 W0 x1 y2
  go_enter Try.func5, Try.ntmps5
  go_wp2_with fail
  refine (szLoserTree_any AK0 ks0.length cK0 AD0 ds0.length cD0 AL0 ls0.length cL0 W0 1048576 _ hm0.1 hm0.2.1 hm0.2.2 (by omega) (by omega)).mono ?_
  rintro e w2 ⟨rfl, b2⟩
  obtain ⟨B2, k2⟩ := step_box b2
  have q3 := (k2).four
  have q3l := (k2).lt
  go_wp2_with fail
  clear q3 q3l
  refine (toLoserTree_any AK0 ks0 cK0 AD0 ds0 cD0 AL0 ls0 cL0 W0 _ (by exact (ReadsT.more (ReadsT.below hx0 B2) (Below.size B2))) (by omega)).mono ?_
  rintro e w4 ⟨gt3K, gt3D, gt3L, rfl, ot3, b4⟩
  have c4_w := bthen B2 b4
  have ot3B := TreeRC.rebase (base' := w2.heap.size) ot3 (by first | exact Nat.le_refl _ | (simp only [World.size_alloc]; omega))
  have q5 := ((Blk.below_ k2 b4)).four
  have q5l := ((Blk.below_ k2 b4)).lt
  go_wp2_with fail
  clear q5 q5l
  refine (sReplaceWinner_any (some ⟨gt3K, 0, none⟩) ks0 ks0.length (some ⟨gt3D, 0, none⟩) ds0 ds0.length (some ⟨gt3L, 0, none⟩) ls0 ls0.length W0 x1 y2 _ (by exact (ReadsT.of_rc ot3B)) (by omega)).mono ?_
  rintro e w6 ⟨AKW0, CKW0, ADW0, CDW0, ALW0, CLW0, rfl, oW0, b6⟩
  have c6_w := bthen c4_w b6
  have c6_w2 := bthen b4 b6
  have oW0B := TreeRC.rebase (base' := w4.heap.size) oW0 (by first | exact Nat.le_refl _ | (simp only [World.size_alloc]; omega))
  have q7 := ((Blk.below_ k2 c6_w2)).four
  have q7l := ((Blk.below_ k2 c6_w2)).lt
  go_wp2_with fail
  clear q7 q7l
  refine (toLoserTree_any AK0 ks0 cK0 AD0 ds0 cD0 AL0 ls0 cL0 W0 _ (by exact (ReadsT.more (ReadsT.below hx0 (alloc_ c6_w _)) (Below.size (alloc_ c6_w _)))) (by omega)).mono ?_
  rintro e w8 ⟨gx0K, gx0D, gx0L, rfl, ox0, b8⟩
  obtain ⟨B8, k8⟩ := step_box b8
  have c8_w := bthen c6_w B8
  have c8_w2 := bthen c6_w2 B8
  have ox0B := TreeRC.rebase (base' := (w6.heap.size + 1)) ox0 (by first | exact Nat.le_refl _ | (simp only [World.size_alloc]; omega))
  have q9 := ((Blk.below_ k2 c8_w2)).four
  have q9l := ((Blk.below_ k2 c8_w2)).lt
  have q10 := (k8).four
  have q10l := (k8).lt
  go_wp2_with fail
  clear q9 q9l q10 q10l
  refine (ReplaceWinner_any (some ⟨gx0K, 0, none⟩) ks0 ks0.length (some ⟨gx0D, 0, none⟩) ds0 ds0.length (some ⟨gx0L, 0, none⟩) ls0 ls0.length W0 x1 y2 _ (by exact (ReadsT.of_rc (TreeRC.below ox0B (alloc_ (Below.refl _ _) _) (Nat.le_refl _)))) (by omega)).mono ?_
  rintro e w11 ⟨AKG0, CKG0, ADG0, CDG0, ALG0, CLG0, rfl, oG0, b11⟩
  obtain ⟨B11, k11⟩ := step_box b11
  have c11_w := bthen c8_w B11
  have c11_w2 := bthen c8_w2 B11
  have c11_w6 := bthen B8 B11
  have oG0B := TreeRC.rebase (base' := w8.heap.size) oG0 (by first | exact Nat.le_refl _ | (simp only [World.size_alloc]; omega))
  have q12 := ((Blk.below_ k2 c11_w2)).four
  have q12l := ((Blk.below_ k2 c11_w2)).lt
  have q13 := ((Blk.below_ k8 B11)).four
  have q13l := ((Blk.below_ k8 B11)).lt
  have q14 := (k11).four
  have q14l := (k11).lt
  go_wp2_with fail
  clear q12 q12l q13 q13l q14 q14l
  refine (eqLoserTree_any AKG0 AKW0 (rwK ks0 ds0 ls0 W0 x1 y2) (rwK ks0 ds0 ls0 W0 x1 y2) CKG0 CKW0 ADG0 ADW0 (rwD ks0 ds0 ls0 W0 x1 y2) (rwD ks0 ds0 ls0 W0 x1 y2) CDG0 CDW0 ALG0 ALW0 (rwL ks0 ds0 ls0 W0 x1 y2) (rwL ks0 ds0 ls0 W0 x1 y2) CLG0 CLW0 (rwW ks0 ds0 ls0 W0 x1 y2) (rwW ks0 ds0 ls0 W0 x1 y2) _ (by exact (ReadsT.of_rc (TreeRC.below oG0B (alloc_ (Below.refl _ _) _) (Nat.le_refl _)))) (by exact (ReadsT.of_rc (TreeRC.below oW0B (alloc_ c11_w6 _) (Nat.le_refl _)))) (by omega) (by omega)).mono ?_
  rintro e w15 ⟨rfl, b15⟩
  obtain ⟨B15, k15⟩ := step_box b15
  have c15_w := bthen c11_w B15
  have c15_w2 := bthen c11_w2 B15
  have c15_w6 := bthen c11_w6 B15
  have c15_w8 := bthen B11 B15
  have q16 := ((Blk.below_ k2 c15_w2)).four
  have q16l := ((Blk.below_ k2 c15_w2)).lt
  have q17 := ((Blk.below_ k8 c15_w8)).four
  have q17l := ((Blk.below_ k8 c15_w8)).lt
  have q18 := ((Blk.below_ k11 B15)).four
  have q18l := ((Blk.below_ k11 B15)).lt
  have q19 := (k15).four
  have q19l := (k15).lt
  go_wp2_with fail
  have r20 := (ReadsT.more (ReadsT.below hx0 c15_w) (Below.size c15_w))
  go_region_held3 (fun w' => w'.cell? ⟨w8.heap.size, 0, none⟩ = some (.slice (some ⟨gx0K, 0, none⟩) ks0.length ks0.length) ∧ w'.cell? ⟨w8.heap.size, 1, none⟩ = some (.slice (some ⟨gx0D, 0, none⟩) ds0.length ds0.length) ∧ w'.cell? ⟨w8.heap.size, 2, none⟩ = some (.slice (some ⟨gx0L, 0, none⟩) ls0.length ls0.length) ∧ w'.cell? ⟨w8.heap.size, 3, none⟩ = some (.int .i64 W0) ∧ w'.cell? ⟨w.heap.size, 0, none⟩ = some (.slice AK0 ks0.length cK0) ∧ w'.cell? ⟨w.heap.size, 1, none⟩ = some (.slice AD0 ds0.length cD0) ∧ w'.cell? ⟨w.heap.size, 2, none⟩ = some (.slice AL0 ls0.length cL0) ∧ w'.cell? ⟨w.heap.size, 3, none⟩ = some (.int .i64 W0)) (first | go_keep | (go_split_ands; refine ⟨?_, ?_, ?_, ?_, ?_, ?_, ?_, ?_⟩ <;> (first | (rw [Below.cell b20B (by simp; omega)]; assumption) | (rw [Below.cell b20A (by simp; omega)]; assumption)))) (first | (go_at_call 19; refine (toLoserTree_any AK0 ks0 cK0 AD0 ds0 cD0 AL0 ls0 cL0 W0 _ (by exact r20) (by omega)).mono ?_; rintro e w20A ⟨g20AK, g20AD, g20AL, rfl, o20A, b20A⟩; have l20A := b20A.size; simp only [World.size_drew] at l20A) | (go_at_call 12; refine (eqLoserTree_any (some ⟨gx0K, 0, none⟩) (some ⟨g20AK, 0, none⟩) ks0 ks0 ks0.length ks0.length (some ⟨gx0D, 0, none⟩) (some ⟨g20AD, 0, none⟩) ds0 ds0 ds0.length ds0.length (some ⟨gx0L, 0, none⟩) (some ⟨g20AL, 0, none⟩) ls0 ls0 ls0.length ls0.length W0 W0 _ (by exact ReadsT.of_rc (TreeRC.below (TreeRC.below ox0B c15_w8 (Nat.le_refl _)) (undrew b20A) (Nat.le_refl _))) (by exact ReadsT.of_rc o20A) (by omega) (by omega)).mono ?_; rintro e w20B ⟨rfl, b20B⟩))
  clear q16 q16l q17 q17l q18 q18l q19 q19l
  have b20 := bthen (undrew b20A) b20B
  have c20_w := bthen c15_w b20
  have c20_w2 := bthen c15_w2 b20
  have c20_w6 := bthen c15_w6 b20
  have c20_w8 := bthen c15_w8 b20
  have c20_w11 := bthen B15 b20
  have q21 := ((Blk.below_ k2 c20_w2)).four
  have q21l := ((Blk.below_ k2 c20_w2)).lt
  have q22 := ((Blk.below_ k8 c20_w8)).four
  have q22l := ((Blk.below_ k8 c20_w8)).lt
  have q23 := ((Blk.below_ k11 c20_w11)).four
  have q23l := ((Blk.below_ k11 c20_w11)).lt
  have q24 := ((Blk.below_ k15 b20)).four
  have q24l := ((Blk.below_ k15 b20)).lt
  go_wp2_with fail
  clear q21 q21l q22 q22l q23 q23l q24 q24l
  refine (markLoserTree_b (w6.heap.size + 1) w8.heap.size (some ⟨gx0K, 0, none⟩) ks0 ks0.length (some ⟨gx0D, 0, none⟩) ds0 ds0.length (some ⟨gx0L, 0, none⟩) ls0 ls0.length W0 1 _ (by omega) (by omega) (by omega) (by exact (TreeRC.below ox0B c20_w8 (Nat.le_refl _)))).mono ?_
  rintro e w25 ⟨rfl, o25, g25⟩
  have o25_W0 := TreeRC.mid (TreeRC.below oW0B c20_w6 (Nat.le_refl _)) g25 (.inl (by first | exact Nat.le_refl _ | omega))
  have o25_G0 := TreeRC.mid (TreeRC.below oG0B c20_w11 (Nat.le_refl _)) g25 (.inr (by first | exact Nat.le_refl _ | omega))
  have k25_a0 := Blk.mid (Blk.below_ k2 c20_w2) g25 (.inl (by first | exact Nat.lt_of_lt_of_le k2.lt (Below.size c6_w2) | (have := k2.lt; have := Below.size c6_w2; omega)))
  have k25_W0 := Blk.mid (Blk.below_ k8 c20_w8) g25 (.inl (by omega))
  have k25_x0 := Blk.mid (Blk.below_ k11 c20_w11) g25 (.inr (by have := Below.size (Below.refl w8.heap.size w8); omega))
  have k25_G0 := Blk.mid (Blk.below_ k15 b20) g25 (.inr (by have := Below.size B11; omega))
  have c25_w := Below.trans c20_w (Mid.below' g25 (by first | exact (Below.size c6_w) | (have := (Below.size c6_w); omega)) (Below.size c20_w))
  have hk0 : ¬ ((1 + ((ks0.length + ds0.length + ls0.length : Nat))) : Int) < 0 := by omega
  have q26 := (k25_a0).four
  have q26l := (k25_a0).lt
  have q27 := (k25_W0).four
  have q27l := (k25_W0).lt
  have q28 := (k25_G0).four
  have q28l := (k25_G0).lt
  go_wp2_with fail
  clear q26 q26l q27 q27l q28 q28l
  refine (eqLoserTree_any AKG0 AKW0 (rwK ks0 ds0 ls0 W0 x1 y2) (rwK ks0 ds0 ls0 W0 x1 y2) CKG0 CKW0 ADG0 ADW0 (rwD ks0 ds0 ls0 W0 x1 y2) (rwD ks0 ds0 ls0 W0 x1 y2) CDG0 CDW0 ALG0 ALW0 (rwL ks0 ds0 ls0 W0 x1 y2) (rwL ks0 ds0 ls0 W0 x1 y2) CLG0 CLW0 (rwW ks0 ds0 ls0 W0 x1 y2) (rwW ks0 ds0 ls0 W0 x1 y2) _ (by exact (ReadsT.of_rc o25_G0)) (by exact (ReadsT.of_rc o25_W0)) (by omega) (by omega)).mono ?_
  rintro e w29 ⟨rfl, b29⟩
  have c29_w := bthen c25_w b29
  have q30 := ((Blk.below_ k25_a0 b29)).four
  have q30l := ((Blk.below_ k25_a0 b29)).lt
  have q31 := ((Blk.below_ k25_W0 b29)).four
  have q31l := ((Blk.below_ k25_W0 b29)).lt
  have q32 := ((Blk.below_ k25_G0 b29)).four
  have q32l := ((Blk.below_ k25_G0 b29)).lt
  go_wp2_with fail
  clear q30 q30l q31 q31l q32 q32l
  refine (markLoserTree_b w8.heap.size w11.heap.size AKG0 (rwK ks0 ds0 ls0 W0 x1 y2) CKG0 ADG0 (rwD ks0 ds0 ls0 W0 x1 y2) CDG0 ALG0 (rwL ks0 ds0 ls0 W0 x1 y2) CLG0 (rwW ks0 ds0 ls0 W0 x1 y2) 1 _ (by omega) (by omega) (by omega) (by exact (TreeRC.below o25_G0 b29 (Nat.le_refl _)))).mono ?_
  rintro e w33 ⟨rfl, o33, g33⟩
  have o33_W0 := TreeRC.mid (TreeRC.below o25_W0 b29 (Nat.le_refl _)) g33 (.inl (by first | exact (Below.size B8) | (have := (Below.size B8); omega)))
  have k33_a0 := Blk.mid (Blk.below_ k25_a0 b29) g33 (.inl (by first | exact Nat.lt_of_lt_of_le k2.lt (Below.size c8_w2) | (have := k2.lt; have := Below.size c8_w2; omega)))
  have k33_W0 := Blk.mid (Blk.below_ k25_W0 b29) g33 (.inl k8.lt)
  have k33_G0 := Blk.mid (Blk.below_ k25_G0 b29) g33 (.inr (by have := Below.size (Below.refl w11.heap.size w11); omega))
  have c33_w := Below.trans c29_w (Mid.below' g33 (by first | exact (Below.size c8_w) | (have := (Below.size c8_w); omega)) (Below.size c29_w))
  have hq0 : ¬ ((1 + (((rwK ks0 ds0 ls0 W0 x1 y2).length + (rwD ks0 ds0 ls0 W0 x1 y2).length + (rwL ks0 ds0 ls0 W0 x1 y2).length : Nat))) : Int) < 0 := by omega
  have hqm : (((1 + (((rwK ks0 ds0 ls0 W0 x1 y2).length + (rwD ks0 ds0 ls0 W0 x1 y2).length + (rwL ks0 ds0 ls0 W0 x1 y2).length : Nat))) : Int) != (1 + (((rwK ks0 ds0 ls0 W0 x1 y2).length + (rwD ks0 ds0 ls0 W0 x1 y2).length + (rwL ks0 ds0 ls0 W0 x1 y2).length : Nat)))) = false := by simp
  have q34 := (k33_a0).four
  have q34l := (k33_a0).lt
  have q35 := (k33_W0).four
  have q35l := (k33_W0).lt
  have q36 := (k33_G0).four
  have q36l := (k33_G0).lt
  go_wp2_with fail
  clear q34 q34l q35 q35l q36 q36l
  refine (heldLoserTree_b AKG0 (rwK ks0 ds0 ls0 W0 x1 y2).length CKG0 ADG0 (rwD ks0 ds0 ls0 W0 x1 y2).length CDG0 ALG0 (rwL ks0 ds0 ls0 W0 x1 y2).length CLG0 (rwW ks0 ds0 ls0 W0 x1 y2) 1 _ (by omega) (by omega) (by omega) (by exact (ReadsT.of_rc o33))).mono ?_
  rintro e w37 ⟨rfl, b37⟩
  have c37_w := bthen c33_w b37
  have q38 := ((Blk.below_ k33_a0 b37)).four
  have q38l := ((Blk.below_ k33_a0 b37)).lt
  have q39 := ((Blk.below_ k33_W0 b37)).four
  have q39l := ((Blk.below_ k33_W0 b37)).lt
  have q40 := ((Blk.below_ k33_G0 b37)).four
  have q40l := ((Blk.below_ k33_G0 b37)).lt
  go_wp2_with fail
  clear q38 q38l q39 q39l q40 q40l
  refine (toLoserTree_any AK0 ks0 cK0 AD0 ds0 cD0 AL0 ls0 cL0 W0 _ (by exact (ReadsT.more (ReadsT.below hx0 c37_w) (Below.size c37_w))) (by omega)).mono ?_
  rintro e w41 ⟨gt40K, gt40D, gt40L, rfl, ot40, b41⟩
  have c41_w := bthen c37_w b41
  have c41_w33 := bthen b37 b41
  have ot40B := TreeRC.rebase (base' := w37.heap.size) ot40 (by first | exact Nat.le_refl _ | (simp only [World.size_alloc]; omega))
  have q42 := ((Blk.below_ k33_a0 c41_w33)).four
  have q42l := ((Blk.below_ k33_a0 c41_w33)).lt
  have q43 := ((Blk.below_ k33_W0 c41_w33)).four
  have q43l := ((Blk.below_ k33_W0 c41_w33)).lt
  have q44 := ((Blk.below_ k33_G0 c41_w33)).four
  have q44l := ((Blk.below_ k33_G0 c41_w33)).lt
  go_wp2_with fail
  clear q42 q42l q43 q43l q44 q44l
  refine (ReplaceWinner_any (some ⟨gt40K, 0, none⟩) ks0 ks0.length (some ⟨gt40D, 0, none⟩) ds0 ds0.length (some ⟨gt40L, 0, none⟩) ls0 ls0.length W0 x1 y2 _ (by exact (ReadsT.of_rc ot40B)) (by omega)).mono ?_
  rintro e w45 ⟨AKH0, CKH0, ADH0, CDH0, ALH0, CLH0, rfl, oH0, b45⟩
  have c45_w := bthen c41_w b45
  have c45_w33 := bthen c41_w33 b45
  have oH0B := TreeRC.rebase (base' := w41.heap.size) oH0 (by first | exact Nat.le_refl _ | (simp only [World.size_alloc]; omega))
  have q46 := ((Blk.below_ k33_a0 c45_w33)).four
  have q46l := ((Blk.below_ k33_a0 c45_w33)).lt
  have q47 := ((Blk.below_ k33_W0 c45_w33)).four
  have q47l := ((Blk.below_ k33_W0 c45_w33)).lt
  have q48 := ((Blk.below_ k33_G0 c45_w33)).four
  have q48l := ((Blk.below_ k33_G0 c45_w33)).lt
  go_wp2_with fail
  clear q46 q46l q47 q47l q48 q48l
  refine (eqLoserTree_any AKH0 AKW0 (rwK ks0 ds0 ls0 W0 x1 y2) (rwK ks0 ds0 ls0 W0 x1 y2) CKH0 CKW0 ADH0 ADW0 (rwD ks0 ds0 ls0 W0 x1 y2) (rwD ks0 ds0 ls0 W0 x1 y2) CDH0 CDW0 ALH0 ALW0 (rwL ks0 ds0 ls0 W0 x1 y2) (rwL ks0 ds0 ls0 W0 x1 y2) CLH0 CLW0 (rwW ks0 ds0 ls0 W0 x1 y2) (rwW ks0 ds0 ls0 W0 x1 y2) _ (by exact (ReadsT.of_rc (TreeRC.below oH0B (alloc_ (Below.refl _ _) _) (Nat.le_refl _)))) (by exact (ReadsT.of_rc (TreeRC.below o33_W0 (alloc_ c45_w33 _) (Nat.le_refl _)))) (by omega) (by omega)).mono ?_
  rintro e w49 ⟨rfl, b49⟩
  obtain ⟨B49, k49⟩ := step_box b49
  have c49_w := bthen c45_w B49
  have c49_w33 := bthen c45_w33 B49
  have q50 := ((Blk.below_ k33_a0 c49_w33)).four
  have q50l := ((Blk.below_ k33_a0 c49_w33)).lt
  have q51 := ((Blk.below_ k33_W0 c49_w33)).four
  have q51l := ((Blk.below_ k33_W0 c49_w33)).lt
  have q52 := ((Blk.below_ k33_G0 c49_w33)).four
  have q52l := ((Blk.below_ k33_G0 c49_w33)).lt
  have q53 := (k49).four
  have q53l := (k49).lt
  go_wp2_with fail
  clear q50 q50l q51 q51l q52 q52l q53 q53l
  refine (heldLoserTree_b AKG0 (rwK ks0 ds0 ls0 W0 x1 y2).length CKG0 ADG0 (rwD ks0 ds0 ls0 W0 x1 y2).length CDG0 ALG0 (rwL ks0 ds0 ls0 W0 x1 y2).length CLG0 (rwW ks0 ds0 ls0 W0 x1 y2) 1 _ (by omega) (by omega) (by omega) (by exact (ReadsT.of_rc (TreeRC.below o33 c49_w33 (Nat.le_refl _))))).mono ?_
  rintro e w54 ⟨rfl, b54⟩
  have c54_w := bthen c49_w b54
  have c54_w33 := bthen c49_w33 b54
  have c54_w45 := bthen B49 b54
  go_wp2_with fail
  go_ret
  exact ⟨rfl, c54_w⟩
end Go.Proofs.Ytpcoiklbhhngpaa
