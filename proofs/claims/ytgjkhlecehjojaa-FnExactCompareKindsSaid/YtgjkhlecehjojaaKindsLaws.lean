/- Walks of exact laws, printed by lawgen.py. -/
import Derived.Test.YtgjkhlecehjojaaKinds
namespace Go.Proofs.Ytgjkhlecehjojaa
open Go.RowKit
set_option linter.unusedVariables false
set_option maxRecDepth 100000 in
set_option maxHeartbeats 1600000 in
theorem FnExactCompareKinds_any (a0 : Int) (w : World) :
    Calls Try.prog 3 #[.int .i64 a0] w fun e w' => e = .returned (.bool true) ∧ Below w.heap.size w w' := by
  have e1 : ∀ x : Int, (x != x) = false := by simp
  have e2 : ∀ x : Bool, (x != x) = false := by simp
  have hlenA := ck_len a0
  go_enter Try.func3, Try.ntmps3
  go_wp2_with fail
  refine (sCompareKinds_any a0 _).mono ?_
  rintro e w1 ⟨AW0, CW0, rfl, oW0, b1⟩
  have oW0B := own_base (base' := w.heap.size) oW0 (by first | exact Nat.le_refl _ | (simp only [World.size_alloc]; omega))
  go_wp2_with fail
  refine (CompareKinds_any a0 _).mono ?_
  rintro e w2 ⟨AG0, CG0, rfl, oG0, b2⟩
  have c2_w := bthen b1 b2
  have oG0B := own_base (base' := w1.heap.size) oG0 (by first | exact Nat.le_refl _ | (simp only [World.size_alloc]; omega))
  go_wp2_with fail
  refine (eqIntS_b AG0 AW0 (ckV a0) (ckV a0) CG0 CW0 _ (by exact (Reads.of_own oG0B)) (by exact (Reads.of_own (own_below oW0B b2 (Nat.le_refl _)))) (by omega) (by omega)).mono ?_
  rintro e w3 ⟨rfl, b3⟩
  have c3_w := bthen c2_w b3
  have c3_w1 := bthen b2 b3
  go_wp2_with fail
  refine (markIntS_b w1.heap.size AG0 (ckV a0) CG0 1 _ (by omega) (by omega) (by omega) (by exact (own_below oG0B b3 (Nat.le_refl _)))).mono ?_
  rintro e w4 ⟨rfl, o4, g4⟩
  have o4_W0 := World.ownsRow.kept (own_below oW0B c3_w1 (Nat.le_refl _)) g4 (own_ne_new oW0B oG0B (Nat.le_refl _))
  have c4_w := Below.trans c3_w (below_of_grown g4 (Below.size c3_w) (fun k hk => Nat.le_trans (Below.size b1) (own_lt oG0B k hk).1))
  have hq0 : ¬ ((1 + (ckV a0).length) : Int) < 0 := by omega
  have hqm : (((1 + (ckV a0).length) : Int) != (1 + (ckV a0).length)) = false := by simp
  go_wp2_with fail
  refine (heldIntS_b AG0 (ckV a0).length CG0 1 _ (by omega) (by omega) (by omega) (by exact (Reads.of_own o4))).mono ?_
  rintro e w5 ⟨rfl, b5⟩
  have c5_w := bthen c4_w b5
  go_wp2_with fail
  refine (CompareKinds_any a0 _).mono ?_
  rintro e w6 ⟨AH0, CH0, rfl, oH0, b6⟩
  have c6_w := bthen c5_w b6
  have c6_w4 := bthen b5 b6
  have oH0B := own_base (base' := w5.heap.size) oH0 (by first | exact Nat.le_refl _ | (simp only [World.size_alloc]; omega))
  go_wp2_with fail
  refine (eqIntS_b AH0 AW0 (ckV a0) (ckV a0) CH0 CW0 _ (by exact (Reads.of_own oH0B)) (by exact (Reads.of_own (own_below o4_W0 c6_w4 (Nat.le_refl _)))) (by omega) (by omega)).mono ?_
  rintro e w7 ⟨rfl, b7⟩
  have c7_w := bthen c6_w b7
  have c7_w4 := bthen c6_w4 b7
  go_wp2_with fail
  refine (heldIntS_b AG0 (ckV a0).length CG0 1 _ (by omega) (by omega) (by omega) (by exact (Reads.of_own (own_below o4 c7_w4 (Nat.le_refl _))))).mono ?_
  rintro e w8 ⟨rfl, b8⟩
  have c8_w := bthen c7_w b8
  have c8_w4 := bthen c7_w4 b8
  have c8_w6 := bthen b7 b8
  go_wp2_with fail
  go_ret
  exact ⟨rfl, c8_w⟩
end Go.Proofs.Ytgjkhlecehjojaa
