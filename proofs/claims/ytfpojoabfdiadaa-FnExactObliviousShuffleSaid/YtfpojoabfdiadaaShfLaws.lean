/- Walks of exact laws, printed by lawgen.py. -/
import Derived.Test.YtfpojoabfdiadaaShfS
import Derived.Test.YtfpojoabfdiadaaNestL
namespace Go.Proofs.Ytfpojoabfdiadaa
open Go.RowKit
set_option linter.unusedVariables false
set_option maxRecDepth 100000 in
set_option maxHeartbeats 1600000 in
theorem FnExactObliviousShuffle_any (A0 : Option Addr) (z0 : List Int) (c0 : Nat) (a1 : Int) (w : World) (hx0 : Reads w w.heap.size 1 A0 z0.length (ints z0)) (hm0 : z0.length ≤ maxLen) :
    Calls Try.prog 3 #[.slice A0 z0.length c0, .int .i64 a1] w fun e w' => e = .returned (.bool true) ∧ Below w.heap.size w w' := by
  have e1 : ∀ x : Int, (x != x) = false := by simp
  have e2 : ∀ x : Bool, (x != x) = false := by simp
  unfold maxLen at hm0
  by_cases hl0 : z0.length ≤ 1048576
  case neg =>
    have hl0' : (1048576 : Int) < z0.length := by omega
    go_enter Try.func3, Try.ntmps3
    go_wp2_with fail
    go_ret
    exact ⟨rfl, by go_grown⟩
  have hl0' : ¬ (1048576 : Int) < z0.length := by omega
  have hlenA := sh_len z0 a1
  go_enter Try.func3, Try.ntmps3
  go_wp2_with fail
  refine (toIntS_any A0 z0 c0 _ (by exact hx0) (by omega)).mono ?_
  rintro e w1 ⟨gt0, rfl, ot0, b1⟩
  have ot0B := own_base (base' := w.heap.size) ot0 (by first | exact Nat.le_refl _ | (simp only [World.size_alloc]; omega))
  go_wp2_with fail
  refine (sObliviousShuffle_any (some ⟨gt0, 0, none⟩) z0 z0.length a1 _ (by exact (Reads.of_own ot0B)) (by omega)).mono ?_
  rintro e w2 ⟨AW0, CW0, rfl, oW0, b2⟩
  have c2_w := bthen b1 b2
  have oW0B := own_base (base' := w1.heap.size) oW0 (by first | exact Nat.le_refl _ | (simp only [World.size_alloc]; omega))
  go_wp2_with fail
  refine (toIntS_any A0 z0 c0 _ (by exact (Reads.more (Reads.below hx0 c2_w) (Below.size c2_w))) (by omega)).mono ?_
  rintro e w3 ⟨gx0, rfl, ox0, b3⟩
  have c3_w := bthen c2_w b3
  have ox0B := own_base (base' := w2.heap.size) ox0 (by first | exact Nat.le_refl _ | (simp only [World.size_alloc]; omega))
  go_wp2_with fail
  refine (ObliviousShuffle_any (some ⟨gx0, 0, none⟩) z0 z0.length a1 _ (by exact (Reads.of_own ox0B)) (by omega)).mono ?_
  rintro e w4 ⟨AG0, CG0, rfl, oG0, b4⟩
  have c4_w := bthen c3_w b4
  have c4_w2 := bthen b3 b4
  have oG0B := own_base (base' := w3.heap.size) oG0 (by first | exact Nat.le_refl _ | (simp only [World.size_alloc]; omega))
  go_wp2_with fail
  refine (eqIntS_b AG0 AW0 (shV z0 a1) (shV z0 a1) CG0 CW0 _ (by exact (Reads.of_own oG0B)) (by exact (Reads.of_own (own_below oW0B c4_w2 (Nat.le_refl _)))) (by omega) (by omega)).mono ?_
  rintro e w5 ⟨rfl, b5⟩
  have c5_w := bthen c4_w b5
  have c5_w2 := bthen c4_w2 b5
  have c5_w3 := bthen b4 b5
  go_wp2_with fail
  refine (toIntS_any A0 z0 c0 _ (by exact (Reads.more (Reads.below hx0 c5_w) (Below.size c5_w))) (by omega)).mono ?_
  rintro e w6 ⟨gt5, rfl, ot5, b6⟩
  have c6_w := bthen c5_w b6
  have c6_w2 := bthen c5_w2 b6
  have c6_w3 := bthen c5_w3 b6
  have c6_w4 := bthen b5 b6
  have ot5B := own_base (base' := w5.heap.size) ot5 (by first | exact Nat.le_refl _ | (simp only [World.size_alloc]; omega))
  go_wp2_with fail
  refine (eqIntS_b (some ⟨gx0, 0, none⟩) (some ⟨gt5, 0, none⟩) z0 z0 z0.length z0.length _ (by exact (Reads.of_own (own_below ox0B c6_w3 (Nat.le_refl _)))) (by exact (Reads.of_own ot5B)) (by omega) (by omega)).mono ?_
  rintro e w7 ⟨rfl, b7⟩
  have c7_w := bthen c6_w b7
  have c7_w2 := bthen c6_w2 b7
  have c7_w3 := bthen c6_w3 b7
  have c7_w4 := bthen c6_w4 b7
  go_wp2_with fail
  refine (markIntS_b w2.heap.size (some ⟨gx0, 0, none⟩) z0 z0.length 1 _ (by omega) (by omega) (by omega) (by exact (own_below ox0B c7_w3 (Nat.le_refl _)))).mono ?_
  rintro e w8 ⟨rfl, o8, g8⟩
  have o8_W0 := World.ownsRow.kept (own_below oW0B c7_w2 (Nat.le_refl _)) g8 (own_ne_new oW0B ox0B (Nat.le_refl _))
  have o8_G0 := World.ownsRow.kept (own_below oG0B c7_w4 (Nat.le_refl _)) g8 (own_ne_old ox0B oG0B (Nat.le_refl _))
  have c8_w := Below.trans c7_w (below_of_grown g8 (Below.size c7_w) (fun k hk => Nat.le_trans (Below.size c2_w) (own_lt ox0B k hk).1))
  have hk0 : ¬ ((1 + z0.length) : Int) < 0 := by omega
  go_wp2_with fail
  refine (eqIntS_b AG0 AW0 (shV z0 a1) (shV z0 a1) CG0 CW0 _ (by exact (Reads.of_own o8_G0)) (by exact (Reads.of_own o8_W0)) (by omega) (by omega)).mono ?_
  rintro e w9 ⟨rfl, b9⟩
  have c9_w := bthen c8_w b9
  go_wp2_with fail
  refine (markIntS_b w3.heap.size AG0 (shV z0 a1) CG0 1 _ (by omega) (by omega) (by omega) (by exact (own_below o8_G0 b9 (Nat.le_refl _)))).mono ?_
  rintro e w10 ⟨rfl, o10, g10⟩
  have o10_W0 := World.ownsRow.kept (own_below o8_W0 b9 (Nat.le_refl _)) g10 (own_ne_new oW0B oG0B (Below.size b3))
  have c10_w := Below.trans c9_w (below_of_grown g10 (Below.size c9_w) (fun k hk => Nat.le_trans (Below.size c3_w) (own_lt oG0B k hk).1))
  have hq0 : ¬ ((1 + (shV z0 a1).length) : Int) < 0 := by omega
  have hqm : (((1 + (shV z0 a1).length) : Int) != (1 + (shV z0 a1).length)) = false := by simp
  go_wp2_with fail
  refine (heldIntS_b AG0 (shV z0 a1).length CG0 1 _ (by omega) (by omega) (by omega) (by exact (Reads.of_own o10))).mono ?_
  rintro e w11 ⟨rfl, b11⟩
  have c11_w := bthen c10_w b11
  go_wp2_with fail
  refine (toIntS_any A0 z0 c0 _ (by exact (Reads.more (Reads.below hx0 c11_w) (Below.size c11_w))) (by omega)).mono ?_
  rintro e w12 ⟨gt11, rfl, ot11, b12⟩
  have c12_w := bthen c11_w b12
  have c12_w10 := bthen b11 b12
  have ot11B := own_base (base' := w11.heap.size) ot11 (by first | exact Nat.le_refl _ | (simp only [World.size_alloc]; omega))
  go_wp2_with fail
  refine (ObliviousShuffle_any (some ⟨gt11, 0, none⟩) z0 z0.length a1 _ (by exact (Reads.of_own ot11B)) (by omega)).mono ?_
  rintro e w13 ⟨AH0, CH0, rfl, oH0, b13⟩
  have c13_w := bthen c12_w b13
  have c13_w10 := bthen c12_w10 b13
  have oH0B := own_base (base' := w12.heap.size) oH0 (by first | exact Nat.le_refl _ | (simp only [World.size_alloc]; omega))
  go_wp2_with fail
  refine (eqIntS_b AH0 AW0 (shV z0 a1) (shV z0 a1) CH0 CW0 _ (by exact (Reads.of_own oH0B)) (by exact (Reads.of_own (own_below o10_W0 c13_w10 (Nat.le_refl _)))) (by omega) (by omega)).mono ?_
  rintro e w14 ⟨rfl, b14⟩
  have c14_w := bthen c13_w b14
  have c14_w10 := bthen c13_w10 b14
  go_wp2_with fail
  refine (heldIntS_b AG0 (shV z0 a1).length CG0 1 _ (by omega) (by omega) (by omega) (by exact (Reads.of_own (own_below o10 c14_w10 (Nat.le_refl _))))).mono ?_
  rintro e w15 ⟨rfl, b15⟩
  have c15_w := bthen c14_w b15
  have c15_w10 := bthen c14_w10 b15
  have c15_w13 := bthen b14 b15
  go_wp2_with fail
  go_ret
  exact ⟨rfl, c15_w⟩
end Go.Proofs.Ytfpojoabfdiadaa
