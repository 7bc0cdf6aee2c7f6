/- Walks of exact laws, printed by lawgen.py. -/
import Derived.Test.YtpcoiklbhhngpaaBenesA
namespace Go.Proofs.Ytpcoiklbhhngpaa
open Go.RowKit
set_option linter.unusedVariables false
set_option maxRecDepth 100000 in
set_option maxHeartbeats 1600000 in
theorem FnExactBenesApply_any (A0 : Option Addr) (z0 : List Int) (c0 : Nat) (A1 : Option Addr) (z1 : List Bool) (c1 : Nat) (w : World) (hx0 : Reads w w.heap.size 1 A0 z0.length (ints z0)) (hm0 : z0.length ≤ maxLen) (hx1 : Reads w w.heap.size 1 A1 z1.length (bools z1)) (hm1 : z1.length ≤ maxLen) :
    Calls Try.prog 6 #[.slice A0 z0.length c0, .slice A1 z1.length c1] w fun e w' => e = .returned (.bool true) ∧ Below w.heap.size w w' := by
  have e1 : ∀ x : Int, (x != x) = false := by simp
  have e2 : ∀ x : Bool, (x != x) = false := by simp
  unfold maxLen at hm0
  by_cases hl0 : z0.length ≤ 1048576
  case neg =>
    have hl0' : (1048576 : Int) < z0.length := by omega
    go_enter Try.func6, Try.ntmps6
    go_wp2_with fail
    go_ret
    exact ⟨rfl, by go_grown⟩
  have hl0' : ¬ (1048576 : Int) < z0.length := by omega
  unfold maxLen at hm1
  by_cases hl1 : z1.length ≤ 1048576
  case neg =>
    have hl1' : (1048576 : Int) < z1.length := by omega
    go_enter Try.func6, Try.ntmps6
    go_wp2_with fail
    go_ret
    exact ⟨rfl, by go_grown⟩
  have hl1' : ¬ (1048576 : Int) < z1.length := by omega
  have hlenA := bn_len z0 z1
  go_enter Try.func6, Try.ntmps6
  go_wp2_with fail
  refine (toIntS_any A0 z0 c0 _ (by exact hx0) (by omega)).mono ?_
  rintro e w1 ⟨gt0, rfl, ot0, b1⟩
  have ot0B := own_base (base' := w.heap.size) ot0 (by first | exact Nat.le_refl _ | (simp only [World.size_alloc]; omega))
  go_wp2_with fail
  refine (toBoolS_any A1 z1 c1 _ (by exact (Reads.more (Reads.below hx1 b1) (Below.size b1))) (by omega)).mono ?_
  rintro e w2 ⟨gt1, rfl, ot1, b2⟩
  have c2_w := bthen b1 b2
  have ot1B := own_base (base' := w1.heap.size) ot1 (by first | exact Nat.le_refl _ | (simp only [World.size_alloc]; omega))
  go_wp2_with fail
  refine (sBenesApply_any (some ⟨gt0, 0, none⟩) z0 z0.length (some ⟨gt1, 0, none⟩) z1 z1.length _ (by exact (Reads.of_own (own_below ot0B b2 (Nat.le_refl _)))) (by omega) (by exact (Reads.of_own ot1B)) (by omega) (Nat.le_refl _)).mono ?_
  rintro e w3 ⟨AW0, CW0, rfl, oW0, b3⟩
  have c3_w := bthen c2_w b3
  have c3_w1 := bthen b2 b3
  have oW0B := own_base (base' := w2.heap.size) oW0 (by first | exact Nat.le_refl _ | (simp only [World.size_alloc]; omega))
  go_wp2_with fail
  refine (toIntS_any A0 z0 c0 _ (by exact (Reads.more (Reads.below hx0 c3_w) (Below.size c3_w))) (by omega)).mono ?_
  rintro e w4 ⟨gx0, rfl, ox0, b4⟩
  have c4_w := bthen c3_w b4
  have ox0B := own_base (base' := w3.heap.size) ox0 (by first | exact Nat.le_refl _ | (simp only [World.size_alloc]; omega))
  go_wp2_with fail
  refine (toBoolS_any A1 z1 c1 _ (by exact (Reads.more (Reads.below hx1 c4_w) (Below.size c4_w))) (by omega)).mono ?_
  rintro e w5 ⟨gx1, rfl, ox1, b5⟩
  have c5_w := bthen c4_w b5
  have c5_w3 := bthen b4 b5
  have ox1B := own_base (base' := w4.heap.size) ox1 (by first | exact Nat.le_refl _ | (simp only [World.size_alloc]; omega))
  go_wp2_with fail
  refine (BenesApply_any (some ⟨gx0, 0, none⟩) z0 z0.length (some ⟨gx1, 0, none⟩) z1 z1.length _ (by exact (Reads.of_own (own_below ox0B b5 (Nat.le_refl _)))) (by omega) (by exact (Reads.of_own ox1B)) (by omega) (Nat.le_refl _)).mono ?_
  rintro e w6 ⟨AG0, CG0, rfl, oG0, b6⟩
  have c6_w := bthen c5_w b6
  have c6_w3 := bthen c5_w3 b6
  have c6_w4 := bthen b5 b6
  have oG0B := own_base (base' := w5.heap.size) oG0 (by first | exact Nat.le_refl _ | (simp only [World.size_alloc]; omega))
  go_wp2_with fail
  refine (eqIntS_b AG0 AW0 (bnV z0 z1) (bnV z0 z1) CG0 CW0 _ (by exact (Reads.of_own oG0B)) (by exact (Reads.of_own (own_below oW0B c6_w3 (Nat.le_refl _)))) (by omega) (by omega)).mono ?_
  rintro e w7 ⟨rfl, b7⟩
  have c7_w := bthen c6_w b7
  have c7_w3 := bthen c6_w3 b7
  have c7_w4 := bthen c6_w4 b7
  have c7_w5 := bthen b6 b7
  go_wp2_with fail
  refine (toIntS_any A0 z0 c0 _ (by exact (Reads.more (Reads.below hx0 c7_w) (Below.size c7_w))) (by omega)).mono ?_
  rintro e w8 ⟨gt7, rfl, ot7, b8⟩
  have c8_w := bthen c7_w b8
  have c8_w3 := bthen c7_w3 b8
  have c8_w4 := bthen c7_w4 b8
  have c8_w5 := bthen c7_w5 b8
  have c8_w6 := bthen b7 b8
  have ot7B := own_base (base' := w7.heap.size) ot7 (by first | exact Nat.le_refl _ | (simp only [World.size_alloc]; omega))
  go_wp2_with fail
  refine (eqIntS_b (some ⟨gx0, 0, none⟩) (some ⟨gt7, 0, none⟩) z0 z0 z0.length z0.length _ (by exact (Reads.of_own (own_below ox0B c8_w4 (Nat.le_refl _)))) (by exact (Reads.of_own ot7B)) (by omega) (by omega)).mono ?_
  rintro e w9 ⟨rfl, b9⟩
  have c9_w := bthen c8_w b9
  have c9_w3 := bthen c8_w3 b9
  have c9_w4 := bthen c8_w4 b9
  have c9_w5 := bthen c8_w5 b9
  have c9_w6 := bthen c8_w6 b9
  go_wp2_with fail
  refine (toBoolS_any A1 z1 c1 _ (by exact (Reads.more (Reads.below hx1 c9_w) (Below.size c9_w))) (by omega)).mono ?_
  rintro e w10 ⟨gt9, rfl, ot9, b10⟩
  have c10_w := bthen c9_w b10
  have c10_w3 := bthen c9_w3 b10
  have c10_w4 := bthen c9_w4 b10
  have c10_w5 := bthen c9_w5 b10
  have c10_w6 := bthen c9_w6 b10
  have ot9B := own_base (base' := w9.heap.size) ot9 (by first | exact Nat.le_refl _ | (simp only [World.size_alloc]; omega))
  go_wp2_with fail
  refine (eqBoolS_b (some ⟨gx1, 0, none⟩) (some ⟨gt9, 0, none⟩) z1 z1 z1.length z1.length _ (by exact (Reads.of_own (own_below ox1B c10_w5 (Nat.le_refl _)))) (by exact (Reads.of_own ot9B)) (by omega) (by omega)).mono ?_
  rintro e w11 ⟨rfl, b11⟩
  have c11_w := bthen c10_w b11
  have c11_w3 := bthen c10_w3 b11
  have c11_w4 := bthen c10_w4 b11
  have c11_w5 := bthen c10_w5 b11
  have c11_w6 := bthen c10_w6 b11
  go_wp2_with fail
  refine (markIntS_b w3.heap.size (some ⟨gx0, 0, none⟩) z0 z0.length 1 _ (by omega) (by omega) (by omega) (by exact (own_below ox0B c11_w4 (Nat.le_refl _)))).mono ?_
  rintro e w12 ⟨rfl, o12, g12⟩
  have o12_W0 := World.ownsRow.kept (own_below oW0B c11_w3 (Nat.le_refl _)) g12 (own_ne_new oW0B ox0B (Nat.le_refl _))
  have o12_x1 := World.ownsRow.kept (own_below ox1B c11_w5 (Nat.le_refl _)) g12 (own_ne_type (own_below ox1B c11_w5 (Nat.le_refl _)) (own_below ox0B c11_w4 (Nat.le_refl _)) (by decide))
  have o12_G0 := World.ownsRow.kept (own_below oG0B c11_w6 (Nat.le_refl _)) g12 (own_ne_old ox0B oG0B (Below.size b5))
  have c12_w := Below.trans c11_w (below_of_grown g12 (Below.size c11_w) (fun k hk => Nat.le_trans (Below.size c3_w) (own_lt ox0B k hk).1))
  go_wp2_with fail
  refine (markBoolS_b w4.heap.size (some ⟨gx1, 0, none⟩) z1 z1.length (1 + z0.length) _ (by omega) (by omega) (by omega) (by exact o12_x1)).mono ?_
  rintro e w13 ⟨rfl, o13, g13⟩
  have o13_W0 := World.ownsRow.kept o12_W0 g13 (own_ne_type o12_W0 o12_x1 (by decide))
  have o13_x0 := World.ownsRow.kept o12 g13 (own_ne_type o12 o12_x1 (by decide))
  have o13_G0 := World.ownsRow.kept o12_G0 g13 (own_ne_type o12_G0 o12_x1 (by decide))
  have c13_w := Below.trans c12_w (below_of_grown g13 (Below.size c12_w) (fun k hk => Nat.le_trans (Below.size c4_w) (own_lt ox1B k hk).1))
  have hk0 : ¬ (((1 + z0.length) + z1.length) : Int) < 0 := by omega
  go_wp2_with fail
  refine (eqIntS_b AG0 AW0 (bnV z0 z1) (bnV z0 z1) CG0 CW0 _ (by exact (Reads.of_own o13_G0)) (by exact (Reads.of_own o13_W0)) (by omega) (by omega)).mono ?_
  rintro e w14 ⟨rfl, b14⟩
  have c14_w := bthen c13_w b14
  go_wp2_with fail
  refine (markIntS_b w5.heap.size AG0 (bnV z0 z1) CG0 1 _ (by omega) (by omega) (by omega) (by exact (own_below o13_G0 b14 (Nat.le_refl _)))).mono ?_
  rintro e w15 ⟨rfl, o15, g15⟩
  have o15_W0 := World.ownsRow.kept (own_below o13_W0 b14 (Nat.le_refl _)) g15 (own_ne_new oW0B oG0B (Below.size c5_w3))
  have c15_w := Below.trans c14_w (below_of_grown g15 (Below.size c14_w) (fun k hk => Nat.le_trans (Below.size c5_w) (own_lt oG0B k hk).1))
  have hq0 : ¬ ((1 + (bnV z0 z1).length) : Int) < 0 := by omega
  have hqm : (((1 + (bnV z0 z1).length) : Int) != (1 + (bnV z0 z1).length)) = false := by simp
  go_wp2_with fail
  refine (heldIntS_b AG0 (bnV z0 z1).length CG0 1 _ (by omega) (by omega) (by omega) (by exact (Reads.of_own o15))).mono ?_
  rintro e w16 ⟨rfl, b16⟩
  have c16_w := bthen c15_w b16
  go_wp2_with fail
  refine (toIntS_any A0 z0 c0 _ (by exact (Reads.more (Reads.below hx0 c16_w) (Below.size c16_w))) (by omega)).mono ?_
  rintro e w17 ⟨gt16, rfl, ot16, b17⟩
  have c17_w := bthen c16_w b17
  have c17_w15 := bthen b16 b17
  have ot16B := own_base (base' := w16.heap.size) ot16 (by first | exact Nat.le_refl _ | (simp only [World.size_alloc]; omega))
  go_wp2_with fail
  refine (toBoolS_any A1 z1 c1 _ (by exact (Reads.more (Reads.below hx1 c17_w) (Below.size c17_w))) (by omega)).mono ?_
  rintro e w18 ⟨gt17, rfl, ot17, b18⟩
  have c18_w := bthen c17_w b18
  have c18_w15 := bthen c17_w15 b18
  have ot17B := own_base (base' := w17.heap.size) ot17 (by first | exact Nat.le_refl _ | (simp only [World.size_alloc]; omega))
  go_wp2_with fail
  refine (BenesApply_any (some ⟨gt16, 0, none⟩) z0 z0.length (some ⟨gt17, 0, none⟩) z1 z1.length _ (by exact (Reads.of_own (own_below ot16B b18 (Nat.le_refl _)))) (by omega) (by exact (Reads.of_own ot17B)) (by omega) (Nat.le_refl _)).mono ?_
  rintro e w19 ⟨AH0, CH0, rfl, oH0, b19⟩
  have c19_w := bthen c18_w b19
  have c19_w15 := bthen c18_w15 b19
  have c19_w17 := bthen b18 b19
  have oH0B := own_base (base' := w18.heap.size) oH0 (by first | exact Nat.le_refl _ | (simp only [World.size_alloc]; omega))
  go_wp2_with fail
  refine (eqIntS_b AH0 AW0 (bnV z0 z1) (bnV z0 z1) CH0 CW0 _ (by exact (Reads.of_own oH0B)) (by exact (Reads.of_own (own_below o15_W0 c19_w15 (Nat.le_refl _)))) (by omega) (by omega)).mono ?_
  rintro e w20 ⟨rfl, b20⟩
  have c20_w := bthen c19_w b20
  have c20_w15 := bthen c19_w15 b20
  go_wp2_with fail
  refine (heldIntS_b AG0 (bnV z0 z1).length CG0 1 _ (by omega) (by omega) (by omega) (by exact (Reads.of_own (own_below o15 c20_w15 (Nat.le_refl _))))).mono ?_
  rintro e w21 ⟨rfl, b21⟩
  have c21_w := bthen c20_w b21
  have c21_w15 := bthen c20_w15 b21
  have c21_w19 := bthen b20 b21
  go_wp2_with fail
  go_ret
  exact ⟨rfl, c21_w⟩
end Go.Proofs.Ytpcoiklbhhngpaa
