/- Walks of exact laws, printed by lawgen.py. -/
import Derived.Test.YtfebnlojicpaaaaExpW
namespace Go.Proofs.Ytfebnlojicpaaaa
open Go.RowKit
set_option linter.unusedVariables false
theorem heldComparatorS_b (A : Option Addr) (n c : Nat) (k0 : Int) (w : World) (hl : n ≤ 1048576) (h0 : 0 ≤ k0) (h1 : k0 ≤ 1099511627776)
    (hx : Reads w w.heap.size 2 A n (cmps (cmarks k0 n))) :
    Calls Try.prog 19 #[.slice A n c, .int .i64 k0] w fun e w' => e = .returned (.int .i64 (k0 + 2 * n)) ∧ Below w.heap.size w w' :=
  (heldComparatorS_any A n c k0 w hl h0 h1 hx).mono fun e w' h => ⟨h.1, by rw [← h.2]; exact Below.refl _ _⟩
set_option maxRecDepth 100000 in
set_option maxHeartbeats 1600000 in
theorem FnExactObliviousExpand_any (A0 : Option Addr) (z0 : List Int) (c0 : Nat) (A1 : Option Addr) (z1 : List Int) (c1 : Nat) (n : Int) (w : World) (hx0 : Reads w w.heap.size 1 A0 z0.length (ints z0)) (hm0 : z0.length ≤ maxLen) (hx1 : Reads w w.heap.size 1 A1 z1.length (ints z1)) (hm1 : z1.length ≤ maxLen) (hw : -9223372036854775808 ≤ n ∧ n ≤ 9223372036854775807) :
    Calls Try.prog 9 #[.slice A0 z0.length c0, .slice A1 z1.length c1, .int .i64 n] w fun e w' => e = .returned (.bool true) ∧ Below w.heap.size w w' := by
  have e1 : ∀ x : Int, (x != x) = false := by simp
  have e2 : ∀ x : Bool, (x != x) = false := by simp
  unfold maxLen at hm0
  by_cases hl0 : z0.length ≤ 1048576
  case neg =>
    have hl0' : (1048576 : Int) < z0.length := by omega
    go_enter Try.func9, Try.ntmps9
    go_wp2_with fail
    go_ret
    exact ⟨rfl, by go_grown⟩
  have hl0' : ¬ (1048576 : Int) < z0.length := by omega
  unfold maxLen at hm1
  by_cases hl1 : z1.length ≤ 1048576
  case neg =>
    have hl1' : (1048576 : Int) < z1.length := by omega
    go_enter Try.func9, Try.ntmps9
    go_wp2_with fail
    go_ret
    exact ⟨rfl, by go_grown⟩
  have hl1' : ¬ (1048576 : Int) < z1.length := by omega
  obtain ⟨hlenA, hlenB⟩ := oe_len z0 z1 n
  go_enter Try.func9, Try.ntmps9
  go_wp2_with fail
  refine (toIntS_any A0 z0 c0 _ (by exact hx0) (by omega)).mono ?_
  rintro e w1 ⟨gt0, rfl, ot0, b1⟩
  have ot0B := own_base (base' := w.heap.size) ot0 (by first | exact Nat.le_refl _ | (simp only [World.size_alloc]; omega))
  go_wp2_with fail
  refine (toIntS_any A1 z1 c1 _ (by exact (Reads.more (Reads.below hx1 b1) (Below.size b1))) (by omega)).mono ?_
  rintro e w2 ⟨gt1, rfl, ot1, b2⟩
  have c2_w := bthen b1 b2
  have ot1B := own_base (base' := w1.heap.size) ot1 (by first | exact Nat.le_refl _ | (simp only [World.size_alloc]; omega))
  go_wp2_with fail
  refine (sObliviousExpand_any (some ⟨gt0, 0, none⟩) z0 z0.length (some ⟨gt1, 0, none⟩) z1 z1.length n _ (by exact (Reads.of_own (own_below ot0B b2 (Nat.le_refl _)))) (by omega) (by exact (Reads.of_own ot1B)) (by omega) hw).mono ?_
  rintro e w3 ⟨AW0, CW0, AW1, CW1, rfl, oW0, oW1, b3⟩
  have c3_w := bthen c2_w b3
  have c3_w1 := bthen b2 b3
  have oW0B := own_base (base' := w2.heap.size) oW0 (by first | exact Nat.le_refl _ | (simp only [World.size_alloc]; omega))
  have oW1B := own_base (base' := w2.heap.size) oW1 (by first | exact Nat.le_refl _ | (simp only [World.size_alloc]; omega))
  go_wp2_with fail
  refine (toIntS_any A0 z0 c0 _ (by exact (Reads.more (Reads.below hx0 c3_w) (Below.size c3_w))) (by omega)).mono ?_
  rintro e w4 ⟨gx0, rfl, ox0, b4⟩
  have c4_w := bthen c3_w b4
  have ox0B := own_base (base' := w3.heap.size) ox0 (by first | exact Nat.le_refl _ | (simp only [World.size_alloc]; omega))
  go_wp2_with fail
  refine (toIntS_any A1 z1 c1 _ (by exact (Reads.more (Reads.below hx1 c4_w) (Below.size c4_w))) (by omega)).mono ?_
  rintro e w5 ⟨gx1, rfl, ox1, b5⟩
  have c5_w := bthen c4_w b5
  have c5_w3 := bthen b4 b5
  have ox1B := own_base (base' := w4.heap.size) ox1 (by first | exact Nat.le_refl _ | (simp only [World.size_alloc]; omega))
  go_wp2_with fail
  refine (ObliviousExpand_any (some ⟨gx0, 0, none⟩) z0 z0.length (some ⟨gx1, 0, none⟩) z1 z1.length n _ (by exact (Reads.of_own (own_below ox0B b5 (Nat.le_refl _)))) (by omega) (by exact (Reads.of_own ox1B)) (by omega) hw).mono ?_
  rintro e w6 ⟨AG0, CG0, AG1, CG1, rfl, oG0, oG1, b6⟩
  have c6_w := bthen c5_w b6
  have c6_w3 := bthen c5_w3 b6
  have c6_w4 := bthen b5 b6
  have oG0B := own_base (base' := w5.heap.size) oG0 (by first | exact Nat.le_refl _ | (simp only [World.size_alloc]; omega))
  have oG1B := own_base (base' := w5.heap.size) oG1 (by first | exact Nat.le_refl _ | (simp only [World.size_alloc]; omega))
  go_wp2_with fail
  refine (eqIntS_b AG0 AW0 (oeV z0 z1 n) (oeV z0 z1 n) CG0 CW0 _ (by exact (Reads.of_own oG0B)) (by exact (Reads.of_own (own_below oW0B c6_w3 (Nat.le_refl _)))) (by omega) (by omega)).mono ?_
  rintro e w7 ⟨rfl, b7⟩
  have c7_w := bthen c6_w b7
  have c7_w3 := bthen c6_w3 b7
  have c7_w4 := bthen c6_w4 b7
  have c7_w5 := bthen b6 b7
  go_wp2_with fail
  refine (eqComparatorS_any AG1 AW1 (oeT z0 z1 n) (oeT z0 z1 n) CG1 CW1 _ (by exact (Reads.of_own (own_below oG1B b7 (Nat.le_refl _)))) (by exact (Reads.of_own (own_below oW1B c7_w3 (Nat.le_refl _)))) (by omega) (by omega)).mono ?_
  rintro e w8 ⟨rfl, b8⟩
  have c8_w := bthen c7_w b8
  have c8_w3 := bthen c7_w3 b8
  have c8_w4 := bthen c7_w4 b8
  have c8_w5 := bthen c7_w5 b8
  have c8_w6 := bthen b7 b8
  go_wp2_with fail
  refine (toIntS_any A0 z0 c0 _ (by exact (Reads.more (Reads.below hx0 c8_w) (Below.size c8_w))) (by omega)).mono ?_
  rintro e w9 ⟨gt8, rfl, ot8, b9⟩
  have c9_w := bthen c8_w b9
  have c9_w3 := bthen c8_w3 b9
  have c9_w4 := bthen c8_w4 b9
  have c9_w5 := bthen c8_w5 b9
  have c9_w6 := bthen c8_w6 b9
  have ot8B := own_base (base' := w8.heap.size) ot8 (by first | exact Nat.le_refl _ | (simp only [World.size_alloc]; omega))
  go_wp2_with fail
  refine (eqIntS_b (some ⟨gx0, 0, none⟩) (some ⟨gt8, 0, none⟩) z0 z0 z0.length z0.length _ (by exact (Reads.of_own (own_below ox0B c9_w4 (Nat.le_refl _)))) (by exact (Reads.of_own ot8B)) (by omega) (by omega)).mono ?_
  rintro e w10 ⟨rfl, b10⟩
  have c10_w := bthen c9_w b10
  have c10_w3 := bthen c9_w3 b10
  have c10_w4 := bthen c9_w4 b10
  have c10_w5 := bthen c9_w5 b10
  have c10_w6 := bthen c9_w6 b10
  go_wp2_with fail
  refine (toIntS_any A1 z1 c1 _ (by exact (Reads.more (Reads.below hx1 c10_w) (Below.size c10_w))) (by omega)).mono ?_
  rintro e w11 ⟨gt10, rfl, ot10, b11⟩
  have c11_w := bthen c10_w b11
  have c11_w3 := bthen c10_w3 b11
  have c11_w4 := bthen c10_w4 b11
  have c11_w5 := bthen c10_w5 b11
  have c11_w6 := bthen c10_w6 b11
  have ot10B := own_base (base' := w10.heap.size) ot10 (by first | exact Nat.le_refl _ | (simp only [World.size_alloc]; omega))
  go_wp2_with fail
  refine (eqIntS_b (some ⟨gx1, 0, none⟩) (some ⟨gt10, 0, none⟩) z1 z1 z1.length z1.length _ (by exact (Reads.of_own (own_below ox1B c11_w5 (Nat.le_refl _)))) (by exact (Reads.of_own ot10B)) (by omega) (by omega)).mono ?_
  rintro e w12 ⟨rfl, b12⟩
  have c12_w := bthen c11_w b12
  have c12_w3 := bthen c11_w3 b12
  have c12_w4 := bthen c11_w4 b12
  have c12_w5 := bthen c11_w5 b12
  have c12_w6 := bthen c11_w6 b12
  go_wp2_with fail
  refine (markIntS_b w3.heap.size (some ⟨gx0, 0, none⟩) z0 z0.length 1 _ (by omega) (by omega) (by omega) (by exact (own_below ox0B c12_w4 (Nat.le_refl _)))).mono ?_
  rintro e w13 ⟨rfl, o13, g13⟩
  have o13_W0 := World.ownsRow.kept (own_below oW0B c12_w3 (Nat.le_refl _)) g13 (own_ne_new oW0B ox0B (Nat.le_refl _))
  have o13_W1 := World.ownsRow.kept (own_below oW1B c12_w3 (Nat.le_refl _)) g13 (own_ne_type (own_below oW1B c12_w3 (Nat.le_refl _)) (own_below ox0B c12_w4 (Nat.le_refl _)) (by decide))
  have o13_x1 := World.ownsRow.kept (own_below ox1B c12_w5 (Nat.le_refl _)) g13 (own_ne_old ox0B ox1B (Nat.le_refl _))
  have o13_G0 := World.ownsRow.kept (own_below oG0B c12_w6 (Nat.le_refl _)) g13 (own_ne_old ox0B oG0B (Below.size b5))
  have o13_G1 := World.ownsRow.kept (own_below oG1B c12_w6 (Nat.le_refl _)) g13 (own_ne_type (own_below oG1B c12_w6 (Nat.le_refl _)) (own_below ox0B c12_w4 (Nat.le_refl _)) (by decide))
  have c13_w := Below.trans c12_w (below_of_grown g13 (Below.size c12_w) (fun k hk => Nat.le_trans (Below.size c3_w) (own_lt ox0B k hk).1))
  go_wp2_with fail
  refine (markIntS_b w4.heap.size (some ⟨gx1, 0, none⟩) z1 z1.length (1 + z0.length) _ (by omega) (by omega) (by omega) (by exact o13_x1)).mono ?_
  rintro e w14 ⟨rfl, o14, g14⟩
  have o14_W0 := World.ownsRow.kept o13_W0 g14 (own_ne_new oW0B ox1B (Below.size b4))
  have o14_W1 := World.ownsRow.kept o13_W1 g14 (own_ne_type o13_W1 o13_x1 (by decide))
  have o14_x0 := World.ownsRow.kept o13 g14 (own_ne_new ox0B ox1B (Nat.le_refl _))
  have o14_G0 := World.ownsRow.kept o13_G0 g14 (own_ne_old ox1B oG0B (Nat.le_refl _))
  have o14_G1 := World.ownsRow.kept o13_G1 g14 (own_ne_type o13_G1 o13_x1 (by decide))
  have c14_w := Below.trans c13_w (below_of_grown g14 (Below.size c13_w) (fun k hk => Nat.le_trans (Below.size c4_w) (own_lt ox1B k hk).1))
  have hk0 : ¬ (((1 + z0.length) + z1.length) : Int) < 0 := by omega
  go_wp2_with fail
  refine (eqIntS_b AG0 AW0 (oeV z0 z1 n) (oeV z0 z1 n) CG0 CW0 _ (by exact (Reads.of_own o14_G0)) (by exact (Reads.of_own o14_W0)) (by omega) (by omega)).mono ?_
  rintro e w15 ⟨rfl, b15⟩
  have c15_w := bthen c14_w b15
  go_wp2_with fail
  refine (eqComparatorS_any AG1 AW1 (oeT z0 z1 n) (oeT z0 z1 n) CG1 CW1 _ (by exact (Reads.of_own (own_below o14_G1 b15 (Nat.le_refl _)))) (by exact (Reads.of_own (own_below o14_W1 b15 (Nat.le_refl _)))) (by omega) (by omega)).mono ?_
  rintro e w16 ⟨rfl, b16⟩
  have c16_w := bthen c15_w b16
  have c16_w14 := bthen b15 b16
  go_wp2_with fail
  refine (markIntS_b w5.heap.size AG0 (oeV z0 z1 n) CG0 1 _ (by omega) (by omega) (by omega) (by exact (own_below o14_G0 c16_w14 (Nat.le_refl _)))).mono ?_
  rintro e w17 ⟨rfl, o17, g17⟩
  have o17_W0 := World.ownsRow.kept (own_below o14_W0 c16_w14 (Nat.le_refl _)) g17 (own_ne_new oW0B oG0B (Below.size c5_w3))
  have o17_W1 := World.ownsRow.kept (own_below o14_W1 c16_w14 (Nat.le_refl _)) g17 (own_ne_type (own_below o14_W1 c16_w14 (Nat.le_refl _)) (own_below o14_G0 c16_w14 (Nat.le_refl _)) (by decide))
  have o17_G1 := World.ownsRow.kept (own_below o14_G1 c16_w14 (Nat.le_refl _)) g17 (own_ne_type (own_below o14_G1 c16_w14 (Nat.le_refl _)) (own_below o14_G0 c16_w14 (Nat.le_refl _)) (by decide))
  have c17_w := Below.trans c16_w (below_of_grown g17 (Below.size c16_w) (fun k hk => Nat.le_trans (Below.size c5_w) (own_lt oG0B k hk).1))
  have hq0 : ¬ ((1 + (oeV z0 z1 n).length) : Int) < 0 := by omega
  go_wp2_with fail
  refine (markComparatorS_any w5.heap.size AG1 (oeT z0 z1 n) CG1 (1 + (oeV z0 z1 n).length) _ (by omega) (by omega) (by omega) (by exact o17_G1)).mono ?_
  rintro e w18 ⟨rfl, o18, g18⟩
  have o18_W0 := World.ownsRow.kept o17_W0 g18 (own_ne_type o17_W0 o17_G1 (by decide))
  have o18_W1 := World.ownsRow.kept o17_W1 g18 (own_ne_new oW1B oG1B (Below.size c5_w3))
  have o18_G0 := World.ownsRow.kept o17 g18 (own_ne_type o17 o17_G1 (by decide))
  have c18_w := Below.trans c17_w (below_of_grown g18 (Below.size c17_w) (fun k hk => Nat.le_trans (Below.size c5_w) (own_lt oG1B k hk).1))
  have hq1 : ¬ (((1 + (oeV z0 z1 n).length) + 2 * (oeT z0 z1 n).length) : Int) < 0 := by omega
  have hqm : ((((1 + (oeV z0 z1 n).length) + 2 * (oeT z0 z1 n).length) : Int) != ((1 + (oeV z0 z1 n).length) + 2 * (oeT z0 z1 n).length)) = false := by simp
  go_wp2_with fail
  refine (heldIntS_b AG0 (oeV z0 z1 n).length CG0 1 _ (by omega) (by omega) (by omega) (by exact (Reads.of_own o18_G0))).mono ?_
  rintro e w19 ⟨rfl, b19⟩
  have c19_w := bthen c18_w b19
  go_wp2_with fail
  refine (heldComparatorS_b AG1 (oeT z0 z1 n).length CG1 (1 + (oeV z0 z1 n).length) _ (by omega) (by omega) (by omega) (by exact (Reads.of_own (own_below o18 b19 (Nat.le_refl _))))).mono ?_
  rintro e w20 ⟨rfl, b20⟩
  have c20_w := bthen c19_w b20
  have c20_w18 := bthen b19 b20
  go_wp2_with fail
  refine (toIntS_any A0 z0 c0 _ (by exact (Reads.more (Reads.below hx0 c20_w) (Below.size c20_w))) (by omega)).mono ?_
  rintro e w21 ⟨gt20, rfl, ot20, b21⟩
  have c21_w := bthen c20_w b21
  have c21_w18 := bthen c20_w18 b21
  have ot20B := own_base (base' := w20.heap.size) ot20 (by first | exact Nat.le_refl _ | (simp only [World.size_alloc]; omega))
  go_wp2_with fail
  refine (toIntS_any A1 z1 c1 _ (by exact (Reads.more (Reads.below hx1 c21_w) (Below.size c21_w))) (by omega)).mono ?_
  rintro e w22 ⟨gt21, rfl, ot21, b22⟩
  have c22_w := bthen c21_w b22
  have c22_w18 := bthen c21_w18 b22
  have ot21B := own_base (base' := w21.heap.size) ot21 (by first | exact Nat.le_refl _ | (simp only [World.size_alloc]; omega))
  go_wp2_with fail
  refine (ObliviousExpand_any (some ⟨gt20, 0, none⟩) z0 z0.length (some ⟨gt21, 0, none⟩) z1 z1.length n _ (by exact (Reads.of_own (own_below ot20B b22 (Nat.le_refl _)))) (by omega) (by exact (Reads.of_own ot21B)) (by omega) hw).mono ?_
  rintro e w23 ⟨AH0, CH0, AH1, CH1, rfl, oH0, oH1, b23⟩
  have c23_w := bthen c22_w b23
  have c23_w18 := bthen c22_w18 b23
  have c23_w21 := bthen b22 b23
  have oH0B := own_base (base' := w22.heap.size) oH0 (by first | exact Nat.le_refl _ | (simp only [World.size_alloc]; omega))
  have oH1B := own_base (base' := w22.heap.size) oH1 (by first | exact Nat.le_refl _ | (simp only [World.size_alloc]; omega))
  go_wp2_with fail
  refine (eqIntS_b AH0 AW0 (oeV z0 z1 n) (oeV z0 z1 n) CH0 CW0 _ (by exact (Reads.of_own oH0B)) (by exact (Reads.of_own (own_below o18_W0 c23_w18 (Nat.le_refl _)))) (by omega) (by omega)).mono ?_
  rintro e w24 ⟨rfl, b24⟩
  have c24_w := bthen c23_w b24
  have c24_w18 := bthen c23_w18 b24
  go_wp2_with fail
  refine (eqComparatorS_any AH1 AW1 (oeT z0 z1 n) (oeT z0 z1 n) CH1 CW1 _ (by exact (Reads.of_own (own_below oH1B b24 (Nat.le_refl _)))) (by exact (Reads.of_own (own_below o18_W1 c24_w18 (Nat.le_refl _)))) (by omega) (by omega)).mono ?_
  rintro e w25 ⟨rfl, b25⟩
  have c25_w := bthen c24_w b25
  have c25_w18 := bthen c24_w18 b25
  have c25_w23 := bthen b24 b25
  go_wp2_with fail
  refine (heldIntS_b AG0 (oeV z0 z1 n).length CG0 1 _ (by omega) (by omega) (by omega) (by exact (Reads.of_own (own_below o18_G0 c25_w18 (Nat.le_refl _))))).mono ?_
  rintro e w26 ⟨rfl, b26⟩
  have c26_w := bthen c25_w b26
  have c26_w18 := bthen c25_w18 b26
  have c26_w23 := bthen c25_w23 b26
  go_wp2_with fail
  refine (heldComparatorS_b AG1 (oeT z0 z1 n).length CG1 (1 + (oeV z0 z1 n).length) _ (by omega) (by omega) (by omega) (by exact (Reads.of_own (own_below o18 c26_w18 (Nat.le_refl _))))).mono ?_
  rintro e w27 ⟨rfl, b27⟩
  have c27_w := bthen c26_w b27
  have c27_w18 := bthen c26_w18 b27
  have c27_w23 := bthen c26_w23 b27
  go_wp2_with fail
  go_ret
  exact ⟨rfl, c27_w⟩
end Go.Proofs.Ytfebnlojicpaaaa
