/- Walks of exact laws, printed by lawgen.py. -/
import Derived.Test.YtgjkhlecehjojaaOSort
namespace Go.Proofs.Ytgjkhlecehjojaa
open Go.RowKit
set_option linter.unusedVariables false
theorem heldComparatorS_b (A : Option Addr) (n c : Nat) (k0 : Int) (w : World) (hl : n ≤ 1048576) (h0 : 0 ≤ k0) (h1 : k0 ≤ 1099511627776)
    (hx : Reads w w.heap.size 2 A n (cmps (cmarks k0 n))) :
    Calls Try.prog 19 #[.slice A n c, .int .i64 k0] w fun e w' => e = .returned (.int .i64 (k0 + 2 * n)) ∧ Below w.heap.size w w' :=
  (heldComparatorS_any A n c k0 w hl h0 h1 hx).mono fun e w' h => ⟨h.1, by rw [← h.2]; exact Below.refl _ _⟩
set_option maxRecDepth 100000 in
set_option maxHeartbeats 1600000 in
theorem FnExactObliviousSort_any (A0 : Option Addr) (z0 : List Int) (c0 : Nat) (w : World) (hx0 : Reads w w.heap.size 1 A0 z0.length (ints z0)) (hm0 : z0.length ≤ maxLen) :
    Calls Try.prog 4 #[.slice A0 z0.length c0] w fun e w' => e = .returned (.bool true) ∧ Below w.heap.size w w' := by
  have e1 : ∀ x : Int, (x != x) = false := by simp
  have e2 : ∀ x : Bool, (x != x) = false := by simp
  unfold maxLen at hm0
  by_cases hl0 : z0.length ≤ 1048576
  case neg =>
    have hl0' : (1048576 : Int) < z0.length := by omega
    go_enter Try.func4, Try.ntmps4
    go_wp2_with fail
    go_ret
    exact ⟨rfl, by go_grown⟩
  have hl0' : ¬ (1048576 : Int) < z0.length := by omega
  obtain ⟨hlenA, hlenB⟩ := os_len z0
  go_enter Try.func4, Try.ntmps4
  go_wp2_with fail
  refine (toIntS_any A0 z0 c0 _ (by exact hx0) (by omega)).mono ?_
  rintro e w1 ⟨gt0, rfl, ot0, b1⟩
  have ot0B := own_base (base' := w.heap.size) ot0 (by first | exact Nat.le_refl _ | (simp only [World.size_alloc]; omega))
  go_wp2_with fail
  refine (sObliviousSort_any (some ⟨gt0, 0, none⟩) z0 z0.length _ (by exact (Reads.of_own ot0B)) (by omega)).mono ?_
  rintro e w2 ⟨AW0, CW0, AW1, CW1, rfl, oW0, oW1, b2⟩
  have c2_w := bthen b1 b2
  have oW0B := own_base (base' := w1.heap.size) oW0 (by first | exact Nat.le_refl _ | (simp only [World.size_alloc]; omega))
  have oW1B := own_base (base' := w1.heap.size) oW1 (by first | exact Nat.le_refl _ | (simp only [World.size_alloc]; omega))
  go_wp2_with fail
  refine (toIntS_any A0 z0 c0 _ (by exact (Reads.more (Reads.below hx0 c2_w) (Below.size c2_w))) (by omega)).mono ?_
  rintro e w3 ⟨gx0, rfl, ox0, b3⟩
  have c3_w := bthen c2_w b3
  have ox0B := own_base (base' := w2.heap.size) ox0 (by first | exact Nat.le_refl _ | (simp only [World.size_alloc]; omega))
  go_wp2_with fail
  refine (ObliviousSort_any (some ⟨gx0, 0, none⟩) z0 z0.length _ (by exact (Reads.of_own ox0B)) (by omega)).mono ?_
  rintro e w4 ⟨AG0, CG0, AG1, CG1, rfl, oG0, oG1, b4⟩
  have c4_w := bthen c3_w b4
  have c4_w2 := bthen b3 b4
  have oG0B := own_base (base' := w3.heap.size) oG0 (by first | exact Nat.le_refl _ | (simp only [World.size_alloc]; omega))
  have oG1B := own_base (base' := w3.heap.size) oG1 (by first | exact Nat.le_refl _ | (simp only [World.size_alloc]; omega))
  go_wp2_with fail
  refine (eqIntS_b AG0 AW0 (osV z0) (osV z0) CG0 CW0 _ (by exact (Reads.of_own oG0B)) (by exact (Reads.of_own (own_below oW0B c4_w2 (Nat.le_refl _)))) (by omega) (by omega)).mono ?_
  rintro e w5 ⟨rfl, b5⟩
  have c5_w := bthen c4_w b5
  have c5_w2 := bthen c4_w2 b5
  have c5_w3 := bthen b4 b5
  go_wp2_with fail
  refine (eqComparatorS_any AG1 AW1 (osT z0) (osT z0) CG1 CW1 _ (by exact (Reads.of_own (own_below oG1B b5 (Nat.le_refl _)))) (by exact (Reads.of_own (own_below oW1B c5_w2 (Nat.le_refl _)))) (by omega) (by omega)).mono ?_
  rintro e w6 ⟨rfl, b6⟩
  have c6_w := bthen c5_w b6
  have c6_w2 := bthen c5_w2 b6
  have c6_w3 := bthen c5_w3 b6
  have c6_w4 := bthen b5 b6
  go_wp2_with fail
  refine (toIntS_any A0 z0 c0 _ (by exact (Reads.more (Reads.below hx0 c6_w) (Below.size c6_w))) (by omega)).mono ?_
  rintro e w7 ⟨gt6, rfl, ot6, b7⟩
  have c7_w := bthen c6_w b7
  have c7_w2 := bthen c6_w2 b7
  have c7_w3 := bthen c6_w3 b7
  have c7_w4 := bthen c6_w4 b7
  have ot6B := own_base (base' := w6.heap.size) ot6 (by first | exact Nat.le_refl _ | (simp only [World.size_alloc]; omega))
  go_wp2_with fail
  refine (eqIntS_b (some ⟨gx0, 0, none⟩) (some ⟨gt6, 0, none⟩) z0 z0 z0.length z0.length _ (by exact (Reads.of_own (own_below ox0B c7_w3 (Nat.le_refl _)))) (by exact (Reads.of_own ot6B)) (by omega) (by omega)).mono ?_
  rintro e w8 ⟨rfl, b8⟩
  have c8_w := bthen c7_w b8
  have c8_w2 := bthen c7_w2 b8
  have c8_w3 := bthen c7_w3 b8
  have c8_w4 := bthen c7_w4 b8
  go_wp2_with fail
  refine (markIntS_b w2.heap.size (some ⟨gx0, 0, none⟩) z0 z0.length 1 _ (by omega) (by omega) (by omega) (by exact (own_below ox0B c8_w3 (Nat.le_refl _)))).mono ?_
  rintro e w9 ⟨rfl, o9, g9⟩
  have o9_W0 := World.ownsRow.kept (own_below oW0B c8_w2 (Nat.le_refl _)) g9 (own_ne_new oW0B ox0B (Nat.le_refl _))
  have o9_W1 := World.ownsRow.kept (own_below oW1B c8_w2 (Nat.le_refl _)) g9 (own_ne_type (own_below oW1B c8_w2 (Nat.le_refl _)) (own_below ox0B c8_w3 (Nat.le_refl _)) (by decide))
  have o9_G0 := World.ownsRow.kept (own_below oG0B c8_w4 (Nat.le_refl _)) g9 (own_ne_old ox0B oG0B (Nat.le_refl _))
  have o9_G1 := World.ownsRow.kept (own_below oG1B c8_w4 (Nat.le_refl _)) g9 (own_ne_type (own_below oG1B c8_w4 (Nat.le_refl _)) (own_below ox0B c8_w3 (Nat.le_refl _)) (by decide))
  have c9_w := Below.trans c8_w (below_of_grown g9 (Below.size c8_w) (fun k hk => Nat.le_trans (Below.size c2_w) (own_lt ox0B k hk).1))
  have hk0 : ¬ ((1 + z0.length) : Int) < 0 := by omega
  go_wp2_with fail
  refine (eqIntS_b AG0 AW0 (osV z0) (osV z0) CG0 CW0 _ (by exact (Reads.of_own o9_G0)) (by exact (Reads.of_own o9_W0)) (by omega) (by omega)).mono ?_
  rintro e w10 ⟨rfl, b10⟩
  have c10_w := bthen c9_w b10
  go_wp2_with fail
  refine (eqComparatorS_any AG1 AW1 (osT z0) (osT z0) CG1 CW1 _ (by exact (Reads.of_own (own_below o9_G1 b10 (Nat.le_refl _)))) (by exact (Reads.of_own (own_below o9_W1 b10 (Nat.le_refl _)))) (by omega) (by omega)).mono ?_
  rintro e w11 ⟨rfl, b11⟩
  have c11_w := bthen c10_w b11
  have c11_w9 := bthen b10 b11
  go_wp2_with fail
  refine (markIntS_b w3.heap.size AG0 (osV z0) CG0 1 _ (by omega) (by omega) (by omega) (by exact (own_below o9_G0 c11_w9 (Nat.le_refl _)))).mono ?_
  rintro e w12 ⟨rfl, o12, g12⟩
  have o12_W0 := World.ownsRow.kept (own_below o9_W0 c11_w9 (Nat.le_refl _)) g12 (own_ne_new oW0B oG0B (Below.size b3))
  have o12_W1 := World.ownsRow.kept (own_below o9_W1 c11_w9 (Nat.le_refl _)) g12 (own_ne_type (own_below o9_W1 c11_w9 (Nat.le_refl _)) (own_below o9_G0 c11_w9 (Nat.le_refl _)) (by decide))
  have o12_G1 := World.ownsRow.kept (own_below o9_G1 c11_w9 (Nat.le_refl _)) g12 (own_ne_type (own_below o9_G1 c11_w9 (Nat.le_refl _)) (own_below o9_G0 c11_w9 (Nat.le_refl _)) (by decide))
  have c12_w := Below.trans c11_w (below_of_grown g12 (Below.size c11_w) (fun k hk => Nat.le_trans (Below.size c3_w) (own_lt oG0B k hk).1))
  have hq0 : ¬ ((1 + (osV z0).length) : Int) < 0 := by omega
  go_wp2_with fail
  refine (markComparatorS_any w3.heap.size AG1 (osT z0) CG1 (1 + (osV z0).length) _ (by omega) (by omega) (by omega) (by exact o12_G1)).mono ?_
  rintro e w13 ⟨rfl, o13, g13⟩
  have o13_W0 := World.ownsRow.kept o12_W0 g13 (own_ne_type o12_W0 o12_G1 (by decide))
  have o13_W1 := World.ownsRow.kept o12_W1 g13 (own_ne_new oW1B oG1B (Below.size b3))
  have o13_G0 := World.ownsRow.kept o12 g13 (own_ne_type o12 o12_G1 (by decide))
  have c13_w := Below.trans c12_w (below_of_grown g13 (Below.size c12_w) (fun k hk => Nat.le_trans (Below.size c3_w) (own_lt oG1B k hk).1))
  have hq1 : ¬ (((1 + (osV z0).length) + 2 * (osT z0).length) : Int) < 0 := by omega
  have hqm : ((((1 + (osV z0).length) + 2 * (osT z0).length) : Int) != ((1 + (osV z0).length) + 2 * (osT z0).length)) = false := by simp
  go_wp2_with fail
  refine (heldIntS_b AG0 (osV z0).length CG0 1 _ (by omega) (by omega) (by omega) (by exact (Reads.of_own o13_G0))).mono ?_
  rintro e w14 ⟨rfl, b14⟩
  have c14_w := bthen c13_w b14
  go_wp2_with fail
  refine (heldComparatorS_b AG1 (osT z0).length CG1 (1 + (osV z0).length) _ (by omega) (by omega) (by omega) (by exact (Reads.of_own (own_below o13 b14 (Nat.le_refl _))))).mono ?_
  rintro e w15 ⟨rfl, b15⟩
  have c15_w := bthen c14_w b15
  have c15_w13 := bthen b14 b15
  go_wp2_with fail
  refine (toIntS_any A0 z0 c0 _ (by exact (Reads.more (Reads.below hx0 c15_w) (Below.size c15_w))) (by omega)).mono ?_
  rintro e w16 ⟨gt15, rfl, ot15, b16⟩
  have c16_w := bthen c15_w b16
  have c16_w13 := bthen c15_w13 b16
  have ot15B := own_base (base' := w15.heap.size) ot15 (by first | exact Nat.le_refl _ | (simp only [World.size_alloc]; omega))
  go_wp2_with fail
  refine (ObliviousSort_any (some ⟨gt15, 0, none⟩) z0 z0.length _ (by exact (Reads.of_own ot15B)) (by omega)).mono ?_
  rintro e w17 ⟨AH0, CH0, AH1, CH1, rfl, oH0, oH1, b17⟩
  have c17_w := bthen c16_w b17
  have c17_w13 := bthen c16_w13 b17
  have oH0B := own_base (base' := w16.heap.size) oH0 (by first | exact Nat.le_refl _ | (simp only [World.size_alloc]; omega))
  have oH1B := own_base (base' := w16.heap.size) oH1 (by first | exact Nat.le_refl _ | (simp only [World.size_alloc]; omega))
  go_wp2_with fail
  refine (eqIntS_b AH0 AW0 (osV z0) (osV z0) CH0 CW0 _ (by exact (Reads.of_own oH0B)) (by exact (Reads.of_own (own_below o13_W0 c17_w13 (Nat.le_refl _)))) (by omega) (by omega)).mono ?_
  rintro e w18 ⟨rfl, b18⟩
  have c18_w := bthen c17_w b18
  have c18_w13 := bthen c17_w13 b18
  go_wp2_with fail
  refine (eqComparatorS_any AH1 AW1 (osT z0) (osT z0) CH1 CW1 _ (by exact (Reads.of_own (own_below oH1B b18 (Nat.le_refl _)))) (by exact (Reads.of_own (own_below o13_W1 c18_w13 (Nat.le_refl _)))) (by omega) (by omega)).mono ?_
  rintro e w19 ⟨rfl, b19⟩
  have c19_w := bthen c18_w b19
  have c19_w13 := bthen c18_w13 b19
  have c19_w17 := bthen b18 b19
  go_wp2_with fail
  refine (heldIntS_b AG0 (osV z0).length CG0 1 _ (by omega) (by omega) (by omega) (by exact (Reads.of_own (own_below o13_G0 c19_w13 (Nat.le_refl _))))).mono ?_
  rintro e w20 ⟨rfl, b20⟩
  have c20_w := bthen c19_w b20
  have c20_w13 := bthen c19_w13 b20
  have c20_w17 := bthen c19_w17 b20
  go_wp2_with fail
  refine (heldComparatorS_b AG1 (osT z0).length CG1 (1 + (osV z0).length) _ (by omega) (by omega) (by omega) (by exact (Reads.of_own (own_below o13 c20_w13 (Nat.le_refl _))))).mono ?_
  rintro e w21 ⟨rfl, b21⟩
  have c21_w := bthen c20_w b21
  have c21_w13 := bthen c20_w13 b21
  have c21_w17 := bthen c20_w17 b21
  go_wp2_with fail
  go_ret
  exact ⟨rfl, c21_w⟩
end Go.Proofs.Ytgjkhlecehjojaa
