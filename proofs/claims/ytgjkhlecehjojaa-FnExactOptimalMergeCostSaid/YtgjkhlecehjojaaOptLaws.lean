/- Walks of exact laws, printed by lawgen.py. -/
import Derived.Test.YtgjkhlecehjojaaOptS
namespace Go.Proofs.Ytgjkhlecehjojaa
open Go.RowKit
set_option linter.unusedVariables false
set_option maxRecDepth 100000 in
set_option maxHeartbeats 1600000 in
theorem FnExactOptimalMergeCost_any (A0 : Option Addr) (z0 : List Int) (c0 : Nat) (w : World) (hx0 : Reads w w.heap.size 1 A0 z0.length (ints z0)) (hm0 : z0.length ≤ maxLen) :
    Calls Try.prog 5 #[.slice A0 z0.length c0] w fun e w' => e = .returned (.bool true) ∧ Below w.heap.size w w' := by
  have e1 : ∀ x : Int, (x != x) = false := by simp
  have e2 : ∀ x : Bool, (x != x) = false := by simp
  unfold maxLen at hm0
  by_cases hl0 : z0.length ≤ 1048576
  case neg =>
    have hl0' : (1048576 : Int) < z0.length := by omega
    go_enter Try.func5, Try.ntmps5
    go_wp2_with fail
    go_ret
    exact ⟨rfl, by go_grown⟩
  have hl0' : ¬ (1048576 : Int) < z0.length := by omega
  go_enter Try.func5, Try.ntmps5
  go_wp2_with fail
  refine (toIntS_any A0 z0 c0 _ (by exact hx0) (by omega)).mono ?_
  rintro e w1 ⟨gt0, rfl, ot0, b1⟩
  have ot0B := own_base (base' := w.heap.size) ot0 (by first | exact Nat.le_refl _ | (simp only [World.size_alloc]; omega))
  go_wp2_with fail
  refine (sOptimalMergeCost_any (some ⟨gt0, 0, none⟩) z0 z0.length _ (by exact (Reads.of_own ot0B)) (by omega)).mono ?_
  rintro e w2 ⟨rfl, b2⟩
  have c2_w := bthen b1 b2
  go_wp2_with fail
  refine (toIntS_any A0 z0 c0 _ (by exact (Reads.more (Reads.below hx0 c2_w) (Below.size c2_w))) (by omega)).mono ?_
  rintro e w3 ⟨gx0, rfl, ox0, b3⟩
  have c3_w := bthen c2_w b3
  have ox0B := own_base (base' := w2.heap.size) ox0 (by first | exact Nat.le_refl _ | (simp only [World.size_alloc]; omega))
  go_wp2_with fail
  refine (OptimalMergeCost_any (some ⟨gx0, 0, none⟩) z0 z0.length _ (by exact (Reads.of_own ox0B)) (by omega)).mono ?_
  rintro e w4 ⟨rfl, b4⟩
  have c4_w := bthen c3_w b4
  go_wp2_with fail
  refine (toIntS_any A0 z0 c0 _ (by exact (Reads.more (Reads.below hx0 c4_w) (Below.size c4_w))) (by omega)).mono ?_
  rintro e w5 ⟨gt4, rfl, ot4, b5⟩
  have c5_w := bthen c4_w b5
  have c5_w3 := bthen b4 b5
  have ot4B := own_base (base' := w4.heap.size) ot4 (by first | exact Nat.le_refl _ | (simp only [World.size_alloc]; omega))
  go_wp2_with fail
  refine (eqIntS_b (some ⟨gx0, 0, none⟩) (some ⟨gt4, 0, none⟩) z0 z0 z0.length z0.length _ (by exact (Reads.of_own (own_below ox0B c5_w3 (Nat.le_refl _)))) (by exact (Reads.of_own ot4B)) (by omega) (by omega)).mono ?_
  rintro e w6 ⟨rfl, b6⟩
  have c6_w := bthen c5_w b6
  have c6_w3 := bthen c5_w3 b6
  go_wp2_with fail
  go_ret
  exact ⟨rfl, c6_w⟩
end Go.Proofs.Ytgjkhlecehjojaa
