/- The law on a network's text: a walk printed by lawgen.py for another law, turned. -/
import Derived.Test.YtfpojoabfdiadaaDoorTxtF
namespace Go.Proofs.YtfpojoabfdiadaaDoor
open Go.RowKit
set_option linter.unusedVariables false
set_option maxRecDepth 100000 in
set_option maxHeartbeats 1600000 in
theorem FnExactFormatNetwork_any (W0 : Int) (A0 : Option Addr) (z0 : List (Int × Int)) (c0 : Nat) (w : World) (hx0 : Reads w w.heap.size 2 A0 z0.length (cmps z0)) (hm0 : z0.length ≤ maxLen) :
    Calls Tryd.prog 3 #[.agg #[.int .i64 W0, .slice A0 z0.length c0]] w fun e w' => e = .returned (.bool true) ∧ Below w.heap.size w w' := by
  have e1 : ∀ x : Int, (x != x) = false := by simp
  have e2 : ∀ x : Bool, (x != x) = false := by simp
  rcases szv_cases z0.length 1048576 (by omega) (by omega) with hz0 | ⟨hl0, hze0, hzp0⟩
  case inl =>
    go_enter Tryd.func3, Tryd.ntmps3
    go_wp2_with fail
    refine (szNetwork_any W0 A0 z0.length c0 1048576 _ hm0 (by omega) (by omega)).mono ?_
    rintro e w1 ⟨rfl, b1⟩
    obtain ⟨B1, k1⟩ := step_box b1
    go_wp2_with fail
    go_ret
    exact ⟨rfl, B1⟩
  have hzn0 : ¬ (szv z0.length 1048576) < 0 := by omega
  have HZ0 := Lib.hid hze0; clear hze0
  have hzu0 : (szv z0.length 1048576) ≤ 1048576 := by have := HZ0.out; omega
  go_enter Tryd.func3, Tryd.ntmps3
  go_wp2_with fail
  refine (szNetwork_any W0 A0 z0.length c0 1048576 _ hm0 (by omega) (by omega)).mono ?_
  rintro e w2 ⟨rfl, b2⟩
  obtain ⟨B2, k2⟩ := step_box b2
  have q3 := (k2).two
  have q3l := (k2).lt
  go_wp2_with fail
  clear q3 q3l
  refine (toNetwork_any W0 A0 z0 c0 _ (by exact (Reads.more (Reads.below hx0 B2) (Below.size B2))) (by omega)).mono ?_
  rintro e w4 ⟨gt3, rfl, ot3, b4⟩
  have c4_w := bthen B2 b4
  have ot3B := own_base (base' := w2.heap.size) ot3 (by first | exact Nat.le_refl _ | (simp only [World.size_alloc]; omega))
  have q5 := ((Blk.below_ k2 b4)).two
  have q5l := ((Blk.below_ k2 b4)).lt
  go_wp2_with fail
  clear q5 q5l
  refine (sFormatNetwork_any W0 (some ⟨gt3, 0, none⟩) z0 z0.length _ (by exact (Reads.of_own ot3B)) (by omega)).mono ?_
  rintro e w6 ⟨rfl, b6⟩
  have c6_w := bthen c4_w b6
  have c6_w2 := bthen b4 b6
  have q7 := ((Blk.below_ k2 c6_w2)).two
  have q7l := ((Blk.below_ k2 c6_w2)).lt
  go_wp2_with fail
  clear q7 q7l
  refine (toNetwork_any W0 A0 z0 c0 _ (by exact (Reads.more (Reads.below hx0 c6_w) (Below.size c6_w))) (by omega)).mono ?_
  rintro e w8 ⟨gx0, rfl, ox0, b8⟩
  have c8_w := bthen c6_w b8
  have c8_w2 := bthen c6_w2 b8
  have ox0B := own_base (base' := w6.heap.size) ox0 (by first | exact Nat.le_refl _ | (simp only [World.size_alloc]; omega))
  have q9 := ((Blk.below_ k2 c8_w2)).two
  have q9l := ((Blk.below_ k2 c8_w2)).lt
  go_wp2_with fail
  clear q9 q9l
  refine (FormatNetwork_any W0 (some ⟨gx0, 0, none⟩) z0 z0.length _ (by exact (Reads.of_own (own_below ox0B (alloc_ (Below.refl _ _) _) (Nat.le_refl _)))) (by omega)).mono ?_
  rintro e w10 ⟨rfl, b10⟩
  obtain ⟨B10, k10⟩ := step_box b10
  have c10_w := bthen c8_w B10
  have c10_w2 := bthen c8_w2 B10
  have q11 := ((Blk.below_ k2 c10_w2)).two
  have q11l := ((Blk.below_ k2 c10_w2)).lt
  have q12 := (k10).two
  have q12l := (k10).lt
  go_wp2_with fail
  have r13 := (Reads.more (Reads.below hx0 c10_w) (Below.size c10_w))
  go_region_held3 (fun w' => w'.cell? ⟨w8.heap.size, 0, none⟩ = some (.int .i64 W0) ∧ w'.cell? ⟨w8.heap.size, 1, none⟩ = some (.slice (some ⟨gx0, 0, none⟩) z0.length z0.length) ∧ w'.cell? ⟨w.heap.size, 0, none⟩ = some (.int .i64 W0) ∧ w'.cell? ⟨w.heap.size, 1, none⟩ = some (.slice A0 z0.length c0)) (first | go_keep | (go_split_ands; refine ⟨?_, ?_, ?_, ?_⟩ <;> (first | (rw [Below.cell b13B (by simp; omega)]; assumption) | (rw [Below.cell b13A (by simp; omega)]; assumption)))) (first | (go_at_call 8; refine (toNetwork_any W0 A0 z0 c0 _ (by exact r13) (by omega)).mono ?_; rintro e w13A ⟨g13A, rfl, o13A, b13A⟩; have l13A := b13A.size; simp only [World.size_drew] at l13A) | (go_at_call 10; refine (eqNetwork_any W0 W0 (some ⟨gx0, 0, none⟩) (some ⟨g13A, 0, none⟩) z0 z0 z0.length z0.length _ (by exact Reads.of_own (own_below (own_below ox0B B10 (Nat.le_refl _)) (undrew b13A) (Nat.le_refl _))) (by exact Reads.of_own o13A) (by omega) (by omega)).mono ?_; rintro e w13B ⟨rfl, b13B⟩))
  clear q11 q11l q12 q12l
  have b13 := bthen (undrew b13A) b13B
  have c13_w := bthen c10_w b13
  have c13_w2 := bthen c10_w2 b13
  have c13_w8 := bthen B10 b13
  go_wp2_with fail
  go_ret
  exact ⟨rfl, c13_w⟩
end Go.Proofs.YtfpojoabfdiadaaDoor
