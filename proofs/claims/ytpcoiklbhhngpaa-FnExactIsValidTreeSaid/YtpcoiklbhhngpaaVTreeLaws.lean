/- Walks of exact laws, printed by lawgen.py. -/
import Derived.Test.YtpcoiklbhhngpaaTreeVL
namespace Go.Proofs.Ytpcoiklbhhngpaa
open Go.RowKit
set_option linter.unusedVariables false
set_option maxRecDepth 100000 in
set_option maxHeartbeats 1600000 in
theorem FnExactIsValidTree_any (AK0 : Option Addr) (ks0 : List Int) (cK0 : Nat) (AD0 : Option Addr) (ds0 : List Bool) (cD0 : Nat) (AL0 : Option Addr) (ls0 : List Int) (cL0 : Nat) (W0 : Int) (w : World) (hx0 : ReadsT w w.heap.size AK0 ks0.length AD0 ds0.length AL0 ls0.length ks0 ds0 ls0) (hm0 : ks0.length ≤ maxLen ∧ ds0.length ≤ maxLen ∧ ls0.length ≤ maxLen) :
    Calls Try.prog 4 #[.agg #[.slice AK0 ks0.length cK0, .slice AD0 ds0.length cD0, .slice AL0 ls0.length cL0, .int .i64 W0]] w fun e w' => e = .returned (.bool true) ∧ Below w.heap.size w w' := by
  have e1 : ∀ x : Int, (x != x) = false := by simp
  have e2 : ∀ x : Bool, (x != x) = false := by simp
  rcases szw_cases (ks0.length + ds0.length + ls0.length) 1048576 (by omega) (by omega) with hz0 | ⟨hl0, hze0, hzp0⟩
  case inl =>
    go_enter Try.func4, Try.ntmps4
    go_wp2_with fail
    refine (szLoserTree_any AK0 ks0.length cK0 AD0 ds0.length cD0 AL0 ls0.length cL0 W0 1048576 _ hm0.1 hm0.2.1 hm0.2.2 (by omega) (by omega)).mono ?_
    rintro e w1 ⟨rfl, b1⟩
    obtain ⟨B1, k1⟩ := step_box b1
    go_wp2_with fail
    go_ret
    exact ⟨rfl, B1⟩
  have hzn0 : ¬ (szw (ks0.length + ds0.length + ls0.length) 1048576) < 0 := by omega
  have HZ0 := Lib.hid hze0; clear hze0
  have hzu0 : (szw (ks0.length + ds0.length + ls0.length) 1048576) ≤ 1048576 := by have := HZ0.out; omega
  go_enter Try.func4, Try.ntmps4
  go_wp2_with fail
  refine (szLoserTree_any AK0 ks0.length cK0 AD0 ds0.length cD0 AL0 ls0.length cL0 W0 1048576 _ hm0.1 hm0.2.1 hm0.2.2 (by omega) (by omega)).mono ?_
  rintro e w2 ⟨rfl, b2⟩
  obtain ⟨B2, k2⟩ := step_box b2
  have q3 := (k2).four
  have q3l := (k2).lt
  go_wp2_with fail
  clear q3 q3l
  refine (toLoserTree_any AK0 ks0 cK0 AD0 ds0 cD0 AL0 ls0 cL0 W0 _ (by exact (ReadsT.more (ReadsT.below hx0 B2) (Below.size B2))) (by omega)).mono ?_
  rintro e w4 ⟨gt3K, gt3D, gt3L, rfl, ot3, b4⟩
  have c4_w := bthen B2 b4
  have ot3B := TreeRC.rebase (base' := w2.heap.size) ot3 (by first | exact Nat.le_refl _ | (simp only [World.size_alloc]; omega))
  have q5 := ((Blk.below_ k2 b4)).four
  have q5l := ((Blk.below_ k2 b4)).lt
  go_wp2_with fail
  clear q5 q5l
  refine (sIsValidTree_any (some ⟨gt3K, 0, none⟩) ks0 ks0.length (some ⟨gt3D, 0, none⟩) ds0 ds0.length (some ⟨gt3L, 0, none⟩) ls0 ls0.length W0 _ (by exact (ReadsT.of_rc ot3B)) (by omega)).mono ?_
  rintro e w6 ⟨rfl, b6⟩
  have c6_w := bthen c4_w b6
  have c6_w2 := bthen b4 b6
  have q7 := ((Blk.below_ k2 c6_w2)).four
  have q7l := ((Blk.below_ k2 c6_w2)).lt
  go_wp2_with fail
  clear q7 q7l
  refine (toLoserTree_any AK0 ks0 cK0 AD0 ds0 cD0 AL0 ls0 cL0 W0 _ (by exact (ReadsT.more (ReadsT.below hx0 c6_w) (Below.size c6_w))) (by omega)).mono ?_
  rintro e w8 ⟨gx0K, gx0D, gx0L, rfl, ox0, b8⟩
  have c8_w := bthen c6_w b8
  have c8_w2 := bthen c6_w2 b8
  have ox0B := TreeRC.rebase (base' := w6.heap.size) ox0 (by first | exact Nat.le_refl _ | (simp only [World.size_alloc]; omega))
  have q9 := ((Blk.below_ k2 c8_w2)).four
  have q9l := ((Blk.below_ k2 c8_w2)).lt
  go_wp2_with fail
  clear q9 q9l
  refine (IsValidTree_any (some ⟨gx0K, 0, none⟩) ks0 ks0.length (some ⟨gx0D, 0, none⟩) ds0 ds0.length (some ⟨gx0L, 0, none⟩) ls0 ls0.length W0 _ (by exact (ReadsT.of_rc (TreeRC.below ox0B (alloc_ (Below.refl _ _) _) (Nat.le_refl _)))) (by omega)).mono ?_
  rintro e w10 ⟨rfl, b10⟩
  obtain ⟨B10, k10⟩ := step_box b10
  have c10_w := bthen c8_w B10
  have c10_w2 := bthen c8_w2 B10
  have q11 := ((Blk.below_ k2 c10_w2)).four
  have q11l := ((Blk.below_ k2 c10_w2)).lt
  have q12 := (k10).four
  have q12l := (k10).lt
  go_wp2_with fail
  have r13 := (ReadsT.more (ReadsT.below hx0 c10_w) (Below.size c10_w))
  go_region_held3 (fun w' => w'.cell? ⟨w8.heap.size, 0, none⟩ = some (.slice (some ⟨gx0K, 0, none⟩) ks0.length ks0.length) ∧ w'.cell? ⟨w8.heap.size, 1, none⟩ = some (.slice (some ⟨gx0D, 0, none⟩) ds0.length ds0.length) ∧ w'.cell? ⟨w8.heap.size, 2, none⟩ = some (.slice (some ⟨gx0L, 0, none⟩) ls0.length ls0.length) ∧ w'.cell? ⟨w8.heap.size, 3, none⟩ = some (.int .i64 W0) ∧ w'.cell? ⟨w.heap.size, 0, none⟩ = some (.slice AK0 ks0.length cK0) ∧ w'.cell? ⟨w.heap.size, 1, none⟩ = some (.slice AD0 ds0.length cD0) ∧ w'.cell? ⟨w.heap.size, 2, none⟩ = some (.slice AL0 ls0.length cL0) ∧ w'.cell? ⟨w.heap.size, 3, none⟩ = some (.int .i64 W0)) (first | go_keep | (go_split_ands; refine ⟨?_, ?_, ?_, ?_, ?_, ?_, ?_, ?_⟩ <;> (first | (rw [Below.cell b13B (by simp; omega)]; assumption) | (rw [Below.cell b13A (by simp; omega)]; assumption)))) (first | (go_at_call 19; refine (toLoserTree_any AK0 ks0 cK0 AD0 ds0 cD0 AL0 ls0 cL0 W0 _ (by exact r13) (by omega)).mono ?_; rintro e w13A ⟨g13AK, g13AD, g13AL, rfl, o13A, b13A⟩; have l13A := b13A.size; simp only [World.size_drew] at l13A) | (go_at_call 12; refine (eqLoserTree_any (some ⟨gx0K, 0, none⟩) (some ⟨g13AK, 0, none⟩) ks0 ks0 ks0.length ks0.length (some ⟨gx0D, 0, none⟩) (some ⟨g13AD, 0, none⟩) ds0 ds0 ds0.length ds0.length (some ⟨gx0L, 0, none⟩) (some ⟨g13AL, 0, none⟩) ls0 ls0 ls0.length ls0.length W0 W0 _ (by exact ReadsT.of_rc (TreeRC.below (TreeRC.below ox0B B10 (Nat.le_refl _)) (undrew b13A) (Nat.le_refl _))) (by exact ReadsT.of_rc o13A) (by omega) (by omega)).mono ?_; rintro e w13B ⟨rfl, b13B⟩))
  clear q11 q11l q12 q12l
  have b13 := bthen (undrew b13A) b13B
  have c13_w := bthen c10_w b13
  have c13_w2 := bthen c10_w2 b13
  have c13_w8 := bthen B10 b13
  go_wp2_with fail
  go_ret
  exact ⟨rfl, c13_w⟩
end Go.Proofs.Ytpcoiklbhhngpaa
