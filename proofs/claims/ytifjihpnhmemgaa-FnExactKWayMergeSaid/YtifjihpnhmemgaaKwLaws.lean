/- Walks of exact laws, printed by lawgen.py. -/
import Derived.Test.YtifjihpnhmemgaaKwT
import Derived.Test.YtifjihpnhmemgaaNestLQ
import Derived.Test.YtifjihpnhmemgaaArgQQ
namespace Go.Proofs.Ytifjihpnhmemgaa
open Go.RowKit
set_option linter.unusedVariables false
theorem kwF_len (L : List Recs) : ∀ (f : Nat) (nx : List Nat) (out : Recs) (cnt : Nat), (kwF L f nx out cnt).1.length ≤ out.length + f := by
  intro f
  induction f with
  | zero => intro nx out cnt; simp [kwF]
  | succ f ih =>
    intro nx out cnt
    rw [kwF]
    split
    · simp
    · refine Nat.le_trans (ih _ _ _) ?_
      simp; omega
theorem km_len (L : List Recs) : (kmO L).length ≤ 65 := by
  unfold kmO
  split
  · have := kwF_len L 65 (List.replicate L.length 0) [] (L.length - 1)
    simpa [kwR] using this
  · simp
set_option maxRecDepth 100000 in
set_option maxHeartbeats 1600000 in
theorem FnExactKWayMerge_any (A0 : Option Addr) (z0 : List (List (Int × Int))) (c0 : Nat) (w : World) (hx0 : ReadsQQ w w.heap.size A0 z0) (hm0 : z0.length ≤ maxLen) (hn0 : ∀ zs ∈ z0, zs.length ≤ maxLen) :
    Calls Try.prog 3 #[.slice A0 z0.length c0] w fun e w' => e = .returned (.bool true) ∧ Below w.heap.size w w' := by
  have e1 : ∀ x : Int, (x != x) = false := by simp
  have e2 : ∀ x : Bool, (x != x) = false := by simp
  rcases szw_cases (z0.length + (z0.map List.length).sum) 1048576 (by omega) (by omega) with hz0 | ⟨hl0, hze0, hzp0⟩
  case inl =>
    go_enter Try.func3, Try.ntmps3
    go_wp2_with fail
    refine (szRecordSS_c A0 z0 c0 1048576 _ (by exact hx0) hm0 hn0 (by omega) (by omega)).mono ?_
    rintro e w1 ⟨rfl, b1⟩
    go_wp2_with fail
    go_ret
    exact ⟨rfl, b1⟩
  have hzn0 : ¬ (szw (z0.length + (z0.map List.length).sum) 1048576) < 0 := by omega
  have HZ0 := Lib.hid hze0; clear hze0
  have hzu0 : (szw (z0.length + (z0.map List.length).sum) 1048576) ≤ 1048576 := by have := HZ0.out; omega
  have hlenA := km_len z0
  have htot : totR z0 ≤ (z0.map List.length).sum := Nat.le_refl _
  go_enter Try.func3, Try.ntmps3
  go_wp2_with fail
  refine (szRecordSS_c A0 z0 c0 1048576 _ (by exact hx0) hm0 hn0 (by omega) (by omega)).mono ?_
  rintro e w2 ⟨rfl, b2⟩
  go_wp2_with fail
  refine (toRecordSS_c A0 z0 c0 _ (by exact (ReadsQQ.more (ReadsQQ.below hx0 b2) (Below.size b2))) (by omega)).mono ?_
  rintro e w3 ⟨gt2, rfl, ot2, b3⟩
  have c3_w := bthen b2 b3
  have ot2B := OwnsQC.born (base' := w2.heap.size) ot2 (by first | exact Nat.le_refl _ | (simp only [World.size_alloc]; omega))
  go_wp2_with fail
  refine (sKWayMerge_any (some ⟨gt2, 0, none⟩) z0 z0.length _ (by exact (ReadsQQ.of_qc ot2B)) (by omega)).mono ?_
  rintro e w4 ⟨AW0, CW0, rfl, oW0, b4⟩
  have c4_w := bthen c3_w b4
  have oW0B := own_base (base' := w3.heap.size) oW0 (by first | exact Nat.le_refl _ | (simp only [World.size_alloc]; omega))
  go_wp2_with fail
  refine (toRecordSS_c A0 z0 c0 _ (by exact (ReadsQQ.more (ReadsQQ.below hx0 c4_w) (Below.size c4_w))) (by omega)).mono ?_
  rintro e w5 ⟨gx0, rfl, ox0, b5⟩
  have c5_w := bthen c4_w b5
  have ox0B := OwnsQC.born (base' := w4.heap.size) ox0 (by first | exact Nat.le_refl _ | (simp only [World.size_alloc]; omega))
  go_wp2_with fail
  refine (KWayMerge_any (some ⟨gx0, 0, none⟩) z0 z0.length _ (by exact (ReadsQQ.of_qc ox0B)) (by omega)).mono ?_
  rintro e w6 ⟨AG0, CG0, rfl, oG0, b6⟩
  have c6_w := bthen c5_w b6
  have c6_w4 := bthen b5 b6
  have oG0B := own_base (base' := w5.heap.size) oG0 (by first | exact Nat.le_refl _ | (simp only [World.size_alloc]; omega))
  go_wp2_with fail
  refine (eqRecordS_any AG0 AW0 (kmO z0) (kmO z0) CG0 CW0 _ (by exact (Reads.of_own oG0B)) (by exact (Reads.of_own (own_below oW0B c6_w4 (Nat.le_refl _)))) (by omega) (by omega)).mono ?_
  rintro e w7 ⟨rfl, b7⟩
  have c7_w := bthen c6_w b7
  have c7_w4 := bthen c6_w4 b7
  have c7_w5 := bthen b6 b7
  go_wp2_with fail
  refine (toRecordSS_c A0 z0 c0 _ (by exact (ReadsQQ.more (ReadsQQ.below hx0 c7_w) (Below.size c7_w))) (by omega)).mono ?_
  rintro e w8 ⟨gt7, rfl, ot7, b8⟩
  have c8_w := bthen c7_w b8
  have c8_w4 := bthen c7_w4 b8
  have c8_w5 := bthen c7_w5 b8
  have c8_w6 := bthen b7 b8
  have ot7B := OwnsQC.born (base' := w7.heap.size) ot7 (by first | exact Nat.le_refl _ | (simp only [World.size_alloc]; omega))
  go_wp2_with fail
  refine (eqRecordSS_b (some ⟨gx0, 0, none⟩) (some ⟨gt7, 0, none⟩) z0 z0 z0.length z0.length _ (by exact (ReadsQQ.of_qc (OwnsQC.below ox0B c8_w5 (Nat.le_refl _)))) (by exact (ReadsQQ.of_qc ot7B)) (by omega) (by omega) (by omega) (by omega)).mono ?_
  rintro e w9 ⟨rfl, b9⟩
  have c9_w := bthen c8_w b9
  have c9_w4 := bthen c8_w4 b9
  have c9_w5 := bthen c8_w5 b9
  have c9_w6 := bthen c8_w6 b9
  go_wp2_with fail
  refine (markRecordSS_c w4.heap.size w5.heap.size (some ⟨gx0, 0, none⟩) z0 z0.length 1 _ (by omega) (by omega) (by omega) (by omega) (by exact (OwnsQC.below ox0B c9_w5 (Nat.le_refl _)))).mono ?_
  rintro e w10 ⟨rfl, o10, g10⟩
  have o10_W0 := Mid.own_old oW0B (own_below oW0B c9_w4 (Nat.le_refl _)) g10 (Nat.le_refl _)
  have o10_G0 := Mid.own_new (own_below oG0B c9_w6 (Nat.le_refl _)) g10 (Nat.le_refl _)
  have c10_w := Below.trans c9_w (Mid.below' g10 (by first | exact (Below.size c4_w) | (have := (Below.size c4_w); omega)) (Below.size c9_w))
  have hk0 : ¬ ((1 + 2 * ((z0.map List.length).sum : Nat)) : Int) < 0 := by omega
  go_wp2_with fail
  refine (eqRecordS_any AG0 AW0 (kmO z0) (kmO z0) CG0 CW0 _ (by exact (Reads.of_own o10_G0)) (by exact (Reads.of_own o10_W0)) (by omega) (by omega)).mono ?_
  rintro e w11 ⟨rfl, b11⟩
  have c11_w := bthen c10_w b11
  go_wp2_with fail
  refine (markRecordS_any w5.heap.size AG0 (kmO z0) CG0 1 _ (by omega) (by omega) (by omega) (by exact (own_below o10_G0 b11 (Nat.le_refl _)))).mono ?_
  rintro e w12 ⟨rfl, o12, g12⟩
  have o12_W0 := World.ownsRow.kept (own_below o10_W0 b11 (Nat.le_refl _)) g12 (own_ne_new oW0B oG0B (Below.size b5))
  have c12_w := Below.trans c11_w (below_of_grown g12 (Below.size c11_w) (fun k hk => Nat.le_trans (Below.size c5_w) (own_lt oG0B k hk).1))
  have hq0 : ¬ ((1 + 2 * (kmO z0).length) : Int) < 0 := by omega
  have hqm : (((1 + 2 * (kmO z0).length) : Int) != (1 + 2 * (kmO z0).length)) = false := by simp
  go_wp2_with fail
  refine (heldRecordS_b AG0 (kmO z0).length CG0 1 _ (by omega) (by omega) (by omega) (by exact (Reads.of_own o12))).mono ?_
  rintro e w13 ⟨rfl, b13⟩
  have c13_w := bthen c12_w b13
  go_wp2_with fail
  refine (toRecordSS_c A0 z0 c0 _ (by exact (ReadsQQ.more (ReadsQQ.below hx0 c13_w) (Below.size c13_w))) (by omega)).mono ?_
  rintro e w14 ⟨gt13, rfl, ot13, b14⟩
  have c14_w := bthen c13_w b14
  have c14_w12 := bthen b13 b14
  have ot13B := OwnsQC.born (base' := w13.heap.size) ot13 (by first | exact Nat.le_refl _ | (simp only [World.size_alloc]; omega))
  go_wp2_with fail
  refine (KWayMerge_any (some ⟨gt13, 0, none⟩) z0 z0.length _ (by exact (ReadsQQ.of_qc ot13B)) (by omega)).mono ?_
  rintro e w15 ⟨AH0, CH0, rfl, oH0, b15⟩
  have c15_w := bthen c14_w b15
  have c15_w12 := bthen c14_w12 b15
  have oH0B := own_base (base' := w14.heap.size) oH0 (by first | exact Nat.le_refl _ | (simp only [World.size_alloc]; omega))
  go_wp2_with fail
  refine (eqRecordS_any AH0 AW0 (kmO z0) (kmO z0) CH0 CW0 _ (by exact (Reads.of_own oH0B)) (by exact (Reads.of_own (own_below o12_W0 c15_w12 (Nat.le_refl _)))) (by omega) (by omega)).mono ?_
  rintro e w16 ⟨rfl, b16⟩
  have c16_w := bthen c15_w b16
  have c16_w12 := bthen c15_w12 b16
  go_wp2_with fail
  refine (heldRecordS_b AG0 (kmO z0).length CG0 1 _ (by omega) (by omega) (by omega) (by exact (Reads.of_own (own_below o12 c16_w12 (Nat.le_refl _))))).mono ?_
  rintro e w17 ⟨rfl, b17⟩
  have c17_w := bthen c16_w b17
  have c17_w12 := bthen c16_w12 b17
  have c17_w15 := bthen b16 b17
  go_wp2_with fail
  go_ret
  exact ⟨rfl, c17_w⟩
end Go.Proofs.Ytifjihpnhmemgaa
