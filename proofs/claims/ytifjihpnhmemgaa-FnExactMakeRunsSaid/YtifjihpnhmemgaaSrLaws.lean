/- Walks of exact laws, printed by lawgen.py. -/
import Derived.Test.YtifjihpnhmemgaaSrH
import Derived.Test.YtifjihpnhmemgaaNestLQ
import Derived.Test.YtifjihpnhmemgaaArgQQ
namespace Go.Proofs.Ytifjihpnhmemgaa
open Go.RowKit
set_option linter.unusedVariables false
theorem szRecordS_b (A : Option Addr) (n c : Nat) (left : Int) (w : World) (hn : n ≤ maxLen) (h0 : -1 ≤ left) (h1 : left ≤ 1048576) :
    Calls Try.prog 14 #[.slice A n c, .int .i64 left] w fun e w' => e = .returned (.int .i64 (szv n left)) ∧ Below w.heap.size w w' :=
  (szRecordS_any A n c left w hn h0 h1).mono fun _ _ h => ⟨h.1, h.2 ▸ Below.refl _ _⟩
set_option maxRecDepth 100000 in
set_option maxHeartbeats 1600000 in
theorem FnExactMakeRuns_any (A0 : Option Addr) (z0 : List (Int × Int)) (c0 : Nat) (a1 : Int) (w : World) (hx0 : Reads w w.heap.size 2 A0 z0.length (cmps z0)) (hm0 : z0.length ≤ maxLen) :
    Calls Try.prog 4 #[.slice A0 z0.length c0, .int .i64 a1] w fun e w' => e = .returned (.bool true) ∧ Below w.heap.size w w' := by
  have e1 : ∀ x : Int, (x != x) = false := by simp
  have e2 : ∀ x : Bool, (x != x) = false := by simp
  rcases szv_cases z0.length 1048576 (by omega) (by omega) with hz0 | ⟨hl0, hze0, hzp0⟩
  case inl =>
    go_enter Try.func4, Try.ntmps4
    go_wp2_with fail
    refine (szRecordS_b A0 z0.length c0 1048576 _ hm0 (by omega) (by omega)).mono ?_
    rintro e w1 ⟨rfl, b1⟩
    go_wp2_with fail
    go_ret
    exact ⟨rfl, b1⟩
  have hzn0 : ¬ (szv z0.length 1048576) < 0 := by omega
  have HZ0 := Lib.hid hze0; clear hze0
  have hzu0 : (szv z0.length 1048576) ≤ 1048576 := by have := HZ0.out; omega
  obtain ⟨hlenA, hlenB⟩ := mrv_lens z0 a1
  go_enter Try.func4, Try.ntmps4
  go_wp2_with fail
  refine (szRecordS_b A0 z0.length c0 1048576 _ hm0 (by omega) (by omega)).mono ?_
  rintro e w2 ⟨rfl, b2⟩
  go_wp2_with fail
  refine (toRecordS_any A0 z0 c0 _ (by exact (Reads.more (Reads.below hx0 b2) (Below.size b2))) (by omega)).mono ?_
  rintro e w3 ⟨gt2, rfl, ot2, b3⟩
  have c3_w := bthen b2 b3
  have ot2B := own_base (base' := w2.heap.size) ot2 (by first | exact Nat.le_refl _ | (simp only [World.size_alloc]; omega))
  go_wp2_with fail
  refine (sMakeRuns_any (some ⟨gt2, 0, none⟩) z0 z0.length a1 _ (by exact (Reads.of_own ot2B)) (by omega) (Nat.le_refl _)).mono ?_
  rintro e w4 ⟨AW0, CW0, rfl, oW0, b4⟩
  have c4_w := bthen c3_w b4
  have oW0B := OwnsQC.born (base' := w3.heap.size) oW0 (by first | exact Nat.le_refl _ | (simp only [World.size_alloc]; omega))
  go_wp2_with fail
  refine (toRecordS_any A0 z0 c0 _ (by exact (Reads.more (Reads.below hx0 c4_w) (Below.size c4_w))) (by omega)).mono ?_
  rintro e w5 ⟨gx0, rfl, ox0, b5⟩
  have c5_w := bthen c4_w b5
  have ox0B := own_base (base' := w4.heap.size) ox0 (by first | exact Nat.le_refl _ | (simp only [World.size_alloc]; omega))
  go_wp2_with fail
  refine (MakeRuns_any (some ⟨gx0, 0, none⟩) z0 z0.length a1 _ (by exact (Reads.of_own ox0B)) (by omega) (Nat.le_refl _)).mono ?_
  rintro e w6 ⟨AG0, CG0, rfl, oG0, b6⟩
  have c6_w := bthen c5_w b6
  have c6_w4 := bthen b5 b6
  have oG0B := OwnsQC.born (base' := w5.heap.size) oG0 (by first | exact Nat.le_refl _ | (simp only [World.size_alloc]; omega))
  go_wp2_with fail
  refine (eqRecordSS_b AG0 AW0 (mrvO z0 a1) (mrvO z0 a1) CG0 CW0 _ (by exact (ReadsQQ.of_qc oG0B)) (by exact (ReadsQQ.of_qc (OwnsQC.below oW0B c6_w4 (Nat.le_refl _)))) (by omega) (by omega) (by omega) (by omega)).mono ?_
  rintro e w7 ⟨rfl, b7⟩
  have c7_w := bthen c6_w b7
  have c7_w4 := bthen c6_w4 b7
  have c7_w5 := bthen b6 b7
  go_wp2_with fail
  refine (toRecordS_any A0 z0 c0 _ (by exact (Reads.more (Reads.below hx0 c7_w) (Below.size c7_w))) (by omega)).mono ?_
  rintro e w8 ⟨gt7, rfl, ot7, b8⟩
  have c8_w := bthen c7_w b8
  have c8_w4 := bthen c7_w4 b8
  have c8_w5 := bthen c7_w5 b8
  have c8_w6 := bthen b7 b8
  have ot7B := own_base (base' := w7.heap.size) ot7 (by first | exact Nat.le_refl _ | (simp only [World.size_alloc]; omega))
  go_wp2_with fail
  refine (eqRecordS_any (some ⟨gx0, 0, none⟩) (some ⟨gt7, 0, none⟩) z0 z0 z0.length z0.length _ (by exact (Reads.of_own (own_below ox0B c8_w5 (Nat.le_refl _)))) (by exact (Reads.of_own ot7B)) (by omega) (by omega)).mono ?_
  rintro e w9 ⟨rfl, b9⟩
  have c9_w := bthen c8_w b9
  have c9_w4 := bthen c8_w4 b9
  have c9_w5 := bthen c8_w5 b9
  have c9_w6 := bthen c8_w6 b9
  go_wp2_with fail
  refine (markRecordS_any w4.heap.size (some ⟨gx0, 0, none⟩) z0 z0.length 1 _ (by omega) (by omega) (by omega) (by exact (own_below ox0B c9_w5 (Nat.le_refl _)))).mono ?_
  rintro e w10 ⟨rfl, o10, g10⟩
  have o10_W0 := OwnsQC.kept_new (OwnsQC.below oW0B c9_w4 (Nat.le_refl _)) ox0B g10 (Nat.le_refl _)
  have o10_G0 := OwnsQC.kept_old (OwnsQC.below oG0B c9_w6 (Nat.le_refl _)) ox0B g10 (Nat.le_refl _)
  have c10_w := Below.trans c9_w (below_of_grown g10 (Below.size c9_w) (fun k hk => Nat.le_trans (Below.size c4_w) (own_lt ox0B k hk).1))
  have hk0 : ¬ ((1 + 2 * z0.length) : Int) < 0 := by omega
  go_wp2_with fail
  refine (eqRecordSS_b AG0 AW0 (mrvO z0 a1) (mrvO z0 a1) CG0 CW0 _ (by exact (ReadsQQ.of_qc o10_G0)) (by exact (ReadsQQ.of_qc o10_W0)) (by omega) (by omega) (by omega) (by omega)).mono ?_
  rintro e w11 ⟨rfl, b11⟩
  have c11_w := bthen c10_w b11
  go_wp2_with fail
  refine (markRecordSS_c w5.heap.size w6.heap.size AG0 (mrvO z0 a1) CG0 1 _ (by omega) (by omega) (by omega) (by omega) (by exact (OwnsQC.below o10_G0 b11 (Nat.le_refl _)))).mono ?_
  rintro e w12 ⟨rfl, o12, g12⟩
  have o12_W0 := OwnsQC.mid (OwnsQC.below o10_W0 b11 (Nat.le_refl _)) g12 (.inl (by first | exact (Below.size b5) | (have := (Below.size b5); omega)))
  have c12_w := Below.trans c11_w (Mid.below' g12 (by first | exact (Below.size c5_w) | (have := (Below.size c5_w); omega)) (Below.size c11_w))
  have hq0 : ¬ ((1 + 2 * (((mrvO z0 a1).map List.length).sum : Nat)) : Int) < 0 := by omega
  have hqm : (((1 + 2 * (((mrvO z0 a1).map List.length).sum : Nat)) : Int) != (1 + 2 * (((mrvO z0 a1).map List.length).sum : Nat))) = false := by simp
  go_wp2_with fail
  refine (heldRecordSS_c AG0 (mrvO z0 a1) CG0 1 _ (by omega) (by omega) (by omega) (by omega) (by exact (ReadsQQ.of_qc o12))).mono ?_
  rintro e w13 ⟨rfl, b13⟩
  have c13_w := bthen c12_w b13
  go_wp2_with fail
  refine (toRecordS_any A0 z0 c0 _ (by exact (Reads.more (Reads.below hx0 c13_w) (Below.size c13_w))) (by omega)).mono ?_
  rintro e w14 ⟨gt13, rfl, ot13, b14⟩
  have c14_w := bthen c13_w b14
  have c14_w12 := bthen b13 b14
  have ot13B := own_base (base' := w13.heap.size) ot13 (by first | exact Nat.le_refl _ | (simp only [World.size_alloc]; omega))
  go_wp2_with fail
  refine (MakeRuns_any (some ⟨gt13, 0, none⟩) z0 z0.length a1 _ (by exact (Reads.of_own ot13B)) (by omega) (Nat.le_refl _)).mono ?_
  rintro e w15 ⟨AH0, CH0, rfl, oH0, b15⟩
  have c15_w := bthen c14_w b15
  have c15_w12 := bthen c14_w12 b15
  have oH0B := OwnsQC.born (base' := w14.heap.size) oH0 (by first | exact Nat.le_refl _ | (simp only [World.size_alloc]; omega))
  go_wp2_with fail
  refine (eqRecordSS_b AH0 AW0 (mrvO z0 a1) (mrvO z0 a1) CH0 CW0 _ (by exact (ReadsQQ.of_qc oH0B)) (by exact (ReadsQQ.of_qc (OwnsQC.below o12_W0 c15_w12 (Nat.le_refl _)))) (by omega) (by omega) (by omega) (by omega)).mono ?_
  rintro e w16 ⟨rfl, b16⟩
  have c16_w := bthen c15_w b16
  have c16_w12 := bthen c15_w12 b16
  go_wp2_with fail
  refine (heldRecordSS_c AG0 (mrvO z0 a1) CG0 1 _ (by omega) (by omega) (by omega) (by omega) (by exact (ReadsQQ.of_qc (OwnsQC.below o12 c16_w12 (Nat.le_refl _))))).mono ?_
  rintro e w17 ⟨rfl, b17⟩
  have c17_w := bthen c16_w b17
  have c17_w12 := bthen c16_w12 b17
  have c17_w15 := bthen b16 b17
  go_wp2_with fail
  go_ret
  exact ⟨rfl, c17_w⟩
end Go.Proofs.Ytifjihpnhmemgaa
