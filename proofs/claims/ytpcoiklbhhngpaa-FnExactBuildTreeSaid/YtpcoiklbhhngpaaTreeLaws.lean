/- Walks of exact laws, printed by lawgen.py. -/
import Derived.Test.YtpcoiklbhhngpaaTreeL
namespace Go.Proofs.Ytpcoiklbhhngpaa
open Go.RowKit
set_option linter.unusedVariables false
set_option maxRecDepth 100000 in
set_option maxHeartbeats 1600000 in
theorem FnExactBuildTree_any (A0 : Option Addr) (z0 : List Int) (c0 : Nat) (w : World) (hx0 : Reads w w.heap.size 1 A0 z0.length (ints z0)) (hm0 : z0.length ≤ maxLen) :
    Calls Try.prog 3 #[.slice A0 z0.length c0] w fun e w' => e = .returned (.bool true) ∧ Below w.heap.size w w' := by
  have e1 : ∀ x : Int, (x != x) = false := by simp
  have e2 : ∀ x : Bool, (x != x) = false := by simp
  unfold maxLen at hm0
  by_cases hl0 : z0.length ≤ 1048576
  case neg =>
    have hl0' : (1048576 : Int) < z0.length := by omega
    go_enter Try.func3, Try.ntmps3
    go_wp2_with fail
    go_ret
    exact ⟨rfl, by go_grown⟩
  have hl0' : ¬ (1048576 : Int) < z0.length := by omega
  obtain ⟨hlenA, hlenB, hlenC⟩ := bt_lens z0
  go_enter Try.func3, Try.ntmps3
  go_wp2_with fail
  refine (toIntS_any A0 z0 c0 _ (by exact hx0) (by omega)).mono ?_
  rintro e w1 ⟨gt0, rfl, ot0, b1⟩
  have ot0B := own_base (base' := w.heap.size) ot0 (by first | exact Nat.le_refl _ | (simp only [World.size_alloc]; omega))
  go_wp2_with fail
  refine (sBuildTree_any (some ⟨gt0, 0, none⟩) z0 z0.length _ (by exact (Reads.of_own ot0B)) (by omega)).mono ?_
  rintro e w2 ⟨AKW0, CKW0, ADW0, CDW0, ALW0, CLW0, rfl, oW0, b2⟩
  have c2_w := bthen b1 b2
  have oW0B := TreeRC.rebase (base' := w1.heap.size) oW0 (by first | exact Nat.le_refl _ | (simp only [World.size_alloc]; omega))
  go_wp2_with fail
  refine (toIntS_any A0 z0 c0 _ (by exact (Reads.more (Reads.below hx0 (alloc_ c2_w _)) (Below.size (alloc_ c2_w _)))) (by omega)).mono ?_
  rintro e w3 ⟨gx0, rfl, ox0, b3⟩
  obtain ⟨B3, k3⟩ := step_box b3
  have c3_w := bthen c2_w B3
  have ox0B := own_base (base' := w2.heap.size) ox0 (by first | exact Nat.le_refl _ | (simp only [World.size_alloc]; omega))
  have q4 := (k3).four
  have q4l := (k3).lt
  go_wp2_with fail
  clear q4 q4l
  refine (BuildTree_any (some ⟨gx0, 0, none⟩) z0 z0.length _ (by exact (Reads.of_own ox0B)) (by omega)).mono ?_
  rintro e w5 ⟨AKG0, CKG0, ADG0, CDG0, ALG0, CLG0, rfl, oG0, b5⟩
  have c5_w := bthen c3_w b5
  have c5_w2 := bthen B3 b5
  have oG0B := TreeRC.rebase (base' := w3.heap.size) oG0 (by first | exact Nat.le_refl _ | (simp only [World.size_alloc]; omega))
  have q6 := ((Blk.below_ k3 b5)).four
  have q6l := ((Blk.below_ k3 b5)).lt
  go_wp2_with fail
  clear q6 q6l
  refine (eqLoserTree_any AKG0 AKW0 (btK z0) (btK z0) CKG0 CKW0 ADG0 ADW0 (btD z0) (btD z0) CDG0 CDW0 ALG0 ALW0 (btL z0) (btL z0) CLG0 CLW0 (btW z0) (btW z0) _ (by exact (ReadsT.of_rc (TreeRC.below oG0B (alloc_ (Below.refl _ _) _) (Nat.le_refl _)))) (by exact (ReadsT.of_rc (TreeRC.below oW0B (alloc_ c5_w2 _) (Nat.le_refl _)))) (by omega) (by omega)).mono ?_
  rintro e w7 ⟨rfl, b7⟩
  obtain ⟨B7, k7⟩ := step_box b7
  have c7_w := bthen c5_w B7
  have c7_w2 := bthen c5_w2 B7
  have c7_w3 := bthen b5 B7
  have q8 := ((Blk.below_ k3 c7_w3)).four
  have q8l := ((Blk.below_ k3 c7_w3)).lt
  have q9 := (k7).four
  have q9l := (k7).lt
  go_wp2_with fail
  clear q8 q8l q9 q9l
  refine (toIntS_any A0 z0 c0 _ (by exact (Reads.more (Reads.below hx0 c7_w) (Below.size c7_w))) (by omega)).mono ?_
  rintro e w10 ⟨gt9, rfl, ot9, b10⟩
  have c10_w := bthen c7_w b10
  have c10_w2 := bthen c7_w2 b10
  have c10_w3 := bthen c7_w3 b10
  have c10_w5 := bthen B7 b10
  have ot9B := own_base (base' := w7.heap.size) ot9 (by first | exact Nat.le_refl _ | (simp only [World.size_alloc]; omega))
  have q11 := ((Blk.below_ k3 c10_w3)).four
  have q11l := ((Blk.below_ k3 c10_w3)).lt
  have q12 := ((Blk.below_ k7 b10)).four
  have q12l := ((Blk.below_ k7 b10)).lt
  go_wp2_with fail
  clear q11 q11l q12 q12l
  refine (eqIntS_b (some ⟨gx0, 0, none⟩) (some ⟨gt9, 0, none⟩) z0 z0 z0.length z0.length _ (by exact (Reads.of_own (own_below ox0B c10_w3 (Nat.le_refl _)))) (by exact (Reads.of_own ot9B)) (by omega) (by omega)).mono ?_
  rintro e w13 ⟨rfl, b13⟩
  have c13_w := bthen c10_w b13
  have c13_w2 := bthen c10_w2 b13
  have c13_w3 := bthen c10_w3 b13
  have c13_w5 := bthen c10_w5 b13
  have c13_w7 := bthen b10 b13
  have q14 := ((Blk.below_ k3 c13_w3)).four
  have q14l := ((Blk.below_ k3 c13_w3)).lt
  have q15 := ((Blk.below_ k7 c13_w7)).four
  have q15l := ((Blk.below_ k7 c13_w7)).lt
  go_wp2_with fail
  clear q14 q14l q15 q15l
  refine (markIntS_b w2.heap.size (some ⟨gx0, 0, none⟩) z0 z0.length 1 _ (by omega) (by omega) (by omega) (by exact (own_below ox0B c13_w3 (Nat.le_refl _)))).mono ?_
  rintro e w16 ⟨rfl, o16, g16⟩
  have o16_W0 := TreeRC.kept_new (TreeRC.below oW0B c13_w2 (Nat.le_refl _)) ox0B g16 (Nat.le_refl _)
  have o16_G0 := TreeRC.kept_old (TreeRC.below oG0B c13_w5 (Nat.le_refl _)) ox0B g16 (Nat.le_refl _)
  have k16_W0 := Blk.grown (Blk.below_ k3 c13_w3) g16 (fun e => own_blk_ne (own_below ox0B c13_w3 (Nat.le_refl _)) (Blk.below_ k3 c13_w3) (by decide) e.symm)
  have k16_G0 := Blk.grown (Blk.below_ k7 c13_w7) g16 (fun e => own_blk_ne (own_below ox0B c13_w3 (Nat.le_refl _)) (Blk.below_ k7 c13_w7) (by decide) e.symm)
  have c16_w := Below.trans c13_w (below_of_grown g16 (Below.size c13_w) (fun k hk => Nat.le_trans (Below.size c2_w) (own_lt ox0B k hk).1))
  have hk0 : ¬ ((1 + z0.length) : Int) < 0 := by omega
  have q17 := (k16_W0).four
  have q17l := (k16_W0).lt
  have q18 := (k16_G0).four
  have q18l := (k16_G0).lt
  go_wp2_with fail
  clear q17 q17l q18 q18l
  refine (eqLoserTree_any AKG0 AKW0 (btK z0) (btK z0) CKG0 CKW0 ADG0 ADW0 (btD z0) (btD z0) CDG0 CDW0 ALG0 ALW0 (btL z0) (btL z0) CLG0 CLW0 (btW z0) (btW z0) _ (by exact (ReadsT.of_rc o16_G0)) (by exact (ReadsT.of_rc o16_W0)) (by omega) (by omega)).mono ?_
  rintro e w19 ⟨rfl, b19⟩
  have c19_w := bthen c16_w b19
  have q20 := ((Blk.below_ k16_W0 b19)).four
  have q20l := ((Blk.below_ k16_W0 b19)).lt
  have q21 := ((Blk.below_ k16_G0 b19)).four
  have q21l := ((Blk.below_ k16_G0 b19)).lt
  go_wp2_with fail
  clear q20 q20l q21 q21l
  refine (markLoserTree_b w3.heap.size w5.heap.size AKG0 (btK z0) CKG0 ADG0 (btD z0) CDG0 ALG0 (btL z0) CLG0 (btW z0) 1 _ (by omega) (by omega) (by omega) (by exact (TreeRC.below o16_G0 b19 (Nat.le_refl _)))).mono ?_
  rintro e w22 ⟨rfl, o22, g22⟩
  have o22_W0 := TreeRC.mid (TreeRC.below o16_W0 b19 (Nat.le_refl _)) g22 (.inl (Below.size B3))
  have k22_W0 := Blk.mid (Blk.below_ k16_W0 b19) g22 (.inl k3.lt)
  have k22_G0 := Blk.mid (Blk.below_ k16_G0 b19) g22 (.inr (by have := Below.size (Below.refl w5.heap.size w5); omega))
  have c22_w := Below.trans c19_w (Mid.below' g22 (Below.size c3_w) (Below.size c19_w))
  have hq0 : ¬ ((1 + (((btK z0).length + (btD z0).length + (btL z0).length : Nat))) : Int) < 0 := by omega
  have hqm : (((1 + (((btK z0).length + (btD z0).length + (btL z0).length : Nat))) : Int) != (1 + (((btK z0).length + (btD z0).length + (btL z0).length : Nat)))) = false := by simp
  have q23 := (k22_W0).four
  have q23l := (k22_W0).lt
  have q24 := (k22_G0).four
  have q24l := (k22_G0).lt
  go_wp2_with fail
  clear q23 q23l q24 q24l
  refine (heldLoserTree_b AKG0 (btK z0).length CKG0 ADG0 (btD z0).length CDG0 ALG0 (btL z0).length CLG0 (btW z0) 1 _ (by omega) (by omega) (by omega) (by exact (ReadsT.of_rc o22))).mono ?_
  rintro e w25 ⟨rfl, b25⟩
  have c25_w := bthen c22_w b25
  have q26 := ((Blk.below_ k22_W0 b25)).four
  have q26l := ((Blk.below_ k22_W0 b25)).lt
  have q27 := ((Blk.below_ k22_G0 b25)).four
  have q27l := ((Blk.below_ k22_G0 b25)).lt
  go_wp2_with fail
  clear q26 q26l q27 q27l
  refine (toIntS_any A0 z0 c0 _ (by exact (Reads.more (Reads.below hx0 c25_w) (Below.size c25_w))) (by omega)).mono ?_
  rintro e w28 ⟨gt27, rfl, ot27, b28⟩
  have c28_w := bthen c25_w b28
  have c28_w22 := bthen b25 b28
  have ot27B := own_base (base' := w25.heap.size) ot27 (by first | exact Nat.le_refl _ | (simp only [World.size_alloc]; omega))
  have q29 := ((Blk.below_ k22_W0 c28_w22)).four
  have q29l := ((Blk.below_ k22_W0 c28_w22)).lt
  have q30 := ((Blk.below_ k22_G0 c28_w22)).four
  have q30l := ((Blk.below_ k22_G0 c28_w22)).lt
  go_wp2_with fail
  clear q29 q29l q30 q30l
  refine (BuildTree_any (some ⟨gt27, 0, none⟩) z0 z0.length _ (by exact (Reads.of_own ot27B)) (by omega)).mono ?_
  rintro e w31 ⟨AKH0, CKH0, ADH0, CDH0, ALH0, CLH0, rfl, oH0, b31⟩
  have c31_w := bthen c28_w b31
  have c31_w22 := bthen c28_w22 b31
  have oH0B := TreeRC.rebase (base' := w28.heap.size) oH0 (by first | exact Nat.le_refl _ | (simp only [World.size_alloc]; omega))
  have q32 := ((Blk.below_ k22_W0 c31_w22)).four
  have q32l := ((Blk.below_ k22_W0 c31_w22)).lt
  have q33 := ((Blk.below_ k22_G0 c31_w22)).four
  have q33l := ((Blk.below_ k22_G0 c31_w22)).lt
  go_wp2_with fail
  clear q32 q32l q33 q33l
  refine (eqLoserTree_any AKH0 AKW0 (btK z0) (btK z0) CKH0 CKW0 ADH0 ADW0 (btD z0) (btD z0) CDH0 CDW0 ALH0 ALW0 (btL z0) (btL z0) CLH0 CLW0 (btW z0) (btW z0) _ (by exact (ReadsT.of_rc (TreeRC.below oH0B (alloc_ (Below.refl _ _) _) (Nat.le_refl _)))) (by exact (ReadsT.of_rc (TreeRC.below o22_W0 (alloc_ c31_w22 _) (Nat.le_refl _)))) (by omega) (by omega)).mono ?_
  rintro e w34 ⟨rfl, b34⟩
  obtain ⟨B34, k34⟩ := step_box b34
  have c34_w := bthen c31_w B34
  have c34_w22 := bthen c31_w22 B34
  have q35 := ((Blk.below_ k22_W0 c34_w22)).four
  have q35l := ((Blk.below_ k22_W0 c34_w22)).lt
  have q36 := ((Blk.below_ k22_G0 c34_w22)).four
  have q36l := ((Blk.below_ k22_G0 c34_w22)).lt
  have q37 := (k34).four
  have q37l := (k34).lt
  go_wp2_with fail
  clear q35 q35l q36 q36l q37 q37l
  refine (heldLoserTree_b AKG0 (btK z0).length CKG0 ADG0 (btD z0).length CDG0 ALG0 (btL z0).length CLG0 (btW z0) 1 _ (by omega) (by omega) (by omega) (by exact (ReadsT.of_rc (TreeRC.below o22 c34_w22 (Nat.le_refl _))))).mono ?_
  rintro e w38 ⟨rfl, b38⟩
  have c38_w := bthen c34_w b38
  have c38_w22 := bthen c34_w22 b38
  have c38_w31 := bthen B34 b38
  go_wp2_with fail
  go_ret
  exact ⟨rfl, c38_w⟩
end Go.Proofs.Ytpcoiklbhhngpaa
