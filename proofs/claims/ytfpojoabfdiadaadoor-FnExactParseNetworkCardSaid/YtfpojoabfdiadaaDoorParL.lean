/- The law on reading a network's text: a walk printed by lawgen.py for another law, turned. -/
import Derived.Test.YtfpojoabfdiadaaDoorParQ
namespace Go.Proofs.YtfpojoabfdiadaaDoor
open Go.RowKit
set_option linter.unusedVariables false
set_option maxRecDepth 100000 in
set_option maxHeartbeats 1600000 in
theorem FnExactParseNetwork_any (l : List UInt8) (w : World) (hd : DoorW w) :
    Calls Tryd.prog 4 #[.string (bs l)] w fun e w' => e = .returned (.bool true) ∧ Below w.heap.size w w' := by
  have e1 : ∀ x : Int, (x != x) = false := by simp
  have e2 : ∀ x : Bool, (x != x) = false := by simp
  have hlenA := parZ_len l
  have hsz : (bs l).size = l.length := bs_size l
  have HD := Lib.hid hd
  by_cases hlong : 1048576 < l.length
  · have hlong' : (1048576 : Int) < (bs l).size := by rw [hsz]; omega
    go_enter Tryd.func4, Tryd.ntmps4
    go_wp2_with fail
    go_ret
    exact ⟨rfl, Below.refl _ _⟩
  have hlong' : ¬ (1048576 : Int) < (bs l).size := by rw [hsz]; omega
  have hl : l.length ≤ 1048576 := by omega
  go_enter Tryd.func4, Tryd.ntmps4
  go_wp2_with fail
  refine (sParseNetwork_any l _ hl).mono ?_
  rintro e w1 ⟨AW0, CW0, rfl, oW0, b1⟩
  have oW0B := own_base (base' := w.heap.size) oW0 (by first | exact Nat.le_refl _ | (simp only [World.size_alloc]; omega))
  go_wp2_with fail
  refine (ParseNetwork_any l _ (HD.out.below (alloc_ b1 _) (Nat.le_refl _)) hl).mono ?_
  rintro e w2 ⟨AG0, CG0, rfl, oG0, b2⟩
  obtain ⟨B2, k2⟩ := step_box b2
  have c2_w := bthen b1 B2
  have oG0B := own_base (base' := w1.heap.size) oG0 (by first | exact Nat.le_refl _ | (simp only [World.size_alloc]; omega))
  have q3 := (k2).two
  have q3l := (k2).lt
  go_wp2_with fail
  clear q3 q3l
  refine (eqNetwork_any (parW l) (parW l) AG0 AW0 (parZ l) (parZ l) CG0 CW0 _ (by exact (Reads.of_own (own_below oG0B (alloc_ (Below.refl _ _) _) (Nat.le_refl _)))) (by exact (Reads.of_own (own_below oW0B (alloc_ B2 _) (Nat.le_refl _)))) (by omega) (by omega)).mono ?_
  rintro e w4 ⟨rfl, b4⟩
  obtain ⟨B4, k4⟩ := step_box b4
  have c4_w := bthen c2_w B4
  have c4_w1 := bthen B2 B4
  have q5 := ((Blk.below_ k2 B4)).two
  have q5l := ((Blk.below_ k2 B4)).lt
  have q6 := (k4).two
  have q6l := (k4).lt
  go_wp2_with fail
  clear q5 q5l q6 q6l
  refine (markNetwork_any w1.heap.size (parW l) AG0 (parZ l) CG0 1 _ (by omega) (by omega) (by omega) (by exact (own_below oG0B B4 (Nat.le_refl _)))).mono ?_
  rintro e w7 ⟨rfl, o7, g7⟩
  have o7_W0 := World.ownsRow.kept (own_below oW0B c4_w1 (Nat.le_refl _)) g7 (own_ne_new oW0B oG0B (Nat.le_refl _))
  have k7_W0 := Blk.grown (Blk.below_ k2 B4) g7 (fun e => own_blk_ne (own_below oG0B B4 (Nat.le_refl _)) (Blk.below_ k2 B4) (by decide) e.symm)
  have k7_G0 := Blk.grown k4 g7 (fun e => own_blk_ne (own_below oG0B B4 (Nat.le_refl _)) k4 (by decide) e.symm)
  have c7_w := Below.trans c4_w (below_of_grown g7 (Below.size c4_w) (fun k hk => Nat.le_trans (Below.size b1) (own_lt oG0B k hk).1))
  have hq0 : ¬ ((1 + 2 * (parZ l).length) : Int) < 0 := by omega
  have hqm : (((1 + 2 * (parZ l).length) : Int) != (1 + 2 * (parZ l).length)) = false := by simp
  have q8 := (k7_W0).two
  have q8l := (k7_W0).lt
  have q9 := (k7_G0).two
  have q9l := (k7_G0).lt
  go_wp2_with fail
  clear q8 q8l q9 q9l
  refine (heldNetwork_any (parW l) AG0 (parZ l).length CG0 1 _ (by omega) (by omega) (by omega) (by exact (Reads.of_own o7))).mono ?_
  rintro e w10 ⟨rfl, b10⟩
  have c10_w := bthen c7_w b10
  have q11 := ((Blk.below_ k7_W0 b10)).two
  have q11l := ((Blk.below_ k7_W0 b10)).lt
  have q12 := ((Blk.below_ k7_G0 b10)).two
  have q12l := ((Blk.below_ k7_G0 b10)).lt
  go_wp2_with fail
  clear q11 q11l q12 q12l
  refine (ParseNetwork_any l _ (HD.out.below c10_w (Nat.le_refl _)) hl).mono ?_
  rintro e w13 ⟨AH0, CH0, rfl, oH0, b13⟩
  have c13_w := bthen c10_w b13
  have c13_w7 := bthen b10 b13
  have oH0B := own_base (base' := w10.heap.size) oH0 (by first | exact Nat.le_refl _ | (simp only [World.size_alloc]; omega))
  have q14 := ((Blk.below_ k7_W0 c13_w7)).two
  have q14l := ((Blk.below_ k7_W0 c13_w7)).lt
  have q15 := ((Blk.below_ k7_G0 c13_w7)).two
  have q15l := ((Blk.below_ k7_G0 c13_w7)).lt
  go_wp2_with fail
  clear q14 q14l q15 q15l
  refine (eqNetwork_any (parW l) (parW l) AH0 AW0 (parZ l) (parZ l) CH0 CW0 _ (by exact (Reads.of_own (own_below oH0B (alloc_ (Below.refl _ _) _) (Nat.le_refl _)))) (by exact (Reads.of_own (own_below o7_W0 (alloc_ c13_w7 _) (Nat.le_refl _)))) (by omega) (by omega)).mono ?_
  rintro e w16 ⟨rfl, b16⟩
  obtain ⟨B16, k16⟩ := step_box b16
  have c16_w := bthen c13_w B16
  have c16_w7 := bthen c13_w7 B16
  have q17 := ((Blk.below_ k7_W0 c16_w7)).two
  have q17l := ((Blk.below_ k7_W0 c16_w7)).lt
  have q18 := ((Blk.below_ k7_G0 c16_w7)).two
  have q18l := ((Blk.below_ k7_G0 c16_w7)).lt
  have q19 := (k16).two
  have q19l := (k16).lt
  go_wp2_with fail
  clear q17 q17l q18 q18l q19 q19l
  refine (heldNetwork_any (parW l) AG0 (parZ l).length CG0 1 _ (by omega) (by omega) (by omega) (by exact (Reads.of_own (own_below o7 c16_w7 (Nat.le_refl _))))).mono ?_
  rintro e w20 ⟨rfl, b20⟩
  have c20_w := bthen c16_w b20
  have c20_w7 := bthen c16_w7 b20
  have c20_w13 := bthen B16 b20
  go_wp2_with fail
  go_ret
  exact ⟨rfl, c20_w⟩
end Go.Proofs.YtfpojoabfdiadaaDoor
