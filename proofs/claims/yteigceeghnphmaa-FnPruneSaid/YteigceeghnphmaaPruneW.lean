/- PruneNetwork: the program's function. -/
import Derived.Test.YteigceeghnphmaaRedA
import Derived.Test.YteigceeghnphmaaPush
import Derived.Deep.RegionHeld3
namespace Go.Proofs.Yteigceeghnphmaa
open Go.RowKit
set_option linter.unusedVariables false
set_option maxRecDepth 100000 in
set_option maxHeartbeats 3200000 in
theorem PruneNetwork_any (W : Int) (A : Option Addr) (cs : List (Int × Int)) (c : Nat) (w : World) (hx : Reads w w.heap.size 2 A cs.length (cmps cs)) (hl : cs.length ≤ 1099511627776) :
    Calls Try.prog 24 #[.agg #[.int .i64 W, .slice A cs.length c]] w fun e w' => ∃ A c, e = .returned (.tuple #[.agg #[.int .i64 (prW W cs), .slice A (prV W cs).length c], .bool (chkOk W cs)]) ∧
      w'.ownsRow w.heap.size 32 2 (.slice A (prV W cs).length c) (prV W cs).length (cmps (prV W cs)) ∧ Below w.heap.size w w' := by
  have hb0 : Below w.heap.size w ((w.alloc (.cells #[.int .i64 W, .slice A cs.length c] 26)).alloc (.cells #[.int .i64 0, .slice none 0 0] 26)) := by go_grown
  cases hok : chkOk W cs
  · rw [show prV W cs = [] from by simp [prV, hok], show prW W cs = 0 from by simp [prW, hok]]
    go_enter Try.func24, Try.ntmps24
    go_wp2_with fail
    refine (isChecked_any W A cs c _ ((hx.below hb0).more hb0.size) hl).mono ?_
    rintro e w1 ⟨rfl, hb1⟩
    obtain ⟨B1, k1, k2⟩ := step_box2 hb1
    have c0 := k2.two.1
    have c1 := k2.two.2
    have f0 := k2.frozen 0
    have f1 := k2.frozen 1
    have xl := k2.lt
    have Bf := (k2.set_ 0 (.int .i64 0)).set_ 1 (.slice none 0 0)
    obtain ⟨r0, r1⟩ := Bf.two
    have R0 := Lib.hid r0; clear r0
    have R1 := Lib.hid r1; clear r1
    rw [hok]
    go_wp2_with fail
    refine bodyPost_ret (v := .tuple #[.agg #[.int .i64 0, .slice none 0 0], .bool false]) (by simp [results, Try.results24, go_sem, R0.out, R1.out]) rfl ⟨none, 0, rfl, World.ownsRow_nil _ _ _ _, ?_⟩
    exact (B1.setCell (by simp) _).setCell (by simp) _
  · rw [show prV W cs = keptT cs (2 ^ W.toNat) cs.length from by simp [prV, hok], show prW W cs = W from by simp [prW, hok]]
    obtain ⟨n, rfl, hnet, hn12, hcl⟩ := chk_parts hok
    rw [Int.toNat_natCast]
    have HO := Lib.hid hok; clear hok
    obtain ⟨i0, hi, hz0, hz1, hz2⟩ := info_parts info_cmp
    have HN := Lib.hid hnet; clear hnet
    go_enter Try.func24, Try.ntmps24
    go_wp2_with fail
    refine (isChecked_any n A cs c _ ((hx.below hb0).more hb0.size) hl).mono ?_
    rintro e w1 ⟨rfl, hb1⟩
    obtain ⟨B1, k1, k2⟩ := step_box2 hb1
    obtain ⟨x0, x1⟩ := k1.two
    have xl := k2.lt
    rw [HO.out]
    go_upto_region 3 with fail
    go_region_held3 (fun w' => w'.cell? ⟨w.heap.size, 0, none⟩ = some (.int .i64 n) ∧ w'.cell? ⟨w.heap.size, 1, none⟩ = some (.slice A cs.length c)) (first | go_keep | exact (show Blk _ w.heap.size 26 #[.int .i64 n, .slice A cs.length c] from by (repeat' (first | with_reducible exact k1 | with_reducible exact k2 | ((with_reducible refine blk_new_at ?_); (simp; done)) | with_reducible refine Blk.drew ?_ | with_reducible refine Blk.alloc ?_ _ | with_reducible refine Blk.far ?_ (by simp <;> omega) _ | with_reducible refine Blk.below_ ?_ bA))).two)
      ((go_at_call 68; refine (redundant_any n A cs c _ (by exact reads_at hx (by (repeat' (first | with_reducible exact B1 | with_reducible refine bdrew ?_ | with_reducible refine alloc_ ?_ _ | with_reducible refine Below.setCell ?_ (by simp <;> omega) _ | with_reducible refine bthen ?_ bA)))) HN.out hn12).mono ?_; rintro e wA ⟨gO, rfl, oA, bA⟩; have lA := bA.size; simp only [World.size_drew, World.size_alloc] at lA; (try (refine (fun (u0 : Blk wA w1.heap.size 26 #[.int .i64 0, .slice none 0 0]) => ?_) ?_; rotate_left; (repeat' (first | with_reducible exact k1 | with_reducible exact k2 | ((with_reducible refine blk_new_at ?_); (simp; done)) | with_reducible refine Blk.drew ?_ | with_reducible refine Blk.alloc ?_ _ | with_reducible refine Blk.far ?_ (by simp <;> omega) _ | with_reducible refine Blk.below_ ?_ bA)); have v0 := u0.two.1; have v1 := u0.two.2; have f0 := u0.frozen 0; have f1 := u0.frozen 1; have u0' := u0.alloc (.cells #[] 32); have v0' := u0'.two.1; have v1' := u0'.two.2; have f0' := u0'.frozen 0; have f1' := u0'.frozen 1)); (try (refine (fun (u1 : Blk wA (w1.heap.size + 1) 26 #[.int .i64 0, .slice none 0 0]) => ?_) ?_; rotate_left; (repeat' (first | with_reducible exact k1 | with_reducible exact k2 | ((with_reducible refine blk_new_at ?_); (simp; done)) | with_reducible refine Blk.drew ?_ | with_reducible refine Blk.alloc ?_ _ | with_reducible refine Blk.far ?_ (by simp <;> omega) _ | with_reducible refine Blk.below_ ?_ bA)); have v0 := u1.two.1; have v1 := u1.two.2; have f0 := u1.frozen 0; have f1 := u1.frozen 1))))
    have hgO := (own_lt oA gO rfl).1
    simp at hgO
    have hsB := B1.size
    have oA' := own_base (base' := w.heap.size) oA (by simp; omega)
    have P1 : Below w.heap.size w (wA.alloc (Obj.cells #[Value.int IntKind.i64 n, Value.slice (some ⟨w1.heap.size, 0, none⟩) 0 0] 26)) := by (repeat' (first | with_reducible exact B1 | with_reducible refine bdrew ?_ | with_reducible refine alloc_ ?_ _ | with_reducible refine Below.setCell ?_ (by simp <;> omega) _ | with_reducible refine bthen ?_ bA))
    have P2 : Blk (wA.alloc (Obj.cells #[Value.int IntKind.i64 n, Value.slice (some ⟨w1.heap.size, 0, none⟩) 0 0] 26)) w.heap.size 26 #[.int .i64 n, .slice A cs.length c] := by (repeat' (first | with_reducible exact k1 | with_reducible exact k2 | ((with_reducible refine blk_new_at ?_); (simp; done)) | with_reducible refine Blk.drew ?_ | with_reducible refine Blk.alloc ?_ _ | with_reducible refine Blk.far ?_ (by simp <;> omega) _ | with_reducible refine Blk.below_ ?_ bA))
    have P3 : Blk (wA.alloc (Obj.cells #[Value.int IntKind.i64 n, Value.slice (some ⟨w1.heap.size, 0, none⟩) 0 0] 26)) (w.heap.size + 1) 26 #[.int .i64 0, .slice none 0 0] := by (repeat' (first | with_reducible exact k1 | with_reducible exact k2 | ((with_reducible refine blk_new_at ?_); (simp; done)) | with_reducible refine Blk.drew ?_ | with_reducible refine Blk.alloc ?_ _ | with_reducible refine Blk.far ?_ (by simp <;> omega) _ | with_reducible refine Blk.below_ ?_ bA))
    have P4 : Blk (wA.alloc (Obj.cells #[Value.int IntKind.i64 n, Value.slice (some ⟨w1.heap.size, 0, none⟩) 0 0] 26)) (wA.heap.size) 26 #[.int .i64 n, .slice (some ⟨w1.heap.size, 0, none⟩) 0 0] := by (repeat' (first | with_reducible exact k1 | with_reducible exact k2 | ((with_reducible refine blk_new_at ?_); (simp; done)) | with_reducible refine Blk.drew ?_ | with_reducible refine Blk.alloc ?_ _ | with_reducible refine Blk.far ?_ (by simp <;> omega) _ | with_reducible refine Blk.below_ ?_ bA))
    have P5 : World.ownsRow (wA.alloc (Obj.cells #[Value.int IntKind.i64 n, Value.slice (some ⟨w1.heap.size, 0, none⟩) 0 0] 26)) w.heap.size 32 2 (.slice (some ⟨w1.heap.size, 0, none⟩) 0 0) 0 [] := by (repeat' (first | with_reducible exact oA' | ((with_reducible refine made_at (by (try simp) <;> omega) ?_); (simp; done)) | with_reducible refine World.ownsRow.alloc ?_ _ | with_reducible refine own_drew_ ?_ | with_reducible refine own_setCell ?_ (by simp [Value.ownBlock] <;> omega) _ | with_reducible refine own_below ?_ bA (Nat.le_refl _)))
    have P6 : World.ownsRow (wA.alloc (Obj.cells #[Value.int IntKind.i64 n, Value.slice (some ⟨w1.heap.size, 0, none⟩) 0 0] 26)) w.heap.size 4 1 (.slice (some ⟨gO, 0, none⟩) cs.length cs.length) cs.length (bools (rowN cs (2 ^ n) 0)) := by (repeat' (first | with_reducible exact oA' | ((with_reducible refine made_at (by (try simp) <;> omega) ?_); (simp; done)) | with_reducible refine World.ownsRow.alloc ?_ _ | with_reducible refine own_drew_ ?_ | with_reducible refine own_setCell ?_ (by simp [Value.ownBlock] <;> omega) _ | with_reducible refine own_below ?_ bA (Nat.le_refl _)))
    have P7 : w.heap.size + 1 < wA.heap.size := by omega
    have P8 := Lib.hid (show NetAt (wA.alloc (Obj.cells #[Value.int IntKind.i64 n, Value.slice (some ⟨w1.heap.size, 0, none⟩) 0 0] 26)) w.heap.size (wA.heap.size) n [] from ⟨_, P4, P5, by omega⟩)
    clear P4 P5
    generalize wA.alloc (Obj.cells #[Value.int IntKind.i64 n, Value.slice (some ⟨w1.heap.size, 0, none⟩) 0 0] 26) = wz at P1 P2 P3 P6 P8 ⊢
    generalize wA.heap.size = pz at P7 P8 ⊢
    clear oA' oA hgO lA bA
    rotate_left
    have hgO := (own_lt oA gO rfl).1
    simp at hgO
    have hsB := B1.size
    have oA' := own_base (base' := w.heap.size) oA (by simp; omega)
    have P1 : Below w.heap.size w ((wA.setCell ⟨w1.heap.size + 1, 0, none⟩ (.int .i64 n)).setCell ⟨w1.heap.size + 1, 1, none⟩ (.slice (some ⟨w1.heap.size, 0, none⟩) 0 0)) := by (repeat' (first | with_reducible exact B1 | with_reducible refine bdrew ?_ | with_reducible refine alloc_ ?_ _ | with_reducible refine Below.setCell ?_ (by simp <;> omega) _ | with_reducible refine bthen ?_ bA))
    have P2 : Blk ((wA.setCell ⟨w1.heap.size + 1, 0, none⟩ (.int .i64 n)).setCell ⟨w1.heap.size + 1, 1, none⟩ (.slice (some ⟨w1.heap.size, 0, none⟩) 0 0)) w.heap.size 26 #[.int .i64 n, .slice A cs.length c] := by (repeat' (first | with_reducible exact k1 | with_reducible exact k2 | ((with_reducible refine blk_new_at ?_); (simp; done)) | with_reducible refine Blk.drew ?_ | with_reducible refine Blk.alloc ?_ _ | with_reducible refine Blk.far ?_ (by simp <;> omega) _ | with_reducible refine Blk.below_ ?_ bA))
    have P3 : Blk ((wA.setCell ⟨w1.heap.size + 1, 0, none⟩ (.int .i64 n)).setCell ⟨w1.heap.size + 1, 1, none⟩ (.slice (some ⟨w1.heap.size, 0, none⟩) 0 0)) (w.heap.size + 1) 26 #[.int .i64 0, .slice none 0 0] := by (repeat' (first | with_reducible exact k1 | with_reducible exact k2 | ((with_reducible refine blk_new_at ?_); (simp; done)) | with_reducible refine Blk.drew ?_ | with_reducible refine Blk.alloc ?_ _ | with_reducible refine Blk.far ?_ (by simp <;> omega) _ | with_reducible refine Blk.below_ ?_ bA))
    have P4 : Blk ((wA.setCell ⟨w1.heap.size + 1, 0, none⟩ (.int .i64 n)).setCell ⟨w1.heap.size + 1, 1, none⟩ (.slice (some ⟨w1.heap.size, 0, none⟩) 0 0)) (w1.heap.size + 1) 26 #[.int .i64 n, .slice (some ⟨w1.heap.size, 0, none⟩) 0 0] := (u1.set_ 0 (.int .i64 n)).set_ 1 (.slice (some ⟨w1.heap.size, 0, none⟩) 0 0)
    have P5 : World.ownsRow ((wA.setCell ⟨w1.heap.size + 1, 0, none⟩ (.int .i64 n)).setCell ⟨w1.heap.size + 1, 1, none⟩ (.slice (some ⟨w1.heap.size, 0, none⟩) 0 0)) w.heap.size 32 2 (.slice (some ⟨w1.heap.size, 0, none⟩) 0 0) 0 [] := by (repeat' (first | with_reducible exact oA' | ((with_reducible refine made_at (by (try simp) <;> omega) ?_); (simp; done)) | with_reducible refine World.ownsRow.alloc ?_ _ | with_reducible refine own_drew_ ?_ | with_reducible refine own_setCell ?_ (by simp [Value.ownBlock] <;> omega) _ | with_reducible refine own_below ?_ bA (Nat.le_refl _)))
    have P6 : World.ownsRow ((wA.setCell ⟨w1.heap.size + 1, 0, none⟩ (.int .i64 n)).setCell ⟨w1.heap.size + 1, 1, none⟩ (.slice (some ⟨w1.heap.size, 0, none⟩) 0 0)) w.heap.size 4 1 (.slice (some ⟨gO, 0, none⟩) cs.length cs.length) cs.length (bools (rowN cs (2 ^ n) 0)) := by (repeat' (first | with_reducible exact oA' | ((with_reducible refine made_at (by (try simp) <;> omega) ?_); (simp; done)) | with_reducible refine World.ownsRow.alloc ?_ _ | with_reducible refine own_drew_ ?_ | with_reducible refine own_setCell ?_ (by simp [Value.ownBlock] <;> omega) _ | with_reducible refine own_below ?_ bA (Nat.le_refl _)))
    have P7 : w.heap.size + 1 < w1.heap.size + 1 := by omega
    have P8 := Lib.hid (show NetAt ((wA.setCell ⟨w1.heap.size + 1, 0, none⟩ (.int .i64 n)).setCell ⟨w1.heap.size + 1, 1, none⟩ (.slice (some ⟨w1.heap.size, 0, none⟩) 0 0)) w.heap.size (w1.heap.size + 1) n [] from ⟨_, P4, P5, by omega⟩)
    clear P4 P5
    generalize (wA.setCell ⟨w1.heap.size + 1, 0, none⟩ (.int .i64 n)).setCell ⟨w1.heap.size + 1, 1, none⟩ (.slice (some ⟨w1.heap.size, 0, none⟩) 0 0) = wz at P1 P2 P3 P6 P8 ⊢
    generalize w1.heap.size + 1 = pz at P7 P8 ⊢
    clear oA' oA hgO lA bA
    rotate_left
    have hgO := (own_lt oA gO rfl).1
    simp at hgO
    have hsB := B1.size
    have oA' := own_base (base' := w.heap.size) oA (by simp; omega)
    have P1 : Below w.heap.size w ((wA.alloc (Obj.cells #[] 32)).alloc (Obj.cells #[Value.int IntKind.i64 n, Value.slice (some ⟨wA.heap.size, 0, none⟩) 0 0] 26)) := by (repeat' (first | with_reducible exact B1 | with_reducible refine bdrew ?_ | with_reducible refine alloc_ ?_ _ | with_reducible refine Below.setCell ?_ (by simp <;> omega) _ | with_reducible refine bthen ?_ bA))
    have P2 : Blk ((wA.alloc (Obj.cells #[] 32)).alloc (Obj.cells #[Value.int IntKind.i64 n, Value.slice (some ⟨wA.heap.size, 0, none⟩) 0 0] 26)) w.heap.size 26 #[.int .i64 n, .slice A cs.length c] := by (repeat' (first | with_reducible exact k1 | with_reducible exact k2 | ((with_reducible refine blk_new_at ?_); (simp; done)) | with_reducible refine Blk.drew ?_ | with_reducible refine Blk.alloc ?_ _ | with_reducible refine Blk.far ?_ (by simp <;> omega) _ | with_reducible refine Blk.below_ ?_ bA))
    have P3 : Blk ((wA.alloc (Obj.cells #[] 32)).alloc (Obj.cells #[Value.int IntKind.i64 n, Value.slice (some ⟨wA.heap.size, 0, none⟩) 0 0] 26)) (w.heap.size + 1) 26 #[.int .i64 0, .slice none 0 0] := by (repeat' (first | with_reducible exact k1 | with_reducible exact k2 | ((with_reducible refine blk_new_at ?_); (simp; done)) | with_reducible refine Blk.drew ?_ | with_reducible refine Blk.alloc ?_ _ | with_reducible refine Blk.far ?_ (by simp <;> omega) _ | with_reducible refine Blk.below_ ?_ bA))
    have P4 : Blk ((wA.alloc (Obj.cells #[] 32)).alloc (Obj.cells #[Value.int IntKind.i64 n, Value.slice (some ⟨wA.heap.size, 0, none⟩) 0 0] 26)) (wA.heap.size + 1) 26 #[.int .i64 n, .slice (some ⟨wA.heap.size, 0, none⟩) 0 0] := by (repeat' (first | with_reducible exact k1 | with_reducible exact k2 | ((with_reducible refine blk_new_at ?_); (simp; done)) | with_reducible refine Blk.drew ?_ | with_reducible refine Blk.alloc ?_ _ | with_reducible refine Blk.far ?_ (by simp <;> omega) _ | with_reducible refine Blk.below_ ?_ bA))
    have P5 : World.ownsRow ((wA.alloc (Obj.cells #[] 32)).alloc (Obj.cells #[Value.int IntKind.i64 n, Value.slice (some ⟨wA.heap.size, 0, none⟩) 0 0] 26)) w.heap.size 32 2 (.slice (some ⟨wA.heap.size, 0, none⟩) 0 0) 0 [] := by (repeat' (first | with_reducible exact oA' | ((with_reducible refine made_at (by (try simp) <;> omega) ?_); (simp; done)) | with_reducible refine World.ownsRow.alloc ?_ _ | with_reducible refine own_drew_ ?_ | with_reducible refine own_setCell ?_ (by simp [Value.ownBlock] <;> omega) _ | with_reducible refine own_below ?_ bA (Nat.le_refl _)))
    have P6 : World.ownsRow ((wA.alloc (Obj.cells #[] 32)).alloc (Obj.cells #[Value.int IntKind.i64 n, Value.slice (some ⟨wA.heap.size, 0, none⟩) 0 0] 26)) w.heap.size 4 1 (.slice (some ⟨gO, 0, none⟩) cs.length cs.length) cs.length (bools (rowN cs (2 ^ n) 0)) := by (repeat' (first | with_reducible exact oA' | ((with_reducible refine made_at (by (try simp) <;> omega) ?_); (simp; done)) | with_reducible refine World.ownsRow.alloc ?_ _ | with_reducible refine own_drew_ ?_ | with_reducible refine own_setCell ?_ (by simp [Value.ownBlock] <;> omega) _ | with_reducible refine own_below ?_ bA (Nat.le_refl _)))
    have P7 : w.heap.size + 1 < wA.heap.size + 1 := by omega
    have P8 := Lib.hid (show NetAt ((wA.alloc (Obj.cells #[] 32)).alloc (Obj.cells #[Value.int IntKind.i64 n, Value.slice (some ⟨wA.heap.size, 0, none⟩) 0 0] 26)) w.heap.size (wA.heap.size + 1) n [] from ⟨_, P4, P5, by omega⟩)
    clear P4 P5
    generalize (wA.alloc (Obj.cells #[] 32)).alloc (Obj.cells #[Value.int IntKind.i64 n, Value.slice (some ⟨wA.heap.size, 0, none⟩) 0 0] 26) = wz at P1 P2 P3 P6 P8 ⊢
    generalize wA.heap.size + 1 = pz at P7 P8 ⊢
    clear oA' oA hgO lA bA
    rotate_left
    have hgO := (own_lt oA gO rfl).1
    simp at hgO
    have hsB := B1.size
    have oA' := own_base (base' := w.heap.size) oA (by simp; omega)
    have P1 : Below w.heap.size w ((wA.alloc (Obj.cells #[Value.int IntKind.i64 n, Value.slice (some ⟨wA.heap.size + 1, 0, none⟩) 0 0] 26)).alloc (Obj.cells #[] 32)) := by (repeat' (first | with_reducible exact B1 | with_reducible refine bdrew ?_ | with_reducible refine alloc_ ?_ _ | with_reducible refine Below.setCell ?_ (by simp <;> omega) _ | with_reducible refine bthen ?_ bA))
    have P2 : Blk ((wA.alloc (Obj.cells #[Value.int IntKind.i64 n, Value.slice (some ⟨wA.heap.size + 1, 0, none⟩) 0 0] 26)).alloc (Obj.cells #[] 32)) w.heap.size 26 #[.int .i64 n, .slice A cs.length c] := by (repeat' (first | with_reducible exact k1 | with_reducible exact k2 | ((with_reducible refine blk_new_at ?_); (simp; done)) | with_reducible refine Blk.drew ?_ | with_reducible refine Blk.alloc ?_ _ | with_reducible refine Blk.far ?_ (by simp <;> omega) _ | with_reducible refine Blk.below_ ?_ bA))
    have P3 : Blk ((wA.alloc (Obj.cells #[Value.int IntKind.i64 n, Value.slice (some ⟨wA.heap.size + 1, 0, none⟩) 0 0] 26)).alloc (Obj.cells #[] 32)) (w.heap.size + 1) 26 #[.int .i64 0, .slice none 0 0] := by (repeat' (first | with_reducible exact k1 | with_reducible exact k2 | ((with_reducible refine blk_new_at ?_); (simp; done)) | with_reducible refine Blk.drew ?_ | with_reducible refine Blk.alloc ?_ _ | with_reducible refine Blk.far ?_ (by simp <;> omega) _ | with_reducible refine Blk.below_ ?_ bA))
    have P4 : Blk ((wA.alloc (Obj.cells #[Value.int IntKind.i64 n, Value.slice (some ⟨wA.heap.size + 1, 0, none⟩) 0 0] 26)).alloc (Obj.cells #[] 32)) (wA.heap.size) 26 #[.int .i64 n, .slice (some ⟨wA.heap.size + 1, 0, none⟩) 0 0] := by (repeat' (first | with_reducible exact k1 | with_reducible exact k2 | ((with_reducible refine blk_new_at ?_); (simp; done)) | with_reducible refine Blk.drew ?_ | with_reducible refine Blk.alloc ?_ _ | with_reducible refine Blk.far ?_ (by simp <;> omega) _ | with_reducible refine Blk.below_ ?_ bA))
    have P5 : World.ownsRow ((wA.alloc (Obj.cells #[Value.int IntKind.i64 n, Value.slice (some ⟨wA.heap.size + 1, 0, none⟩) 0 0] 26)).alloc (Obj.cells #[] 32)) w.heap.size 32 2 (.slice (some ⟨wA.heap.size + 1, 0, none⟩) 0 0) 0 [] := by (repeat' (first | with_reducible exact oA' | ((with_reducible refine made_at (by (try simp) <;> omega) ?_); (simp; done)) | with_reducible refine World.ownsRow.alloc ?_ _ | with_reducible refine own_drew_ ?_ | with_reducible refine own_setCell ?_ (by simp [Value.ownBlock] <;> omega) _ | with_reducible refine own_below ?_ bA (Nat.le_refl _)))
    have P6 : World.ownsRow ((wA.alloc (Obj.cells #[Value.int IntKind.i64 n, Value.slice (some ⟨wA.heap.size + 1, 0, none⟩) 0 0] 26)).alloc (Obj.cells #[] 32)) w.heap.size 4 1 (.slice (some ⟨gO, 0, none⟩) cs.length cs.length) cs.length (bools (rowN cs (2 ^ n) 0)) := by (repeat' (first | with_reducible exact oA' | ((with_reducible refine made_at (by (try simp) <;> omega) ?_); (simp; done)) | with_reducible refine World.ownsRow.alloc ?_ _ | with_reducible refine own_drew_ ?_ | with_reducible refine own_setCell ?_ (by simp [Value.ownBlock] <;> omega) _ | with_reducible refine own_below ?_ bA (Nat.le_refl _)))
    have P7 : w.heap.size + 1 < wA.heap.size := by omega
    have P8 := Lib.hid (show NetAt ((wA.alloc (Obj.cells #[Value.int IntKind.i64 n, Value.slice (some ⟨wA.heap.size + 1, 0, none⟩) 0 0] 26)).alloc (Obj.cells #[] 32)) w.heap.size (wA.heap.size) n [] from ⟨_, P4, P5, by omega⟩)
    clear P4 P5
    generalize (wA.alloc (Obj.cells #[Value.int IntKind.i64 n, Value.slice (some ⟨wA.heap.size + 1, 0, none⟩) 0 0] 26)).alloc (Obj.cells #[] 32) = wz at P1 P2 P3 P6 P8 ⊢
    generalize wA.heap.size = pz at P7 P8 ⊢
    clear oA' oA hgO lA bA
    rotate_left
    have hgO := (own_lt oA gO rfl).1
    simp at hgO
    have hsB := B1.size
    have oA' := own_base (base' := w.heap.size) oA (by simp; omega)
    have P1 : Below w.heap.size w ((wA.setCell ⟨w1.heap.size, 0, none⟩ (.int .i64 n)).setCell ⟨w1.heap.size, 1, none⟩ (.slice (some ⟨w1.heap.size + 1, 0, none⟩) 0 0)) := by (repeat' (first | with_reducible exact B1 | with_reducible refine bdrew ?_ | with_reducible refine alloc_ ?_ _ | with_reducible refine Below.setCell ?_ (by simp <;> omega) _ | with_reducible refine bthen ?_ bA))
    have P2 : Blk ((wA.setCell ⟨w1.heap.size, 0, none⟩ (.int .i64 n)).setCell ⟨w1.heap.size, 1, none⟩ (.slice (some ⟨w1.heap.size + 1, 0, none⟩) 0 0)) w.heap.size 26 #[.int .i64 n, .slice A cs.length c] := by (repeat' (first | with_reducible exact k1 | with_reducible exact k2 | ((with_reducible refine blk_new_at ?_); (simp; done)) | with_reducible refine Blk.drew ?_ | with_reducible refine Blk.alloc ?_ _ | with_reducible refine Blk.far ?_ (by simp <;> omega) _ | with_reducible refine Blk.below_ ?_ bA))
    have P3 : Blk ((wA.setCell ⟨w1.heap.size, 0, none⟩ (.int .i64 n)).setCell ⟨w1.heap.size, 1, none⟩ (.slice (some ⟨w1.heap.size + 1, 0, none⟩) 0 0)) (w.heap.size + 1) 26 #[.int .i64 0, .slice none 0 0] := by (repeat' (first | with_reducible exact k1 | with_reducible exact k2 | ((with_reducible refine blk_new_at ?_); (simp; done)) | with_reducible refine Blk.drew ?_ | with_reducible refine Blk.alloc ?_ _ | with_reducible refine Blk.far ?_ (by simp <;> omega) _ | with_reducible refine Blk.below_ ?_ bA))
    have P4 : Blk ((wA.setCell ⟨w1.heap.size, 0, none⟩ (.int .i64 n)).setCell ⟨w1.heap.size, 1, none⟩ (.slice (some ⟨w1.heap.size + 1, 0, none⟩) 0 0)) (w1.heap.size) 26 #[.int .i64 n, .slice (some ⟨w1.heap.size + 1, 0, none⟩) 0 0] := (u0.set_ 0 (.int .i64 n)).set_ 1 (.slice (some ⟨w1.heap.size + 1, 0, none⟩) 0 0)
    have P5 : World.ownsRow ((wA.setCell ⟨w1.heap.size, 0, none⟩ (.int .i64 n)).setCell ⟨w1.heap.size, 1, none⟩ (.slice (some ⟨w1.heap.size + 1, 0, none⟩) 0 0)) w.heap.size 32 2 (.slice (some ⟨w1.heap.size + 1, 0, none⟩) 0 0) 0 [] := by (repeat' (first | with_reducible exact oA' | ((with_reducible refine made_at (by (try simp) <;> omega) ?_); (simp; done)) | with_reducible refine World.ownsRow.alloc ?_ _ | with_reducible refine own_drew_ ?_ | with_reducible refine own_setCell ?_ (by simp [Value.ownBlock] <;> omega) _ | with_reducible refine own_below ?_ bA (Nat.le_refl _)))
    have P6 : World.ownsRow ((wA.setCell ⟨w1.heap.size, 0, none⟩ (.int .i64 n)).setCell ⟨w1.heap.size, 1, none⟩ (.slice (some ⟨w1.heap.size + 1, 0, none⟩) 0 0)) w.heap.size 4 1 (.slice (some ⟨gO, 0, none⟩) cs.length cs.length) cs.length (bools (rowN cs (2 ^ n) 0)) := by (repeat' (first | with_reducible exact oA' | ((with_reducible refine made_at (by (try simp) <;> omega) ?_); (simp; done)) | with_reducible refine World.ownsRow.alloc ?_ _ | with_reducible refine own_drew_ ?_ | with_reducible refine own_setCell ?_ (by simp [Value.ownBlock] <;> omega) _ | with_reducible refine own_below ?_ bA (Nat.le_refl _)))
    have P7 : w.heap.size + 1 < w1.heap.size := by omega
    have P8 := Lib.hid (show NetAt ((wA.setCell ⟨w1.heap.size, 0, none⟩ (.int .i64 n)).setCell ⟨w1.heap.size, 1, none⟩ (.slice (some ⟨w1.heap.size + 1, 0, none⟩) 0 0)) w.heap.size (w1.heap.size) n [] from ⟨_, P4, P5, by omega⟩)
    clear P4 P5
    generalize (wA.setCell ⟨w1.heap.size, 0, none⟩ (.int .i64 n)).setCell ⟨w1.heap.size, 1, none⟩ (.slice (some ⟨w1.heap.size + 1, 0, none⟩) 0 0) = wz at P1 P2 P3 P6 P8 ⊢
    generalize w1.heap.size = pz at P7 P8 ⊢
    clear oA' oA hgO lA bA
    rotate_left
    have hgO := (own_lt oA gO rfl).1
    simp at hgO
    have hsB := B1.size
    have oA' := own_base (base' := w.heap.size) oA (by simp; omega)
    have P1 : Below w.heap.size w (((wA.alloc (Obj.cells #[] 32)).setCell ⟨w1.heap.size, 0, none⟩ (.int .i64 n)).setCell ⟨w1.heap.size, 1, none⟩ (.slice (some ⟨wA.heap.size, 0, none⟩) 0 0)) := by (repeat' (first | with_reducible exact B1 | with_reducible refine bdrew ?_ | with_reducible refine alloc_ ?_ _ | with_reducible refine Below.setCell ?_ (by simp <;> omega) _ | with_reducible refine bthen ?_ bA))
    have P2 : Blk (((wA.alloc (Obj.cells #[] 32)).setCell ⟨w1.heap.size, 0, none⟩ (.int .i64 n)).setCell ⟨w1.heap.size, 1, none⟩ (.slice (some ⟨wA.heap.size, 0, none⟩) 0 0)) w.heap.size 26 #[.int .i64 n, .slice A cs.length c] := by (repeat' (first | with_reducible exact k1 | with_reducible exact k2 | ((with_reducible refine blk_new_at ?_); (simp; done)) | with_reducible refine Blk.drew ?_ | with_reducible refine Blk.alloc ?_ _ | with_reducible refine Blk.far ?_ (by simp <;> omega) _ | with_reducible refine Blk.below_ ?_ bA))
    have P3 : Blk (((wA.alloc (Obj.cells #[] 32)).setCell ⟨w1.heap.size, 0, none⟩ (.int .i64 n)).setCell ⟨w1.heap.size, 1, none⟩ (.slice (some ⟨wA.heap.size, 0, none⟩) 0 0)) (w.heap.size + 1) 26 #[.int .i64 0, .slice none 0 0] := by (repeat' (first | with_reducible exact k1 | with_reducible exact k2 | ((with_reducible refine blk_new_at ?_); (simp; done)) | with_reducible refine Blk.drew ?_ | with_reducible refine Blk.alloc ?_ _ | with_reducible refine Blk.far ?_ (by simp <;> omega) _ | with_reducible refine Blk.below_ ?_ bA))
    have P4 : Blk (((wA.alloc (Obj.cells #[] 32)).setCell ⟨w1.heap.size, 0, none⟩ (.int .i64 n)).setCell ⟨w1.heap.size, 1, none⟩ (.slice (some ⟨wA.heap.size, 0, none⟩) 0 0)) (w1.heap.size) 26 #[.int .i64 n, .slice (some ⟨wA.heap.size, 0, none⟩) 0 0] := (u0'.set_ 0 (.int .i64 n)).set_ 1 (.slice (some ⟨wA.heap.size, 0, none⟩) 0 0)
    have P5 : World.ownsRow (((wA.alloc (Obj.cells #[] 32)).setCell ⟨w1.heap.size, 0, none⟩ (.int .i64 n)).setCell ⟨w1.heap.size, 1, none⟩ (.slice (some ⟨wA.heap.size, 0, none⟩) 0 0)) w.heap.size 32 2 (.slice (some ⟨wA.heap.size, 0, none⟩) 0 0) 0 [] := by (repeat' (first | with_reducible exact oA' | ((with_reducible refine made_at (by (try simp) <;> omega) ?_); (simp; done)) | with_reducible refine World.ownsRow.alloc ?_ _ | with_reducible refine own_drew_ ?_ | with_reducible refine own_setCell ?_ (by simp [Value.ownBlock] <;> omega) _ | with_reducible refine own_below ?_ bA (Nat.le_refl _)))
    have P6 : World.ownsRow (((wA.alloc (Obj.cells #[] 32)).setCell ⟨w1.heap.size, 0, none⟩ (.int .i64 n)).setCell ⟨w1.heap.size, 1, none⟩ (.slice (some ⟨wA.heap.size, 0, none⟩) 0 0)) w.heap.size 4 1 (.slice (some ⟨gO, 0, none⟩) cs.length cs.length) cs.length (bools (rowN cs (2 ^ n) 0)) := by (repeat' (first | with_reducible exact oA' | ((with_reducible refine made_at (by (try simp) <;> omega) ?_); (simp; done)) | with_reducible refine World.ownsRow.alloc ?_ _ | with_reducible refine own_drew_ ?_ | with_reducible refine own_setCell ?_ (by simp [Value.ownBlock] <;> omega) _ | with_reducible refine own_below ?_ bA (Nat.le_refl _)))
    have P7 : w.heap.size + 1 < w1.heap.size := by omega
    have P8 := Lib.hid (show NetAt (((wA.alloc (Obj.cells #[] 32)).setCell ⟨w1.heap.size, 0, none⟩ (.int .i64 n)).setCell ⟨w1.heap.size, 1, none⟩ (.slice (some ⟨wA.heap.size, 0, none⟩) 0 0)) w.heap.size (w1.heap.size) n [] from ⟨_, P4, P5, by omega⟩)
    clear P4 P5
    generalize ((wA.alloc (Obj.cells #[] 32)).setCell ⟨w1.heap.size, 0, none⟩ (.int .i64 n)).setCell ⟨w1.heap.size, 1, none⟩ (.slice (some ⟨wA.heap.size, 0, none⟩) 0 0) = wz at P1 P2 P3 P6 P8 ⊢
    generalize w1.heap.size = pz at P7 P8 ⊢
    clear oA' oA hgO lA bA
    rotate_left
    all_goals
      clear B1 k1 k2 x0 x1 xl hsB hb1 hb0
      obtain ⟨x0, x1⟩ := P2.two
      have xl := P2.lt
      go_wp2_with fail
      clear x0 x1 xl
      go_loopw [21] (fun i wr => ∃ k : Nat, k ≤ cs.length ∧ i = .int .i64 k ∧ Below w.heap.size w wr ∧ Blk wr (w.heap.size + 1) 26 #[.int .i64 0, .slice none 0 0] ∧ NetAt wr w.heap.size pz n (keptT cs (2 ^ n) k) ∧
          wr.ownsRow w.heap.size 4 1 (.slice (some ⟨gO, 0, none⟩) cs.length cs.length) cs.length (bools (rowN cs (2 ^ n) 0))) (fun i _ => cs.length - (intOf i).toNat)
      case atStart => exact ⟨0, by omega, rfl, P1, P3, by simpa [keptT] using P8.out, P6⟩
      case round =>
        clear P1 P2 P3 P6 P8
        obtain ⟨k, hk, rfl, hb, hbz, hnet, hrow⟩ := hrel
        by_cases hlt : k < cs.length
        · obtain ⟨ad, rfl, had, hc0, hc1⟩ := (hx.below hb).cmp hlt
          have hrk : (bools (rowN cs (2 ^ n) 0))[k]? = some (.bool (!usedB cs (2 ^ n) k)) := by
            rw [bools_get (by simpa using hlt), rowN_get, usedJ_zero]
          have hst := keptT_succ cs (2 ^ n) k
          rw [cAt_get hlt] at hst
          have hkl := keptT_len cs (2 ^ n) k
          generalize hys : keptT cs (2 ^ n) k = ys at hnet hst hkl
          clear hys
          obtain ⟨v, hblk, hown, hBp⟩ := hnet
          have hwb := hb.size
          have hcb := Blk.new wr 32 #[.int .i64 cs[k].1, .int .i64 cs[k].2]
          obtain ⟨e0, e1⟩ := hcb.two
          have hrow1 := hrow.alloc (.cells #[.int .i64 cs[k].1, .int .i64 cs[k].2] 32)
          have hown1 := hown.alloc (.cells #[.int .i64 cs[k].1, .int .i64 cs[k].2] 32)
          have hblk1 := hblk.alloc (.cells #[.int .i64 cs[k].1, .int .i64 cs[k].2] 32)
          have hbz1 := hbz.alloc (.cells #[.int .i64 cs[k].1, .int .i64 cs[k].2] 32)
          have hb1 := alloc_ hb (.cells #[.int .i64 cs[k].1, .int .i64 cs[k].2] 32)
          have hc := hrow1.cellAt k (by omega)
          rw [hrk] at hc
          clear hrk
          have ik0 : (0 : Int) ≤ (k : Int) := by omega
          have ik1 : (k : Int) < cs.length := by omega
          cases hu : usedB cs (2 ^ n) k
          · rw [hu] at hst hc
            simp only [Bool.false_eq_true, if_false, List.append_nil, Bool.not_false] at hst hc
            have HS := Lib.hid hst; clear hst
            clear hu
            go_wp2_with fail
            go_roundw
            case rel => exact ⟨k + 1, by omega, by go_num, hb1, hbz1, by rw [HS.out]; exact ⟨v, hblk1, hown1, hBp⟩, hrow1⟩
            case measure => simp [intOf]; omega
          · rw [hu] at hst hc
            simp only [if_true, Bool.not_true] at hst hc
            have HS := Lib.hid hst; clear hst
            clear hu
            obtain ⟨q0, q1⟩ := hblk1.two
            have ql := hblk1.lt
            go_upto_region 8 with fail
            generalize wr.heap.size = m at e0 e1 hcb ⊢
            generalize wr.alloc (.cells #[.int .i64 cs[k].1, .int .i64 cs[k].2] 32) = wc at e0 e1 hcb hrow1 hown1 hblk1 hbz1 hb1 hc q0 q1 ql ⊢
            have el := hcb.lt
            go_wp2_with (at_builtin; refine wpList_push _ rfl _ _ 24 rfl w.heap.size 32 i0 _ 2 16 Try.underlying24 hi hz0 hz1 hz2 rfl (by decide) v _ _ rfl hown1 #[.int .i64 cs[k].1, .int .i64 cs[k].2] rfl rfl (by simp [Value.oneCell']) (by omega) (by unfold maxLen; omega) hb1.size ?_; intro g1 c1 w3 hown2 hg2 hb3 hat3; have hblk2 := hblk1.grown hg2 (fun e => own_blk_ne hown1 hblk1 (by decide) e.symm); have z1 : w3.cell? ⟨pz, 1, none⟩ = some v := hblk2.cell 1; have zf := hblk2.frozen 1)
            go_roundw
            case rel =>
              refine ⟨k + 1, by omega, by go_num, (hb1.trans hb3).setCell (by simp; omega) _, ?_, ?_, ?_⟩
              · exact Blk.far (hbz1.grown hg2 (fun e => own_blk_ne hown1 hbz1 (by decide) e.symm)) (by simp; omega) _
              · rw [HS.out]
                exact ⟨.slice (some ⟨g1, 0, none⟩) (ys.length + 1) c1, hblk2.set_ 1 _, own_setCell (p := ⟨pz, 1, none⟩) (cmps_push hown2) (own_blk_ne hown2 hblk2 (by decide)) _, hBp⟩
              · exact own_setCell (p := ⟨pz, 1, none⟩) (World.ownsRow.kept hrow1 hg2 (own_ne_type hrow1 hown1 (by decide))) (own_blk_ne hrow1 hblk1 (by decide)) _
            case measure => simp [intOf]; omega
        · have hks : k = cs.length := by omega
          obtain ⟨v, hblk, hown, hBp⟩ := hnet
          obtain ⟨G, g, rfl⟩ := own_slice hown
          rw [hks] at hown hblk
          have HKS := Lib.hid hks; clear hks
          obtain ⟨c0, c1⟩ := hblk.two
          obtain ⟨d0, d1⟩ := hbz.two
          have f0 := hbz.frozen 0
          have f1 := hbz.frozen 1
          have hl := hblk.lt
          have o1 := own_setCell hown (p := ⟨w.heap.size + 1, 0, none⟩) (own_blk_ne hown hbz (by decide)) (.int .i64 n)
          have o2 := own_setCell o1 (p := ⟨w.heap.size + 1, 1, none⟩) (own_blk_ne hown hbz (by decide)) (.slice G (keptT cs (2 ^ n) cs.length).length g)
          have O2 := Lib.hid o2; clear o1 o2
          have hbe := Below.setCell (Below.setCell hb (p := ⟨w.heap.size + 1, 0, none⟩) (by simp) (.int .i64 n)) (p := ⟨w.heap.size + 1, 1, none⟩) (by simp) (.slice G (keptT cs (2 ^ n) cs.length).length g)
          obtain ⟨r0, r1⟩ := ((hbz.set_ 0 (.int .i64 n)).set_ 1 (.slice G (keptT cs (2 ^ n) cs.length).length g)).two
          have R0 := Lib.hid r0; clear r0
          have R1 := Lib.hid r1; clear r1
          clear hown hblk hbz
          go_wp2_with fail
          refine bodyPost_ret (v := .tuple #[.agg #[.int .i64 n, .slice G (keptT cs (2 ^ n) cs.length).length g], .bool true]) (by simp [results, Try.results24, go_sem, R0.out, R1.out]) rfl ⟨G, g, rfl, O2.out, hbe⟩
end Go.Proofs.Yteigceeghnphmaa
