/- BuildTree, the reference's side. -/
import Derived.Test.YteigceeghnphmaaTreeB
import Derived.Test.YteigceeghnphmaaTreeS
namespace Go.Proofs.Yteigceeghnphmaa
open Go.RowKit
set_option linter.unusedVariables false
set_option maxRecDepth 100000 in
set_option maxHeartbeats 1600000 in
theorem sBuildTree_any (A0 : Option Addr) (z0 : List Int) (c0 : Nat) (w : World) (hx0 : Reads w w.heap.size 1 A0 z0.length (ints z0)) (hl0 : z0.length ≤ 1048576) :
    Calls Try.prog 51 #[.slice A0 z0.length c0] w fun e w' => ∃ AK cK AD cD AL cL, e = .returned (.tuple #[.agg #[.slice AK (btK z0).length cK, .slice AD (btD z0).length cD, .slice AL (btL z0).length cL, .int .i64 (btW z0)], .bool (btOk z0)]) ∧
      TreeRC w' w.heap.size w'.heap.size 3 4 AK (btK z0).length cK AD (btD z0).length cD AL (btL z0).length cL (btK z0) (btD z0) (btL z0) ∧ Below w.heap.size w w' := by
  have hbA := alloc_ (Below.refl w.heap.size w) (.cells #[.slice none 0 0, .slice none 0 0, .slice none 0 0, .int .i64 0] 57)
  have hblkA := Blk.new w 57 #[.slice none 0 0, .slice none 0 0, .slice none 0 0, .int .i64 0]
  generalize hwA : w.alloc (.cells #[.slice none 0 0, .slice none 0 0, .slice none 0 0, .int .i64 0] 57) = wA at *
  cases hok : btOk z0
  · rw [show btK z0 = [] from by simp [btK, hok], show btD z0 = [] from by simp [btD, hok], show btL z0 = [] from by simp [btL, hok], show btW z0 = 0 from by simp [btW, hok]]
    have hxA : Reads wA wA.heap.size 1 A0 z0.length (ints z0) := (hx0.below hbA).more hbA.size
    cases hv : vList z0
    · have HV := Lib.hid hv
      have hb5 := blk4 (a' := .slice none 0 0) (b' := .slice none 0 0) (c' := .slice none 0 0) (d' := .int .i64 0) hblkA
      obtain ⟨r0, r1, r2, r3⟩ := hb5.four
      have R0 := Lib.hid r0; have R1 := Lib.hid r1; have R2 := Lib.hid r2; have R3 := Lib.hid r3
      have HBF := Lib.hid (below4 hbA (Nat.le_refl _) (.slice none 0 0) (.slice none 0 0) (.slice none 0 0) (.int .i64 0))
      obtain ⟨z0', z1, z2, z3⟩ := hblkA.four
      obtain ⟨f0, f1, f2, f3⟩ := hblkA.ice
      have hlt := hblkA.lt
      clear hb5 r0 r1 r2 r3
      go_enter Try.func51, Try.ntmps51
      go_wp2_with (go_at_call 78; refine (l2List_any A0 z0 c0 _ hxA (by omega)).mono ?_; rintro e w1 ⟨rfl, rfl⟩; rw [HV.out])
      exact bodyPost_ret (v := .tuple #[.agg #[.slice none 0 0, .slice none 0 0, .slice none 0 0, .int .i64 0], .bool false]) (by simp [results, Try.results51, go_sem, R0.out, R1.out, R2.out, R3.out]) rfl ⟨none, 0, none, 0, none, 0, rfl, TreeRC.nil _ _ _ _, HBF.out⟩
    · have HV := Lib.hid hv
      have hin : inB (z0.length : Int) 1 16 = false := by
        simp only [vList, Bool.and_eq_true, decide_eq_true_eq] at hv
        simpa [btOk, hv.2] using hok
      have HIN := Lib.hid hin
      clear hv hin
      have hb5 := blk4 (a' := .slice none 0 0) (b' := .slice none 0 0) (c' := .slice none 0 0) (d' := .int .i64 0) hblkA
      obtain ⟨r0, r1, r2, r3⟩ := hb5.four
      have R0 := Lib.hid r0; have R1 := Lib.hid r1; have R2 := Lib.hid r2; have R3 := Lib.hid r3
      have HBF := Lib.hid (below4 hbA (Nat.le_refl _) (.slice none 0 0) (.slice none 0 0) (.slice none 0 0) (.int .i64 0))
      obtain ⟨z0', z1, z2, z3⟩ := hblkA.four
      obtain ⟨f0, f1, f2, f3⟩ := hblkA.ice
      have hlt := hblkA.lt
      clear hb5 r0 r1 r2 r3
      go_enter Try.func51, Try.ntmps51
      go_wp2_with (first
        | (go_at_call 78; refine (l2List_any A0 z0 c0 _ hxA (by omega)).mono ?_; rintro e w1 ⟨rfl, rfl⟩; rw [HV.out])
        | (go_at_call 62; refine (l1In_any _ _ _ _).mono ?_; rintro e w' ⟨rfl, rfl⟩; rw [HIN.out]))
      exact bodyPost_ret (v := .tuple #[.agg #[.slice none 0 0, .slice none 0 0, .slice none 0 0, .int .i64 0], .bool false]) (by simp [results, Try.results51, go_sem, R0.out, R1.out, R2.out, R3.out]) rfl ⟨none, 0, none, 0, none, 0, rfl, TreeRC.nil _ _ _ _, HBF.out⟩
  · have hok2 := hok
    simp only [btOk, Bool.and_eq_true] at hok2
    obtain ⟨hin, hall⟩ := hok2
    obtain ⟨q1, q2⟩ := inB_iff.1 hin
    have HK : Hid (btK z0 = z0) := Lib.hid (by simp [btK, hok])
    have HD : Hid (btD z0 = List.replicate z0.length false) := Lib.hid (by simp [btD, hok])
    have HL : Hid (btL z0 = loserI z0 (List.replicate z0.length false)) := Lib.hid (by simp [btL, hok])
    have HW : Hid (btW z0 = (winnerV z0 (List.replicate z0.length false) : Nat)) := Lib.hid (by simp [btW, hok])
    have HIN := Lib.hid hin; have HALL := Lib.hid hall
    clear hok hin hall
    obtain ⟨i1, hj, hy0, hy1, hy2⟩ := info_parts (show (Try.prog.info? 4).map (fun i => (i.zero, i.size, i.bytes)) = some (some (.bool false), 1, 1) by kernel_rfl)
    have hxA : Reads wA wA.heap.size 1 A0 z0.length (ints z0) := (hx0.below hbA).more hbA.size
    go_enter Try.func51, Try.ntmps51
    have HV := Lib.hid (show vList z0 = true by simp only [vList, HALL.out, Bool.and_true, decide_eq_true_eq]; omega)
    go_upto_region 3 with (first
      | (go_at_call 78; refine (l2List_any A0 z0 c0 _ hxA (by omega)).mono ?_; rintro e w1 ⟨rfl, rfl⟩; rw [HV.out])
      | (go_at_call 62; refine (l1In_any _ _ _ _).mono ?_; rintro e w' ⟨rfl, rfl⟩; rw [HIN.out]))
    have hb1 := Below.refl wA.heap.size wA
    have hblk1 := hblkA.below_ hb1
    have hB1 := bthen hbA hb1
    obtain ⟨w2, hmk, hown, hgr⟩ := run_make_full (P := Try.prog) wA wA.heap.size 55 4 i1 (.bool false) 1 Try.underlying55 hj hy0 hy1 .i64 .i64 z0.length (by rw [hy2]; omega) (by unfold maxLen; omega) (Nat.le_refl _)
    have hmd : (madeCells (Value.bool false).cells (z0.length * 1)).toList = bools (List.replicate z0.length false) := by
      rw [Nat.mul_one]; simp [bools, Value.cells, toList_madeCells_one]
    rw [hmd] at hown
    clear hmd
    have hb2 : Below wA.heap.size wA w2 := below_of_grown hgr (Nat.le_refl _) (by simp)
    have hB2 := bthen hB1 hb2
    have hT := Lib.hid (sMake_any A0 z0 c0 (some ⟨wA.heap.size, 0, none⟩) (List.replicate z0.length false) z0.length z0.length w2 rfl (by simp) ((hx0.below hB2).more hB2.size) (by rw [List.length_replicate]; exact Reads.of_own hown) (by omega) hl0)
    have hblk2 := hblk1.below_ hb2
    go_wp2_with fail
    refine hT.out.mono ?_
    rintro e w3 ⟨AK, cK, AD, cD, gL, rfl, hown3, hb3⟩
    have hB3 := bthen hB2 hb3
    have hblk3 := hblk2.below_ hb3
    have hT3 := TreeRC.of_own (base' := w.heap.size) hown3 hB2.size
    generalize hWV : winnerV z0 (List.replicate z0.length false) = W at *
    have HWV := Lib.hid hWV; clear hWV
    have hb5 := blk4 (a' := .slice AK z0.length cK) (b' := .slice AD z0.length cD) (c' := .slice (some ⟨gL, 0, none⟩) z0.length z0.length) (d' := .int .i64 (W : Nat)) hblk3
    obtain ⟨r0, r1, r2, r3⟩ := hb5.four
    have R0 := Lib.hid r0; have R1 := Lib.hid r1; have R2 := Lib.hid r2; have R3 := Lib.hid r3
    have HBF := Lib.hid (below4 hB3 (Nat.le_refl _) (.slice AK z0.length cK) (.slice AD z0.length cD) (.slice (some ⟨gL, 0, none⟩) z0.length z0.length) (.int .i64 (W : Nat)))
    have HTF := Lib.hid (hT3.put4 hblk3 (by decide) (by decide) (.slice AK z0.length cK) (.slice AD z0.length cD) (.slice (some ⟨gL, 0, none⟩) z0.length z0.length) (.int .i64 (W : Nat)))
    obtain ⟨z0', z1, z2, z3⟩ := hblk3.four
    obtain ⟨f0, f1, f2, f3⟩ := hblk3.ice
    have hlt := hblk3.lt
    have hDl : (List.replicate z0.length false).length = z0.length := by simp
    have hLl : (loserI z0 (List.replicate z0.length false)).length = z0.length := loserI_len _ _
    have HDl := Lib.hid hDl; have HLl := Lib.hid hLl
    clear hb5 r0 r1 r2 r3 hDl hLl
    go_wp2_with fail
    refine bodyPost_ret (v := .tuple #[.agg #[.slice AK z0.length cK, .slice AD z0.length cD, .slice (some ⟨gL, 0, none⟩) z0.length z0.length, .int .i64 (W : Nat)], .bool true]) (by simp [results, Try.results51, go_sem, R0.out, R1.out, R2.out, R3.out]) rfl ⟨AK, cK, AD, cD, some ⟨gL, 0, none⟩, z0.length, ?_, ?_, HBF.out⟩
    · rw [HK.out, HD.out, HL.out, HW.out, HDl.out, HLl.out]
    · rw [HK.out, HD.out, HL.out, HDl.out, HLl.out]
      exact HTF.out.grownC
end Go.Proofs.Yteigceeghnphmaa
