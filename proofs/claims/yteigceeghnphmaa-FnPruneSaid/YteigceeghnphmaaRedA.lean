/- RedundantComparators: the program's function. -/
import Derived.Test.YteigceeghnphmaaRedund
namespace Go.Proofs.Yteigceeghnphmaa
open Go.RowKit
set_option linter.unusedVariables false
set_option maxRecDepth 100000 in
set_option maxHeartbeats 1600000 in
theorem RedundantComparators_any (W : Int) (A : Option Addr) (cs : List (Int × Int)) (c : Nat) (w : World) (hx : Reads w w.heap.size 2 A cs.length (cmps cs)) (hl : cs.length ≤ 1099511627776) :
    Calls Try.prog 26 #[.agg #[.int .i64 W, .slice A cs.length c]] w fun e w' => ∃ A c, e = .returned (.tuple #[.slice A (rcV W cs).length c, .bool (chkOk W cs)]) ∧
      w'.ownsRow w.heap.size 3 1 (.slice A (rcV W cs).length c) (rcV W cs).length (ints (rcV W cs)) ∧ Below w.heap.size w w' := by
  have hb0 : Below w.heap.size w (w.alloc (.cells #[.int .i64 W, .slice A cs.length c] 26)) := by go_grown
  cases hok : chkOk W cs
  · rw [show rcV W cs = [] from by simp [rcV, hok]]
    go_enter Try.func26, Try.ntmps26
    go_wp2_with fail
    refine (isChecked_any W A cs c _ ((hx.below hb0).more hb0.size) hl).mono ?_
    rintro e w1 ⟨rfl, hb1⟩
    obtain ⟨B1, k1⟩ := step_box hb1
    rw [hok]
    go_wp2_with fail
    refine bodyPost_ret (v := .tuple #[.slice none 0 0, .bool false]) (by simp [results, Try.results26, go_sem]) rfl ⟨none, 0, rfl, World.ownsRow_nil _ _ _ _, B1⟩
  · rw [show rcV W cs = idleT cs (2 ^ W.toNat) cs.length from by simp [rcV, hok]]
    obtain ⟨n, rfl, hnet, hn12, hcl⟩ := chk_parts hok
    rw [Int.toNat_natCast]
    have HO := Lib.hid hok; clear hok
    obtain ⟨i0, hi, hz0, hz1, hz2⟩ := info_parts (show (Try.prog.info? 3).map (fun i => (i.zero, i.size, i.bytes)) = some (some (.int .i64 0), 1, 8) by kernel_rfl)
    have HN := Lib.hid hnet; clear hnet
    go_enter Try.func26, Try.ntmps26
    go_wp2_with fail
    refine (isChecked_any n A cs c _ ((hx.below hb0).more hb0.size) hl).mono ?_
    rintro e w1 ⟨rfl, hb1⟩
    obtain ⟨B1, k1⟩ := step_box hb1
    obtain ⟨x0, x1⟩ := k1.two
    have xl := k1.lt
    rw [HO.out]
    have ho1 := World.ownsRow_made (base := w.heap.size) (size := 1) (e := 3) w1 #[] 0 B1.size (by simp) (by simp)
    have B2 := alloc_ B1 (.cells #[] 3)
    go_wp2_with fail
    refine (redundant_any n A cs c _ ((hx.below B2).more B2.size) HN.out hn12).mono ?_
    rintro e w2 ⟨gO, rfl, hrow, hb2⟩
    have B3 := bthen B2 hb2
    have ho2 := own_below ho1 hb2 (Nat.le_refl _)
    have hrow := own_base hrow B2.size
    clear x0 x1
    go_wp2_with fail
    clear ho1 hb1 hb2 B1 B2 k1
    go_loopw [4, 14] (fun o i wr => ∃ (k : Nat) (ys : List Int), k ≤ cs.length ∧ i = .int .i64 k ∧ ys = idleT cs (2 ^ n) k ∧ Below w.heap.size w wr ∧ wr.ownsRow w.heap.size 3 1 o ys.length (ints ys) ∧
        wr.ownsRow w.heap.size 4 1 (.slice (some ⟨gO, 0, none⟩) cs.length cs.length) cs.length (bools (rowN cs (2 ^ n) 0))) (fun _ i _ => cs.length - (intOf i).toNat)
    case atStart => exact ⟨0, [], by omega, rfl, by simp [idleT], B3, ho2, hrow⟩
    case round =>
      clear B3 ho2 hrow
      obtain ⟨k, ys, hk, rfl, hys, hb, hown, hrow⟩ := hrel
      have hyl : ys.length ≤ k := by rw [hys]; exact idleT_len _ _ _
      have HY := Lib.hid hys; clear hys
      by_cases hlt : k < cs.length
      · have hc := hrow.cellAt k (by omega)
        have hst := idleT_succ cs (2 ^ n) k
        rw [← HY.out] at hst
        have hrk : (bools (rowN cs (2 ^ n) 0))[k]? = some (.bool (!usedB cs (2 ^ n) k)) := by
          rw [bools_get (by simpa using hlt), rowN_get, usedJ_zero]
        rw [hrk] at hc
        clear hrk
        cases hu : usedB cs (2 ^ n) k
        · rw [hu] at hst hc
          simp only [Bool.false_eq_true, if_false, Bool.not_false] at hst hc
          have HS := Lib.hid hst; clear hst
          clear hu
          go_wp2_with (at_builtin; refine wpList_push _ rfl _ _ 33 rfl w.heap.size 3 i0 _ 1 8 Try.underlying33 hi hz0 hz1 hz2 rfl (by decide) u4 _ _ rfl hown #[.int .i64 k] rfl rfl (by simp [Value.oneCell']) (by omega) (by unfold maxLen; omega) hb.size ?_; intro g1 k1 w2 hown1 hg1 hb3 hat3)
          go_roundw
          case rel =>
            refine ⟨k + 1, ys ++ [(k : Int)], by omega, by go_num, HS.out.symm, hb.trans hb3, by simpa [ints] using hown1, ?_⟩
            exact World.ownsRow.kept hrow hg1 (own_ne_type hrow hown (by decide))
          case measure => simp [intOf]; omega
        · rw [hu] at hst hc
          simp only [if_true, List.append_nil, Bool.not_true] at hst hc
          have HS := Lib.hid hst; clear hst
          clear hu
          go_wp2_with fail
          go_roundw
          case rel => exact ⟨k + 1, ys, by omega, by go_num, HS.out.symm, hb, hown, hrow⟩
          case measure => simp [intOf]; omega
      · obtain ⟨G, g, rfl⟩ := own_slice hown
        have hks : k = cs.length := by omega
        rw [HY.out, hks] at hown
        rw [HY.out, hks]
        clear hks HY hk hlt hyl
        go_wp2_with fail
        refine bodyPost_ret (v := .tuple #[.slice G (idleT cs (2 ^ n) cs.length).length g, .bool true]) (by simp [results, Try.results26, go_sem]) rfl ⟨G, g, rfl, hown, hb⟩
end Go.Proofs.Yteigceeghnphmaa
