/- PruneNetwork: the reference's function. -/
import Derived.Test.YteigceeghnphmaaPruneW
import Derived.Test.YteigceeghnphmaaIdleS
import Derived.Deep.RegionLaw
namespace Go.Proofs.Yteigceeghnphmaa
open Go.RowKit
set_option linter.unusedVariables false
theorem l1Has_any (A : Option Addr) (zs : List Int) (c : Nat) (x : Int) (w : World) (hx : Reads w w.heap.size 1 A zs.length (ints zs)) (hl : zs.length ≤ 1048576) :
    Calls Try.prog 70 #[.slice A zs.length c, .int .i64 x] w fun e w' => e = .returned (.bool (zs.any fun y => y == x)) ∧ w = w' := by
  go_enter Try.func70, Try.ntmps70
  go_wp2_with fail
  go_loop [5] (fun i => ∃ k : Nat, k ≤ zs.length ∧ i = .int .i64 k ∧ (zs.take k).any (fun y => y == x) = false) (fun i => zs.length - (intOf i).toNat)
  case atStart => exact ⟨0, by omega, rfl, by simp⟩
  case round =>
    obtain ⟨k, hk, rfl, hn⟩ := hrel
    have HN := Lib.hid hn; clear hn
    by_cases hlt : k < zs.length
    · obtain ⟨ad, rfl, -, hc⟩ := hx.int hlt
      cases hp : (zs[k] == x)
      · have HP := Lib.hid hp
        go_wp2_with fail
        go_round
        case rel => exact ⟨k + 1, by omega, by go_num, any_take_succ hlt HN.out HP.out⟩
        case measure => simp [intOf]; omega
      · have HP := Lib.hid hp
        go_wp2_with fail
        go_ret
        exact ⟨retb (by symm; rw [List.any_eq_true]; exact ⟨zs[k], List.getElem_mem hlt, HP.out⟩), rfl⟩
    · go_wp2_with fail
      go_ret
      have hh := HN.out
      rw [List.take_of_length_le (by omega)] at hh
      exact ⟨retb hh.symm, rfl⟩
set_option maxRecDepth 100000 in
set_option maxHeartbeats 3200000 in
theorem sPruneNetwork_any (W : Int) (A : Option Addr) (cs : List (Int × Int)) (c : Nat) (w : World) (hx : Reads w w.heap.size 2 A cs.length (cmps cs)) (hl : cs.length ≤ 1099511627776) :
    Calls Try.prog 25 #[.agg #[.int .i64 W, .slice A cs.length c]] w fun e w' => ∃ A c, e = .returned (.tuple #[.agg #[.int .i64 (prW W cs), .slice A (prV W cs).length c], .bool (chkOk W cs)]) ∧
      w'.ownsRow w.heap.size 32 2 (.slice A (prV W cs).length c) (prV W cs).length (cmps (prV W cs)) ∧ Below w.heap.size w w' := by
  have hb0 : Below w.heap.size w ((w.alloc (.cells #[.int .i64 W, .slice A cs.length c] 26)).alloc (.cells #[.int .i64 0, .slice none 0 0] 26)) := by go_grown
  cases hok : chkOk W cs
  · rw [show prV W cs = [] from by simp [prV, hok], show prW W cs = 0 from by simp [prW, hok]]
    go_enter Try.func25, Try.ntmps25
    go_wp2_with fail
    refine (l12Checked_any W A cs c _ ((hx.below hb0).more hb0.size) hl).mono ?_
    rintro e w1 ⟨rfl, hb1⟩
    obtain ⟨B1, k1, k2⟩ := step_box2 hb1
    have c0 := k2.two.1
    have c1 := k2.two.2
    have f0 := k2.frozen 0
    have f1 := k2.frozen 1
    have xl := k2.lt
    have Bf := (k2.set_ 0 (.int .i64 0)).set_ 1 (.slice none 0 0)
    obtain ⟨r0, r1⟩ := Bf.two
    have R0 := Lib.hid r0; clear r0
    have R1 := Lib.hid r1; clear r1
    rw [hok]
    go_wp2_with fail
    refine bodyPost_ret (v := .tuple #[.agg #[.int .i64 0, .slice none 0 0], .bool false]) (by simp [results, Try.results25, go_sem, R0.out, R1.out]) rfl ⟨none, 0, rfl, World.ownsRow_nil _ _ _ _, ?_⟩
    exact (B1.setCell (by simp) _).setCell (by simp) _
  · rw [show prV W cs = keptT cs (2 ^ W.toNat) cs.length from by simp [prV, hok], show prW W cs = W from by simp [prW, hok]]
    obtain ⟨n, rfl, hnet, hn12, hcl⟩ := chk_parts hok
    rw [Int.toNat_natCast]
    have HO := Lib.hid hok; clear hok
    obtain ⟨i0, hi, hz0, hz1, hz2⟩ := info_parts info_cmp
    have HN := Lib.hid hnet; clear hnet
    go_enter Try.func25, Try.ntmps25
    go_wp2_with fail
    refine (l12Checked_any n A cs c _ ((hx.below hb0).more hb0.size) hl).mono ?_
    rintro e w1 ⟨rfl, hb1⟩
    obtain ⟨B1, k1, k2⟩ := step_box2 hb1
    obtain ⟨x0, x1⟩ := k1.two
    have xl := k2.lt
    rw [HO.out]
    go_wp2_with fail
    refine (l12Idle_any n A cs c _ ((hx.below B1).more B1.size) HN.out hn12).mono ?_
    rintro e w2 ⟨v2, rfl, own2, hb2⟩
    obtain ⟨GI, gi, rfl⟩ := own_slice own2
    have B2 := bthen B1 hb2
    have K1 := k1.below_ hb2
    have K2 := k2.below_ hb2
    have hid := own_base own2 B1.size
    clear x0 x1 xl own2 hb0 hb1 B1 k1 k2 hb2
    obtain ⟨x0, x1⟩ := K1.two
    have xl := K2.lt
    have hil := idleT_len cs (2 ^ n) cs.length
    have P1 := alloc_ (alloc_ B2 (.cells #[] 32)) (.cells #[.int .i64 n, .slice (some ⟨w2.heap.size, 0, none⟩) 0 0] 26)
    have P2 := (K1.alloc (.cells #[] 32)).alloc (.cells #[.int .i64 n, .slice (some ⟨w2.heap.size, 0, none⟩) 0 0] 26)
    have P3 := (K2.alloc (.cells #[] 32)).alloc (.cells #[.int .i64 n, .slice (some ⟨w2.heap.size, 0, none⟩) 0 0] 26)
    have P6 := World.ownsRow.alloc (World.ownsRow.alloc hid (.cells #[] 32)) (.cells #[.int .i64 n, .slice (some ⟨w2.heap.size, 0, none⟩) 0 0] 26)
    have P4 : Blk ((w2.alloc (.cells #[] 32)).alloc (.cells #[.int .i64 n, .slice (some ⟨w2.heap.size, 0, none⟩) 0 0] 26)) (w2.heap.size + 1) 26 #[.int .i64 n, .slice (some ⟨w2.heap.size, 0, none⟩) 0 0] := blk_new_at (by simp)
    have P5 := World.ownsRow.alloc (made_at (w := w2) (base := w.heap.size) (size := 2) (e := 32) B2.size rfl) (.cells #[.int .i64 n, .slice (some ⟨w2.heap.size, 0, none⟩) 0 0] 26)
    have P7 : w.heap.size + 1 < w2.heap.size + 1 := by omega
    have P8 := Lib.hid (show NetAt _ w.heap.size (w2.heap.size + 1) n [] from ⟨_, P4, P5, by omega⟩)
    clear P4 P5 hid
    go_wp2_with fail
    clear x0 x1 xl B2 K1 K2
    generalize (w2.alloc (.cells #[] 32)).alloc (.cells #[.int .i64 n, .slice (some ⟨w2.heap.size, 0, none⟩) 0 0] 26) = wz at P1 P2 P3 P6 P8 ⊢
    generalize w2.heap.size + 1 = pz at P7 P8 ⊢
    go_loopw [6] (fun i wr => ∃ k : Nat, k ≤ cs.length ∧ i = .int .i64 k ∧ Below w.heap.size w wr ∧ Blk wr w.heap.size 26 #[.int .i64 n, .slice A cs.length c] ∧ Blk wr (w.heap.size + 1) 26 #[.int .i64 0, .slice none 0 0] ∧ NetAt wr w.heap.size pz n (keptT cs (2 ^ n) k) ∧
        wr.ownsRow w.heap.size 3 1 (.slice GI (idleT cs (2 ^ n) cs.length).length gi) (idleT cs (2 ^ n) cs.length).length (ints (idleT cs (2 ^ n) cs.length))) (fun i _ => cs.length - (intOf i).toNat)
    case atStart => exact ⟨0, by omega, rfl, P1, P2, P3, by simpa [keptT] using P8.out, P6⟩
    case round =>
      clear P1 P2 P3 P6 P8
      obtain ⟨k, hk, rfl, hb, hbn, hbz, hnet, hrow⟩ := hrel
      obtain ⟨x0, x1⟩ := hbn.two
      have xl := hbn.lt
      by_cases hlt : k < cs.length
      · obtain ⟨ad, rfl, had, hc0, hc1⟩ := (hx.below hb).cmp hlt
        have hst := keptT_succ cs (2 ^ n) k
        rw [cAt_get hlt] at hst
        have hkl := keptT_len cs (2 ^ n) k
        generalize hys : keptT cs (2 ^ n) k = ys at hnet hst hkl
        clear hys
        obtain ⟨v, hblk, hown, hBp⟩ := hnet
        have hwb := hb.size
        have him := idle_mem cs (2 ^ n) cs.length k hlt
        cases hu : usedB cs (2 ^ n) k
        · rw [hu] at hst him
          simp only [Bool.false_eq_true, if_false, List.append_nil, Bool.not_false] at hst him
          have HS := Lib.hid hst; clear hst
          have HI := Lib.hid him; clear him
          clear hu
          go_wp2_with (go_at_call 70; refine (l1Has_any GI (idleT cs (2 ^ n) cs.length) gi k _ (Reads.of_own hrow) (by omega)).mono ?_; rintro e w' ⟨rfl, rfl⟩; rw [HI.out])
          go_roundw
          case rel => exact ⟨k + 1, by omega, by go_num, hb, hbn, hbz, by rw [HS.out]; exact ⟨v, hblk, hown, hBp⟩, hrow⟩
          case measure => simp [intOf]; omega
        · rw [hu] at hst him
          simp only [if_true, Bool.not_true] at hst him
          have HS := Lib.hid hst; clear hst
          have HI := Lib.hid him; clear him
          clear hu
          obtain ⟨q0, q1⟩ := hblk.two
          have ql := hblk.lt
          have hne1 : wr.heap.size ≠ pz := by omega
          go_wp2_with (go_at_call 70; refine (l1Has_any GI (idleT cs (2 ^ n) cs.length) gi k _ (Reads.of_own hrow) (by omega)).mono ?_; rintro e w' ⟨rfl, rfl⟩; rw [HI.out])
          have ik0 : (0 : Int) ≤ (k : Int) := by omega
          have ik1 : (k : Int) < cs.length := by omega
          have hblkA := hblk.alloc (.cells #[.int .i64 cs[k].1, .int .i64 cs[k].2] 32)
          have q1' := hblkA.two.2
          go_region_law ((refine step_push _ (by rfl) _ _ 24 (by rfl) w.heap.size 32 i0 _ 2 16 Try.underlying24 hi hz0 hz1 hz2 (by rfl) (by decide) v _ _ (by rfl) (by exact own_drew_ (World.ownsRow.alloc hown _)) #[.int .i64 cs[k].1, .int .i64 cs[k].2] wr.heap.size (by rfl) (by exact Blk.new wr _ _) (by rfl) (by simp [Value.oneCell']) (by omega) (by unfold maxLen; omega) (by simp; omega) ?_; intro g1 c1 w3 hown2 hg2 hb3 hat3; have hblk2 := Blk.grown (Blk.drew hblkA) hg2 (fun e => own_blk_ne hown hblk (by decide) e.symm); have z1 : w3.cell? ⟨pz, 1, none⟩ = some v := hblk2.cell 1; have zf := hblk2.frozen 1))
          all_goals
            have hb3' : Below w.heap.size w w3 := (alloc_ hb _).trans ⟨hb3.os, hb3.tape, hb3.output, hb3.size, hb3.block⟩
            have hbn2 := Blk.grown (Blk.drew (hbn.alloc _)) hg2 (fun e => own_blk_ne hown hbn (by decide) e.symm)
            have hbz2 := Blk.grown (Blk.drew (hbz.alloc _)) hg2 (fun e => own_blk_ne hown hbz (by decide) e.symm)
            have hrow2 := World.ownsRow.kept (own_drew_ (World.ownsRow.alloc hrow _)) hg2 (own_ne_type hrow hown (by decide))
            go_wp2_with fail
            go_roundw
            case rel =>
              refine ⟨k + 1, by omega, by go_num, hb3'.setCell (by simp; omega) _, ?_, ?_, ?_, ?_⟩
              · exact Blk.far hbn2 (by simp; omega) _
              · exact Blk.far hbz2 (by simp; omega) _
              · rw [HS.out]
                exact ⟨.slice (some ⟨g1, 0, none⟩) (ys.length + 1) c1, hblk2.set_ 1 _, own_setCell (p := ⟨pz, 1, none⟩) (cmps_push hown2) (own_blk_ne hown2 hblk2 (by decide)) _, hBp⟩
              · exact own_setCell (p := ⟨pz, 1, none⟩) hrow2 (own_blk_ne hrow hblk (by decide)) _
            case measure => simp [intOf]; omega
      · have hks : k = cs.length := by omega
        obtain ⟨v, hblk, hown, hBp⟩ := hnet
        obtain ⟨G, g, rfl⟩ := own_slice hown
        rw [hks] at hown hblk
        have HKS := Lib.hid hks; clear hks
        obtain ⟨c0, c1⟩ := hblk.two
        obtain ⟨d0, d1⟩ := hbz.two
        have f0 := hbz.frozen 0
        have f1 := hbz.frozen 1
        have hl := hblk.lt
        have o1 := own_setCell hown (p := ⟨w.heap.size + 1, 0, none⟩) (own_blk_ne hown hbz (by decide)) (.int .i64 n)
        have o2 := own_setCell o1 (p := ⟨w.heap.size + 1, 1, none⟩) (own_blk_ne hown hbz (by decide)) (.slice G (keptT cs (2 ^ n) cs.length).length g)
        have O2 := Lib.hid o2; clear o1 o2
        have hbe := Below.setCell (Below.setCell hb (p := ⟨w.heap.size + 1, 0, none⟩) (by simp) (.int .i64 n)) (p := ⟨w.heap.size + 1, 1, none⟩) (by simp) (.slice G (keptT cs (2 ^ n) cs.length).length g)
        obtain ⟨r0, r1⟩ := ((hbz.set_ 0 (.int .i64 n)).set_ 1 (.slice G (keptT cs (2 ^ n) cs.length).length g)).two
        have R0 := Lib.hid r0; clear r0
        have R1 := Lib.hid r1; clear r1
        clear hown hblk hbz hbn
        go_wp2_with fail
        refine bodyPost_ret (v := .tuple #[.agg #[.int .i64 n, .slice G (keptT cs (2 ^ n) cs.length).length g], .bool true]) (by simp [results, Try.results25, go_sem, R0.out, R1.out]) rfl ⟨G, g, rfl, O2.out, hbe⟩
end Go.Proofs.Yteigceeghnphmaa
