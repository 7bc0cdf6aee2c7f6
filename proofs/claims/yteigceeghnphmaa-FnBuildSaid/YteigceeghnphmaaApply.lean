/- ApplyNetwork: the program's and the reference's function. -/
import Derived.Test.YteigceeghnphmaaRun
import Derived.Test.YteigceeghnphmaaHold
namespace Go.Proofs.Yteigceeghnphmaa
open Go.RowKit
set_option linter.unusedVariables false
set_option maxHeartbeats 400000 in
theorem l1Own_any (A : Option Addr) (zs : List Int) (c : Nat) (w : World) (hx : Reads w w.heap.size 1 A zs.length (ints zs)) (hl : zs.length ≤ 1048576) :
    Calls Try.prog 105 #[.slice A zs.length c] w fun e w' => ∃ v, e = .returned v ∧ w'.ownsRow w.heap.size 3 1 v zs.length (ints zs) ∧ Below w.heap.size w w' := by
  obtain ⟨i0, hi, hz0, hz1, hz2⟩ := info_parts (show (Try.prog.info? 3).map (fun i => (i.zero, i.size, i.bytes)) = some (some (.int .i64 0), 1, 8) by kernel_rfl)
  have ho := World.ownsRow_made (base := w.heap.size) (size := 1) (e := 3) w #[] 0 (Nat.le_refl _) (by simp) (by simp)
  have hb := alloc_ (Below.refl w.heap.size w) (.cells #[] 3)
  have hr := hx.alloc (Nat.le_refl _) (.cells #[] 3)
  go_enter Try.func105, Try.ntmps105
  go_wp2_with (at_builtin; refine wpList_append_any _ rfl _ _ 33 rfl w.heap.size 3 i0 _ 1 8 Try.underlying33 hi hz0 hz1 hz2 rfl (by decide) (.slice (some ⟨w.heap.size, 0, none⟩) 0 0) _ _ rfl ho w.heap.size A zs.length c (ints zs) rfl hr (by intro u hu; simp [ints] at hu; obtain ⟨z, _, rfl⟩ := hu; rfl) (by unfold maxLen; omega) (by omega) (by simp) ?_; intro v1 w1 hown1 hg1 hat1)
  go_ret
  simp only [Nat.zero_add, List.nil_append] at hown1
  exact ⟨v1, rfl, hown1, hb.grown hg1 (by simp) (by simp [Value.ownBlock])⟩
set_option maxHeartbeats 400000 in
theorem l6Swap_any (B g n d : Nat) (ys : List Int) (a b : Nat) (w : World) (hay : a < ys.length) (hby : b < ys.length) (ha : a < n) (hb : b < n) (hown : w.ownsRow B 3 1 (.slice (some ⟨g, 0, none⟩) n d) n (ints ys)) :
    Calls Try.prog 106 #[.slice (some ⟨g, 0, none⟩) n d, .int .i64 a, .int .i64 b] w fun e w' => e = .returned (.tuple #[]) ∧
      w'.ownsRow B 3 1 (.slice (some ⟨g, 0, none⟩) n d) n (ints ((ys.set a ys[b]).set b ys[a])) ∧ w.grownBy w' (some g) := by
  have d0 := hown.cellAt a (by omega)
  have d1 := hown.cellAt b (by omega)
  rw [ints_get hay] at d0
  rw [ints_get hby] at d1
  have f0 := hown.frozenAt a
  have f1 := hown.frozenAt b
  have s1 := hown.stored a (.int .i64 ys[b])
  have d2 := s1.1.cellAt b (by omega)
  rw [ints_set, ints_get (by simpa using hby)] at d2
  have f2 := s1.1.frozenAt b
  have s2 := s1.1.stored b (.int .i64 ys[a])
  rw [ints_set, ints_set] at s2
  have S := Lib.hid (And.intro s2.1 (s1.2.trans s2.2)); clear s1 s2
  have ia : (a : Int) < n := by omega
  have ib : (b : Int) < n := by omega
  go_enter Try.func106, Try.ntmps106
  go_wp2_with fail
  exact bodyPost_end (results_none rfl _ _ _) rfl ⟨rfl, S.out.1, S.out.2⟩
set_option maxRecDepth 100000 in
set_option maxHeartbeats 1600000 in
theorem l12Apply_any (W : Int) (A : Option Addr) (cs : List (Int × Int)) (c : Nat) (D : Option Addr) (zs : List Int) (d : Nat) (w : World) (hx : Reads w w.heap.size 2 A cs.length (cmps cs)) (hok : netOk W cs = true) (hzl : zs.length = W.toNat)
    (hx1 : Reads w w.heap.size 1 D zs.length (ints zs)) :
    Calls Try.prog 79 #[.agg #[.int .i64 W, .slice A cs.length c], .slice D zs.length d] w fun e w' => ∃ v, e = .returned v ∧
      w'.ownsRow w.heap.size 3 1 v zs.length (ints (netRun cs zs)) ∧ Below w.heap.size w w' := by
  simp only [netOk, Bool.and_eq_true, decide_eq_true_eq, List.all_eq_true] at hok
  obtain ⟨hw, hcl, hcs⟩ := hok
  have ⟨hW1, hW2⟩ := inB_iff.1 hw
  clear hw
  have HC := Lib.hid hcs; clear hcs
  obtain ⟨n, rfl⟩ := Int.eq_ofNat_of_zero_le (show 0 ≤ W by omega)
  have hzn : zs.length = n := by simpa using hzl
  have hzb : 1 ≤ zs.length ∧ zs.length ≤ 16 := by omega
  have HZ := Lib.hid hzn; clear hzn hzl
  have hb0 : Below w.heap.size w (w.alloc (.cells #[.int .i64 n, .slice A cs.length c] 26)) := by go_grown
  go_enter Try.func79, Try.ntmps79
  go_wp2_with fail
  refine (l1Own_any D zs d _ ((hx1.below hb0).more hb0.size) (by omega)).mono ?_
  rintro e w1 ⟨v1, rfl, hownA, hb1⟩
  obtain ⟨B1, k1⟩ := step_box hb1
  obtain ⟨x0, x1⟩ := k1.two
  have hown := own_base (base' := w.heap.size) hownA (by simp)
  clear hownA
  obtain ⟨g, d1, rfl, hBg, hgl, -⟩ := own_some hown (by omega)
  have hgx : g ≠ w.heap.size := fun e => own_blk_ne hown k1 (by decide) (by simp [Value.ownBlock, e])
  go_wp2_with fail
  clear x0 x1
  go_loopw [6] (fun i wr => ∃ (k : Nat) (ys : List Int), k ≤ cs.length ∧ i = .int .i64 k ∧ ys = netRun (cs.take k) zs ∧ Below w.heap.size w wr ∧ Blk wr w.heap.size 26 #[.int .i64 n, .slice A cs.length c] ∧ wr.ownsRow w.heap.size 3 1 (.slice (some ⟨g, 0, none⟩) zs.length d1) zs.length (ints ys)) (fun i _ => cs.length - (intOf i).toNat)
  case atStart => exact ⟨0, zs, by omega, rfl, by simp [netRun], B1, k1, hown⟩
  case round =>
    clear hown k1 B1 hb1 hb0
    obtain ⟨k, ys, hk, rfl, hys, hb, hbx, hown⟩ := hrel
    have hyl : ys.length = zs.length := by rw [hys, netRun_len]
    have HY := Lib.hid hys; clear hys
    have HYL := Lib.hid hyl; clear hyl
    obtain ⟨x0, x1⟩ := hbx.two
    by_cases hlt : k < cs.length
    · obtain ⟨ad, rfl, had, hc0, hc1⟩ := (hx.below hb).cmp hlt
      obtain ⟨hcn, hlo0, hlo1, hhi0, hhi1⟩ := cmpOk_iff' (HC.out cs[k] (List.getElem_mem hlt))
      obtain ⟨a, b, hck⟩ : ∃ a b : Nat, cs[k] = ((a : Int), (b : Int)) := ⟨cs[k].1.toNat, cs[k].2.toNat, by ext <;> simp <;> omega⟩
      have hst := netRun_take cs zs k hlt
      rw [← HY.out, hck] at hst
      rw [hck] at hcn hlo1 hhi1 hc0 hc1
      simp only at hlo1 hhi1 hcn
      have haz : a < zs.length := by rw [HZ.out]; omega
      have hbz : b < zs.length := by rw [HZ.out]; omega
      have hay : a < ys.length := by rw [HYL.out]; omega
      have hby : b < ys.length := by rw [HYL.out]; omega
      simp only [cmpDo, Int.toNat_natCast, List.getElem?_eq_getElem hay, List.getElem?_eq_getElem hby, Option.getD_some] at hst
      have HST := Lib.hid hst; clear hst
      clear hck hcn hlo0 hhi0
      have hwB := hb.size
      have ia : (0 : Int) ≤ (a : Int) := by omega
      have ib : (0 : Int) ≤ (b : Int) := by omega
      have iaz : (a : Int) < zs.length := by omega
      have ibz : (b : Int) < zs.length := by omega
      have had1 : (ad.add (k * 2)).block < wr.heap.size := by rw [block_of_add]; omega
      have hcb := Blk.new wr 32 #[.int .i64 a, .int .i64 b]
      obtain ⟨e0, e1⟩ := hcb.two
      have hown1 := hown.alloc (.cells #[.int .i64 a, .int .i64 b] 32)
      have hbx1 := hbx.alloc (.cells #[.int .i64 a, .int .i64 b] 32)
      have hb1 := alloc_ hb (.cells #[.int .i64 a, .int .i64 b] 32)
      have d0 := hown1.cellAt a (by omega)
      have d2 := hown1.cellAt b (by omega)
      rw [ints_get hay] at d0
      rw [ints_get hby] at d2
      go_upto_region 6 with fail
      generalize wr.heap.size = m at e0 e1 hcb ⊢
      generalize wr.alloc (.cells #[.int .i64 a, .int .i64 b] 32) = wa at e0 e1 hcb hown1 hbx1 hb1 d0 d2 ⊢
      by_cases hgt : ys[b] < ys[a]
      · rw [if_pos hgt] at HST
        go_quiet (fail)
        have o2 : (World.drewN wa nq).ownsRow _ _ _ _ _ _ := hown1
        go_wp2_with (go_at_call 106; refine (l6Swap_any w.heap.size g zs.length d1 ys a b _ hay hby haz hbz o2).mono ?_; rintro e w5 ⟨rfl, hown5, hg5⟩)
        go_roundw
        case rel => exact ⟨k + 1, (ys.set a ys[b]).set b ys[a], by omega, by go_num, HST.out.symm, (below_drewN hb1 nq).grown hg5 hb1.size (by simpa using hBg), (Blk.drewN hbx1 nq).grown hg5 (by simpa using fun e => hgx e.symm), hown5⟩
        case measure => simp [intOf]; omega
      · rw [if_neg hgt] at HST
        go_quiet (fail)
        go_wp2_with fail
        go_roundw
        case rel => exact ⟨k + 1, ys, by omega, by go_num, HST.out.symm, below_drewN hb1 _, Blk.drewN hbx1 _, by exact hown1⟩
        case measure => simp [intOf]; omega
    · go_wp2_with fail
      go_ret
      have hk' : cs.take k = cs := List.take_of_length_le (by omega)
      rw [HY.out, hk'] at hown
      exact ⟨_, rfl, hown, hb⟩
end Go.Proofs.Yteigceeghnphmaa
