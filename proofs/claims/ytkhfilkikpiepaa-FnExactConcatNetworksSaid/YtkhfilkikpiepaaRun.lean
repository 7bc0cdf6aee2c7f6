/- A network runs on a list. -/
import Derived.Test.YtkhfilkikpiepaaNetTo
import Derived.BigQuiet
import Derived.Deep.QuietTactic
namespace Go.Proofs.Ytkhfilkikpiepaa
open Go.RowKit
set_option linter.unusedVariables false
theorem cmpOk_iff' {W : Int} {c : Int × Int} (h : cmpOk W c = true) : c.1 ≠ c.2 ∧ 0 ≤ c.1 ∧ c.1 < W ∧ 0 ≤ c.2 ∧ c.2 < W := by
  simp only [cmpOk, Bool.and_eq_true, Bool.not_eq_true', beq_eq_false_iff_ne] at h
  have := inB_iff.1 h.2.1
  have := inB_iff.1 h.2.2
  exact ⟨h.1, by omega, by omega, by omega, by omega⟩
/-- one comparator at work -/
def cmpDo (l : List Int) (c : Int × Int) : List Int :=
  if (l[c.2.toNat]?.getD 0) < (l[c.1.toNat]?.getD 0) then (l.set c.1.toNat (l[c.2.toNat]?.getD 0)).set c.2.toNat (l[c.1.toNat]?.getD 0) else l
def netRun (cs : List (Int × Int)) (l : List Int) : List Int := cs.foldl cmpDo l
@[simp] theorem cmpDo_len (l : List Int) (c : Int × Int) : (cmpDo l c).length = l.length := by unfold cmpDo; split <;> simp
theorem netRun_len (cs : List (Int × Int)) : ∀ l : List Int, (netRun cs l).length = l.length := by
  unfold netRun
  induction cs with
  | nil => intro l; rfl
  | cons c cs ih => intro l; rw [List.foldl_cons, ih, cmpDo_len]
theorem netRun_take (cs : List (Int × Int)) (l : List Int) (k : Nat) (hk : k < cs.length) : netRun (cs.take (k + 1)) l = cmpDo (netRun (cs.take k) l) cs[k] := by
  rw [netRun, netRun, List.take_succ_eq_append_getElem hk, List.foldl_append]; rfl
set_option maxHeartbeats 400000 in
theorem copyInts_any (A : Option Addr) (zs : List Int) (c : Nat) (w : World) (hx : Reads w w.heap.size 1 A zs.length (ints zs)) (hl : zs.length ≤ 1048576) :
    Calls Try.prog 33 #[.slice A zs.length c] w fun e w' => ∃ v, e = .returned v ∧ w'.ownsRow w.heap.size 3 1 v zs.length (ints zs) ∧ Below w.heap.size w w' := by
  obtain ⟨i0, hi, hz0, hz1, hz2⟩ := info_parts (show (Try.prog.info? 3).map (fun i => (i.zero, i.size, i.bytes)) = some (some (.int .i64 0), 1, 8) by kernel_rfl)
  have ho := World.ownsRow_made (base := w.heap.size) (size := 1) (e := 3) w #[] 0 (Nat.le_refl _) (by simp) (by simp)
  have hb := alloc_ (Below.refl w.heap.size w) (.cells #[] 3)
  have hr := hx.alloc (Nat.le_refl _) (.cells #[] 3)
  go_enter Try.func33, Try.ntmps33
  go_wp2_with (at_builtin; refine wpList_append_any _ rfl _ _ 39 rfl w.heap.size 3 i0 _ 1 8 Try.underlying39 hi hz0 hz1 hz2 rfl (by decide) (.slice (some ⟨w.heap.size, 0, none⟩) 0 0) _ _ rfl ho w.heap.size A zs.length c (ints zs) rfl hr (by intro u hu; simp [ints] at hu; obtain ⟨z, _, rfl⟩ := hu; rfl) (by unfold maxLen; omega) (by omega) (by simp) ?_; intro v1 w1 hown1 hg1 hat1)
  go_ret
  simp only [Nat.zero_add, List.nil_append] at hown1
  exact ⟨v1, rfl, hown1, hb.grown hg1 (by simp) (by simp [Value.ownBlock])⟩
set_option maxRecDepth 100000 in
set_option maxHeartbeats 1600000 in
theorem run_any (B : Nat) (W : Int) (A : Option Addr) (cs : List (Int × Int)) (c : Nat) (D : Option Addr) (zs : List Int) (d : Nat) (w : World) (hB : B ≤ w.heap.size) (hx : Reads w B 2 A cs.length (cmps cs)) (hok : netOk W cs = true) (hzl : zs.length = W.toNat)
    (hown : w.ownsRow B 3 1 (.slice D zs.length d) zs.length (ints zs)) :
    Calls Try.prog 34 #[.agg #[.int .i64 W, .slice A cs.length c], .slice D zs.length d] w fun e w' => e = .returned (.tuple #[]) ∧
      w'.ownsRow B 3 1 (.slice D zs.length d) zs.length (ints (netRun cs zs)) ∧ Below B w w' := by
  simp only [netOk, Bool.and_eq_true, decide_eq_true_eq, List.all_eq_true] at hok
  obtain ⟨hw, hcl, hcs⟩ := hok
  have ⟨hW1, hW2⟩ := inB_iff.1 hw
  clear hw
  have HC := Lib.hid hcs; clear hcs
  obtain ⟨n, rfl⟩ := Int.eq_ofNat_of_zero_le (show 0 ≤ W by omega)
  have hzn : zs.length = n := by simpa using hzl
  obtain ⟨g, rfl, hBg, hgl⟩ := own_at hown (by omega)
  rw [hzn] at hown ⊢
  have HZ := Lib.hid hzn; clear hzn hzl
  obtain ⟨hbx0, hbx1⟩ := (Blk.new w 28 #[.int .i64 n, .slice A cs.length c]).two
  have hown0 := hown.alloc (.cells #[.int .i64 n, .slice A cs.length c] 28)
  have hb0 : Below B w (w.alloc (.cells #[.int .i64 n, .slice A cs.length c] 28)) := (Below.refl _ _).alloc hB _
  go_enter Try.func34, Try.ntmps34
  go_wp2_with fail
  clear hbx0 hbx1
  go_loopw [9] (fun i wr => ∃ (k : Nat) (ys : List Int), k ≤ cs.length ∧ i = .int .i64 k ∧ ys = netRun (cs.take k) zs ∧ Below B w wr ∧ wr.ownsRow B 3 1 (.slice (some ⟨g, 0, none⟩) n d) n (ints ys)) (fun i _ => cs.length - (intOf i).toNat)
  case atStart => exact ⟨0, zs, by omega, rfl, by simp [netRun], hb0, hown0⟩
  case round =>
    clear hown0 hb0 hown
    obtain ⟨k, ys, hk, rfl, hys, hb, hown⟩ := hrel
    have hyl : ys.length = n := by rw [hys, netRun_len, HZ.out]
    have HY := Lib.hid hys; clear hys
    have HYL := Lib.hid hyl; clear hyl
    by_cases hlt : k < cs.length
    · obtain ⟨ad, rfl, had, hc0, hc1⟩ := (hx.below hb).cmp hlt
      obtain ⟨hcn, hlo0, hlo1, hhi0, hhi1⟩ := cmpOk_iff' (HC.out cs[k] (List.getElem_mem hlt))
      obtain ⟨a, b, hck⟩ : ∃ a b : Nat, cs[k] = ((a : Int), (b : Int)) := ⟨cs[k].1.toNat, cs[k].2.toNat, by ext <;> simp <;> omega⟩
      have hst := netRun_take cs zs k hlt
      rw [← HY.out, hck] at hst
      rw [hck] at hcn hlo1 hhi1 hc0 hc1
      simp only at hlo1 hhi1 hcn
      have hay : a < ys.length := by rw [HYL.out]; omega
      have hby : b < ys.length := by rw [HYL.out]; omega
      have hab : a ≠ b := by omega
      simp only [cmpDo, Int.toNat_natCast, List.getElem?_eq_getElem hay, List.getElem?_eq_getElem hby, Option.getD_some] at hst
      have HST := Lib.hid hst; clear hst
      clear hck hcn hlo0 hhi0
      have hwB := hb.size
      have ia : (0 : Int) ≤ (a : Int) := by omega
      have ib : (0 : Int) ≤ (b : Int) := by omega
      have had1 : (ad.add (k * 2)).block < wr.heap.size := by rw [block_of_add]; omega
      obtain ⟨e0, e1⟩ := (Blk.new wr 54 #[.int .i64 a, .int .i64 b]).two
      have hg1 := (own_lt hown g rfl).2
      have hown1 := hown.alloc (.cells #[.int .i64 a, .int .i64 b] 54)
      have hb1 : Below B w (wr.alloc (.cells #[.int .i64 a, .int .i64 b] 54)) := hb.alloc (by omega) _
      have d0 := hown1.cellAt a (by omega)
      have d1 := hown1.cellAt b (by omega)
      rw [ints_get hay] at d0
      rw [ints_get hby] at d1
      have f0 := hown1.frozenAt a
      have f1 := hown1.frozenAt b
      go_upto_region 4 with fail
      generalize hgn : wr.heap.size = m at hg1 e0 e1 ⊢
      generalize wr.alloc (.cells #[.int .i64 a, .int .i64 b] 54) = wa at e0 e1 hown1 hb1 d0 d1 f0 f1 ⊢
      clear hgn
      by_cases hgt : ys[b] < ys[a]
      · rw [if_pos hgt] at HST
        go_quiet (fail)
        go_upto_region 5 with fail
        go_region
        go_wp2_with fail
        go_roundw
        case rel =>
          have s1 := hown1.stored a (.int .i64 ys[b])
          have s2 := s1.1.stored b (.int .i64 ys[a])
          rw [ints_set, ints_set] at s2
          refine ⟨k + 1, (ys.set a ys[b]).set b ys[a], by omega, by go_num, HST.out.symm, ?_, by exact s2.1⟩
          exact below_drewN (below_drewN ((hb1.setCell (p := ⟨g, a, none⟩) hBg (.int .i64 ys[b])).setCell (p := ⟨g, b, none⟩) hBg (.int .i64 ys[a])) nq) 1
        case measure => simp [intOf]; omega
      · rw [if_neg hgt] at HST
        go_quiet (fail)
        go_wp2_with fail
        go_roundw
        case rel => exact ⟨k + 1, ys, by omega, by go_num, HST.out.symm, below_drewN hb1 _, by exact hown1⟩
        case measure => simp [intOf]; omega
    · go_wp2_with fail
      refine bodyPost_end (results_none rfl _ _ _) rfl ⟨rfl, ?_, hb⟩
      have hk' : cs.take k = cs := List.take_of_length_le (by omega)
      rw [HY.out, hk'] at hown
      exact hown
end Go.Proofs.Ytkhfilkikpiepaa
