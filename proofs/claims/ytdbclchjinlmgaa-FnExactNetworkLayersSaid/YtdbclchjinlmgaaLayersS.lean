/- The layers of a network: the reference's, and the law on the depth. -/
import Derived.Test.YtdbclchjinlmgaaLayers
import Derived.BigQuiet
import Derived.Deep.QuietTactic
namespace Go.Proofs.Ytdbclchjinlmgaa
open Go.RowKit
set_option linter.unusedVariables false
theorem l1Most_any (a b : Int) (w : World) : Calls Try.prog 61 #[.int .i64 a, .int .i64 b] w fun e w' => e = .returned (.int .i64 (max a b)) ∧ w' = w := by
  by_cases h : b < a
  · go_enter Try.func61, Try.ntmps61
    go_wp2
    go_ret
    exact ⟨reti (by omega), rfl⟩
  · go_enter Try.func61, Try.ntmps61
    go_wp2
    go_ret
    exact ⟨reti (by omega), rfl⟩
set_option maxRecDepth 100000 in
set_option maxHeartbeats 1600000 in
theorem l12Layers_any (W : Int) (A : Option Addr) (cs : List (Int × Int)) (c : Nat) (w : World) (hx : Reads w w.heap.size 2 A cs.length (cmps cs)) (hok : netOk W cs = true) :
    Calls Try.prog 32 #[.agg #[.int .i64 W, .slice A cs.length c]] w fun e w' => ∃ v, e = .returned v ∧ w'.ownsRow w.heap.size 3 1 v (layersL W cs).length (ints (layersL W cs)) ∧ Below w.heap.size w w' := by
  obtain ⟨hW1, hW2, hcl, hcs⟩ := netOk_iff hok
  clear hok
  have HC := Lib.hid hcs; clear hcs
  obtain ⟨n, rfl⟩ := Int.eq_ofNat_of_zero_le (show 0 ≤ W by omega)
  obtain ⟨i0, hi, hz0, hz1, hz2⟩ := info_parts info_int
  obtain ⟨hbx0, hbx1⟩ := (Blk.new w 31 #[.int .i64 n, .slice A cs.length c]).two
  have hmk : ∀ w0 : World, (Instr.makeSlice 26 (.int .i64 n) (.int .i64 n)).run Try.prog w0 = .ok (.slice (some ⟨w0.heap.size, 0, none⟩) n n) (w0.alloc (.cells (madeCells #[.int .i64 0] n) 3)) := by
    intro w0
    have := run_make (P := Try.prog) w0 26 3 i0 (.int .i64 0) Try.underlying26 hi hz0 .i64 .i64 n n (by omega) (by omega) (by rw [hz2]; omega) (by omega)
    simpa [Value.cells, hz1] using this
  have hat0 : (((w.alloc (.cells #[.int .i64 n, .slice A cs.length c] 31)).alloc (.cells (madeCells #[.int .i64 0] n) 3)).alloc (.cells #[] 3)).ownsRow w.heap.size 3 1 (.slice (some ⟨w.heap.size + 1, 0, none⟩) n n) n (ints (List.replicate n 0)) := by
    have := (own_full (base := w.heap.size) (size := 1) (e := 3) (w.alloc (.cells #[.int .i64 n, .slice A cs.length c] 31)) (madeCells #[.int .i64 0] n) n (by simp) (by unfold maxLen; omega) (by simp [madeCells])).alloc (.cells #[] 3)
    rw [toList_madeCells_one] at this
    simpa [ints] using this
  have hout0 : (((w.alloc (.cells #[.int .i64 n, .slice A cs.length c] 31)).alloc (.cells (madeCells #[.int .i64 0] n) 3)).alloc (.cells #[] 3)).ownsRow w.heap.size 3 1 (.slice (some ⟨w.heap.size + 1 + 1, 0, none⟩) 0 0) 0 [] := by
    have := World.ownsRow_made (base := w.heap.size) (size := 1) (e := 3) ((w.alloc (.cells #[.int .i64 n, .slice A cs.length c] 31)).alloc (.cells (madeCells #[.int .i64 0] n) 3)) #[] 0 (by simp; omega) (by simp) (by simp)
    simpa using this
  have hB0 : Below w.heap.size w (((w.alloc (.cells #[.int .i64 n, .slice A cs.length c] 31)).alloc (.cells (madeCells #[.int .i64 0] n) 3)).alloc (.cells #[] 3)) := by go_grown
  have hbxw : Blk (((w.alloc (.cells #[.int .i64 n, .slice A cs.length c] 31)).alloc (.cells (madeCells #[.int .i64 0] n) 3)).alloc (.cells #[] 3)) w.heap.size 31 #[.int .i64 n, .slice A cs.length c] := ((Blk.new w 31 #[.int .i64 n, .slice A cs.length c]).alloc _).alloc _
  go_enter Try.func32, Try.ntmps32
  go_wp2_with fail
  clear hmk hbx0 hbx1
  go_loopw [4, 5] (fun o i wr => ∃ (k : Nat) (ys zs : List Int), k ≤ cs.length ∧ i = .int .i64 k ∧ (zs, ys) = layFold n (cs.take k) ∧ Below w.heap.size w wr ∧ Blk wr w.heap.size 31 #[.int .i64 n, .slice A cs.length c] ∧
        wr.ownsRow w.heap.size 3 1 (.slice (some ⟨w.heap.size + 1, 0, none⟩) n n) n (ints zs) ∧ wr.ownsRow w.heap.size 3 1 o ys.length (ints ys) ∧ o.ownBlock ≠ some (w.heap.size + 1)) (fun _ i _ => cs.length - (intOf i).toNat)
  case atStart => exact ⟨0, [], List.replicate n 0, by omega, rfl, rfl, hB0, hbxw, hat0, hout0, by simp [Value.ownBlock]⟩
  case round =>
    clear hat0 hout0 hB0 hbxw
    obtain ⟨k, ys, zs, hk, rfl, hst, hb, hbx, hat, hout, hne⟩ := hrel
    have hinv := layFold_inv n cs k hk
    rw [← hst] at hinv
    obtain ⟨hl1, hl2, hl3, hl4⟩ := hinv
    have hyl : ys.length ≤ 200 := by simp only at hl3; omega
    clear hl3 hl4
    have HS := Lib.hid hst; clear hst
    have HL2 := Lib.hid hl2; clear hl2
    obtain ⟨x0, x1⟩ := hbx.two
    by_cases hlt : k < cs.length
    · obtain ⟨ad, rfl, had, hc0, hc1⟩ := (hx.below hb).cmp hlt
      obtain ⟨hcn, hlo0, hlo1, hhi0, hhi1⟩ := cmpOk_iff (HC.out cs[k] (List.getElem_mem hlt))
      obtain ⟨a, b, hck⟩ : ∃ a b : Nat, cs[k] = ((a : Int), (b : Int)) := ⟨cs[k].1.toNat, cs[k].2.toNat, by ext <;> simp <;> omega⟩
      have HK := Lib.hid (layFold_take n cs k hlt)
      rw [hck] at hcn hlo1 hhi1 hc0 hc1
      simp only at hlo1 hhi1 hcn
      have haz : a < zs.length := by simp only at hl1; omega
      have hbz : b < zs.length := by simp only at hl1; omega
      have hma := (own_lt hat _ rfl).2
      simp only at hma
      have CK := Lib.hid hck; clear hck
      clear hcn hlo0 hhi0
      have hsz := hb.size
      have ia : (0 : Int) ≤ (a : Int) := by omega
      have ib : (0 : Int) ≤ (b : Int) := by omega
      have z0 := HL2.out zs[a] (List.getElem_mem haz)
      have z1 := HL2.out zs[b] (List.getElem_mem hbz)
      have hat1 := hat.alloc (.cells #[.int .i64 a, .int .i64 b] 53)
      have hout1 := hout.alloc (.cells #[.int .i64 a, .int .i64 b] 53)
      have hbx1 := hbx.alloc (.cells #[.int .i64 a, .int .i64 b] 53)
      have hb1 := alloc_ hb (.cells #[.int .i64 a, .int .i64 b] 53)
      have hcb := Blk.new wr 53 #[.int .i64 a, .int .i64 b]
      have hws : wr.heap.size + 1 = (wr.alloc (.cells #[.int .i64 a, .int .i64 b] 53)).heap.size := by simp
      have d0 := hat1.cellAt a (by omega)
      have d1 := hat1.cellAt b (by omega)
      rw [ints_get haz] at d0
      rw [ints_get hbz] at d1
      obtain ⟨e0, e1⟩ := hcb.two
      go_wp2_with fail
      go_quiet (first | (go_at_call 61; refine Calls.quiet_of_same (l1Most_any _ _ _)))
      have hat1 : (World.drewN (wr.alloc (.cells #[.int .i64 a, .int .i64 b] 53)) nq).ownsRow _ _ _ _ _ _ := hat1
      have hout1 : (World.drewN (wr.alloc (.cells #[.int .i64 a, .int .i64 b] 53)) nq).ownsRow _ _ _ _ _ _ := hout1
      have hbx1 : Blk (World.drewN (wr.alloc (.cells #[.int .i64 a, .int .i64 b] 53)) nq) _ _ _ := hbx1
      have hcb : Blk (World.drewN (wr.alloc (.cells #[.int .i64 a, .int .i64 b] 53)) nq) _ _ _ := hcb
      have hb1 := below_drewN hb1 nq
      have hws : wr.heap.size + 1 = (World.drewN (wr.alloc (.cells #[.int .i64 a, .int .i64 b] 53)) nq).heap.size := hws
      clear d0 d1 e0 e1
      generalize World.drewN (wr.alloc (.cells #[.int .i64 a, .int .i64 b] 53)) nq = wa at hat1 hout1 hbx1 hcb hb1 hws ⊢
      obtain ⟨l, hl⟩ : ∃ l, l = 1 + max zs[a] zs[b] := ⟨_, rfl⟩
      rw [← hl]
      have HL := Lib.hid hl; clear hl
      have d0 := hat1.cellAt a (by omega)
      have f0 := hat1.frozenAt a
      have f1 := hat1.frozenAt b
      rw [ints_get haz] at d0
      have s1 := hat1.stored a (.int .i64 l)
      rw [ints_set] at s1
      have d1 := s1.1.cellAt b (by omega)
      rw [ints_get (by simpa using hbz)] at d1
      have s2 := s1.1.stored b (.int .i64 l)
      rw [ints_set] at s2
      have o1 := own_setCell hout1 (p := ⟨w.heap.size + 1, a, none⟩) hne (.int .i64 l)
      have o2 := own_setCell o1 (p := ⟨w.heap.size + 1, b, none⟩) hne (.int .i64 l)
      have b1 := (hbx1.far (p := ⟨w.heap.size + 1, a, none⟩) (by simp) (.int .i64 l)).far (p := ⟨w.heap.size + 1, b, none⟩) (by simp) (.int .i64 l)
      have hb2 := (hb1.setCell (p := ⟨w.heap.size + 1, a, none⟩) (by simp) (.int .i64 l)).setCell (p := ⟨w.heap.size + 1, b, none⟩) (by simp) (.int .i64 l)
      obtain ⟨e0, e1⟩ := hcb.two
      obtain ⟨-, e3⟩ := (hcb.far (p := ⟨w.heap.size + 1, a, none⟩) (by simp; omega) (.int .i64 l)).two
      have s2 := s2.1
      clear s1
      have S := Lib.hid (And.intro s2 (And.intro o2 (And.intro b1 hb2))); clear s2 o1 o2 b1 hb2
      go_upto_region 10 with fail
      obtain ⟨s2, o2, b1, hb2⟩ := S.out
      have hws2 : wr.heap.size + 1 = ((wa.setCell ⟨w.heap.size + 1, a, none⟩ (.int .i64 l)).setCell ⟨w.heap.size + 1, b, none⟩ (.int .i64 l)).heap.size := by simpa using hws
      clear S
      generalize (wa.setCell ⟨w.heap.size + 1, a, none⟩ (.int .i64 l)).setCell ⟨w.heap.size + 1, b, none⟩ (.int .i64 l) = wb at s2 o2 b1 hb2 hws2 ⊢
      have S2 := Lib.hid s2; clear s2
      have B1 := Lib.hid b1; clear b1
      go_wp2_with (at_builtin; refine wpList_push _ rfl _ _ 26 rfl w.heap.size 3 i0 _ 1 8 Try.underlying26 hi hz0 hz1 hz2 rfl (by decide) u4 _ _ rfl o2 #[.int .i64 l] rfl rfl (by simp [Value.oneCell']) (by omega) (by unfold maxLen; omega) hb2.size ?_; intro g1 k1 w1 hown1 hg1 hb3 hat3)
      go_roundw
      case rel =>
        refine ⟨k + 1, ys ++ [l], (zs.set a l).set b l, by omega, by go_num, ?_, hb2.trans hb3, B1.out.grown hg1 (fun h => own_blk_ne o2 B1.out (by decide) h.symm), own_kept S2.out hg1 (fun h => hne h.symm), ints_push hown1, ?_⟩
        · rw [HK.out, ← HS.out, CK.out, HL.out]
          simp [layStep, haz, hbz, Int.add_comm]
        · intro h
          simp only [Value.ownBlock, Option.some.injEq] at h
          rcases hat3 with h3 | h3
          · exact hne (by rw [h3, h])
          · omega
      case measure => simp [intOf]; omega
    · go_wp2_with fail
      go_ret
      refine ⟨_, rfl, ?_, hb⟩
      have hk' : cs.take k = cs := List.take_of_length_le (by omega)
      rw [hk'] at HS
      have : ys = layersL n cs := by rw [layersL, ← HS.out]
      rwa [this] at hout
end Go.Proofs.Ytdbclchjinlmgaa
