/- RedundantComparators and PruneNetwork: the program's and the reference's functions. -/
import Derived.Test.YteigceeghnphmaaIdle
import Derived.IntWalk
namespace Go.Proofs.Yteigceeghnphmaa
open Go.RowKit
set_option linter.unusedVariables false
theorem fill_succ {ys : List Bool} {n k : Nat} (hl : ys.length = n) (hk : k < n) (h : ys.take k = List.replicate k true) : (ys.set k true).take (k + 1) = List.replicate (k + 1) true := by
  rw [List.take_succ_eq_append_getElem (by simp [hl, hk]), List.take_set_of_le (Nat.le_refl _), h, List.replicate_succ']
  simp
theorem binI_get {m n i : Nat} (h : i < n) : (ints (binL m n))[i]? = some (.int .i64 (bitI m i)) := by simp [ints, binL, h]
theorem pow_le4 {n : Nat} (h : n ≤ 12) : 2 ^ n ≤ 4096 := Nat.pow_le_pow_right (n := 2) (by omega) h
set_option maxRecDepth 100000 in
set_option maxHeartbeats 3200000 in
theorem redundant_any (n : Nat) (A : Option Addr) (cs : List (Int × Int)) (c : Nat) (w : World) (hx : Reads w w.heap.size 2 A cs.length (cmps cs)) (hok : netOk n cs = true) (hn : n ≤ 12) :
    Calls Try.prog 68 #[.agg #[.int .i64 n, .slice A cs.length c]] w fun e w' => ∃ g, e = .returned (.slice (some ⟨g, 0, none⟩) cs.length cs.length) ∧
      w'.ownsRow w.heap.size 4 1 (.slice (some ⟨g, 0, none⟩) cs.length cs.length) cs.length (bools (rowN cs (2 ^ n) 0)) ∧ Below w.heap.size w w' := by
  have hcl : cs.length ≤ 200 := by simp [netOk] at hok; exact hok.2.1
  have hcs : ∀ c ∈ cs, cmpOk n c = true := by
    simp only [netOk, Bool.and_eq_true, List.all_eq_true] at hok; exact hok.2.2
  have HC := Lib.hid hcs; clear hcs
  obtain ⟨N, hN⟩ : ∃ N, N = 2 ^ n := ⟨_, rfl⟩
  have ew : wrap64 (2 ^ n) = (N : Int) := by rw [hN]; exact wrap_pow n (by omega)
  have hN4 : N ≤ 4096 := by rw [hN]; exact pow_le4 hn
  have HN := Lib.hid hN; clear hN
  have EW := Lib.hid ew; clear ew
  have hm : ((cs.length : Int)).toNat = cs.length := by omega
  obtain ⟨i0, hi, hz0, hz1, hz2⟩ := info_parts (show (Try.prog.info? 4).map (fun i => (i.zero, i.size, i.bytes)) = some (some (.bool false), 1, 1) by kernel_rfl)
  have hz0' : (madeCells (Value.bool false).cells (cs.length * 1)).toList = bools (List.replicate cs.length false) := by
    rw [Nat.mul_one]; simp [bools, Value.cells, toList_madeCells_one]
  have hb0 : Below w.heap.size w (w.alloc (.cells #[.int .i64 n, .slice A cs.length c] 26)) := by go_grown
  have k0 := Blk.new w 26 #[.int .i64 n, .slice A cs.length c]
  obtain ⟨w1, hmk, hown, hgr⟩ := run_make_full (P := Try.prog) (w.alloc (.cells #[.int .i64 n, .slice A cs.length c] 26)) w.heap.size 55 4 i0 (.bool false) 1 Try.underlying55 hi hz0 hz1 .i64 .i64 cs.length (by rw [hz2]; omega) (by unfold maxLen; omega) (by simp)
  have hb1 : Below w.heap.size w w1 := hb0.grown hgr (by simp) (by simp)
  have kb1 : Blk w1 w.heap.size 26 #[.int .i64 n, .slice A cs.length c] := k0.grown hgr (by simp)
  rw [hz0', World.size_alloc] at hown
  rw [World.size_alloc] at hmk
  obtain ⟨x0, x1⟩ := k0.two
  go_enter Try.func68, Try.ntmps68
  go_wp2_with fail
  clear hmk x0 x1
  generalize hgO : w.heap.size + 1 = gO at hown ⊢
  have hgOl : w.heap.size < gO := by omega
  clear hgO
  go_loopw [15] (fun i wr => ∃ (k : Nat) (ys : List Bool), k ≤ cs.length ∧ i = .int .i64 k ∧ ys.length = cs.length ∧ ys.take k = List.replicate k true ∧ Below w.heap.size w wr ∧ Blk wr w.heap.size 26 #[.int .i64 n, .slice A cs.length c] ∧
      wr.ownsRow w.heap.size 4 1 (.slice (some ⟨gO, 0, none⟩) cs.length cs.length) cs.length (bools ys)) (fun i _ => cs.length - (intOf i).toNat)
  case atStart => exact ⟨0, List.replicate cs.length false, by omega, rfl, by simp, by simp, hb1, kb1, hown⟩
  case round =>
    clear hown hb1 kb1 hb0 k0 hgr
    obtain ⟨k, ys, hk, rfl, hly, hpre, hb, hbx, hown⟩ := hrel
    have HP := Lib.hid hpre; clear hpre
    have HL := Lib.hid hly; clear hly
    by_cases hlt : k < cs.length
    · have hc2 := hown.cellAt k (by omega)
      rw [bools_get (by rw [HL.out]; exact hlt)] at hc2
      have hf2 := hown.frozenAt k
      go_wp2_with fail
      go_roundw
      case rel =>
        have hs := hown.stored k (.bool true)
        rw [bools_set] at hs
        exact ⟨k + 1, ys.set k true, by omega, by go_num, by simp [HL.out], fill_succ HL.out hlt HP.out, hb.grown hs.2 hb.size (by simp; omega), hbx.grown hs.2 (by simp; omega), hs.1⟩
      case measure => simp [intOf]; omega
    · have hys : ys = rowN cs 0 0 := by
        have h := HP.out
        rw [List.take_of_length_le (by rw [HL.out]; omega), show k = cs.length from by omega] at h
        rw [h, rowN_zero]
      subst hys
      clear HP HL
      obtain ⟨x0, x1⟩ := hbx.two
      go_wp2_with fail
      clear x0 x1
      go_loopw [25] (fun i wr => ∃ k : Nat, k ≤ N ∧ i = .int .i64 k ∧ Below w.heap.size w wr ∧ Blk wr w.heap.size 26 #[.int .i64 n, .slice A cs.length c] ∧
          wr.ownsRow w.heap.size 4 1 (.slice (some ⟨gO, 0, none⟩) cs.length cs.length) cs.length (bools (rowN cs k 0))) (fun i _ => N - (intOf i).toNat)
      case atStart => exact ⟨0, by omega, rfl, hb, hbx, hown⟩
      case round =>
        clear hb hbx hown hlt hk
        obtain ⟨k, hk, rfl, hb, hbx, hown⟩ := hrel
        by_cases hlt : k < N
        · have hd : (k : Int) < wrap64 (2 ^ n) := by rw [EW.out]; omega
          obtain ⟨x0, x1⟩ := hbx.two
          have xl := hbx.lt
          go_wp2_with fail
          refine (binary_any k n _ (by omega) hn).mono ?_
          rintro e wA ⟨vA, rfl, oA, bA⟩
          have hbA := bthen' hb bA
          have hbxA := hbx.below_ bA
          have hownA := own_below hown bA (Nat.le_refl _)
          have oA' := own_base oA hb.size
          clear hb hbx hown oA
          obtain ⟨G, g, rfl⟩ := own_slice oA'
          obtain ⟨x0, x1⟩ := hbxA.two
          go_wp2_with fail
          clear x0 x1
          go_loopw [35] (fun i wr => ∃ (j M : Nat), j ≤ cs.length ∧ i = .int .i64 j ∧ M = netN (cs.take j) k ∧ Below w.heap.size w wr ∧ Blk wr w.heap.size 26 #[.int .i64 n, .slice A cs.length c] ∧
              wr.ownsRow w.heap.size 4 1 (.slice (some ⟨gO, 0, none⟩) cs.length cs.length) cs.length (bools (rowN cs k j)) ∧ wr.ownsRow w.heap.size 3 1 (.slice G n g) n (ints (binL M n))) (fun i _ => cs.length - (intOf i).toNat)
          case atStart => exact ⟨0, k, by omega, rfl, by simp [netN], hbA, hbxA, hownA, oA'⟩
          case round =>
            clear hbA hbxA hownA oA' bA
            obtain ⟨j, M, hj, rfl, hM, hb, hbx, hown, hlist⟩ := hrel
            have HM := Lib.hid hM; clear hM
            by_cases hlj : j < cs.length
            · have hxb := hx.below hb
              obtain ⟨ad, rfl, had, hc0, hc1⟩ := hxb.cmp hlj
              obtain ⟨hcn, hlo0, hlo1, hhi0, hhi1⟩ := cmpOk_iff' (HC.out cs[j] (List.getElem_mem hlj))
              obtain ⟨a, b, hck⟩ : ∃ a b : Nat, cs[j] = ((a : Int), (b : Int)) := ⟨cs[j].1.toNat, cs[j].2.toNat, by ext <;> simp <;> omega⟩
              have hst := netN_take cs k j hlj
              rw [← HM.out, hck] at hst
              have hex := exch_step cs j k M a b HM.out (by rw [cAt_get hlj, hck])
              rw [hck] at hlo1 hhi1 hc0 hc1 hcn
              simp only [Int.toNat_natCast] at hlo1 hhi1 hst hcn
              have hab : a ≠ b := by omega
              have han : a < n := by omega
              have hbn : b < n := by omega
              have hbin := stepN_bin M a b n han hbn hab
              have HS := Lib.hid hst; clear hst
              have HEX := Lib.hid hex; clear hex
              have HBI := Lib.hid hbin; clear hbin
              clear hck hcn hlo0 hhi0
              obtain ⟨G', rfl, hBG, hGl⟩ := own_at hlist (by omega)
              have hne : G' ≠ gO := fun e => by
                rcases own_ne_type hlist hown (by decide) with h | h
                · simp [Value.ownBlock] at h
                · simp [Value.ownBlock, e] at h
              have hGx : w.heap.size ≠ G' := fun e => own_blk_ne hlist hbx (by decide) (by simp [Value.ownBlock, e])
              have ia : (0 : Int) ≤ (a : Int) := by omega
              have ib : (0 : Int) ≤ (b : Int) := by omega
              have ian : (a : Int) < n := by omega
              have ibn : (b : Int) < n := by omega
              have ij : (0 : Int) ≤ (j : Int) := by omega
              have ijn : (j : Int) < cs.length := by omega
              have had1 : (ad.add (j * 2)).block < wr.heap.size := by rw [block_of_add]; have := hb.size; omega
              have hcb := Blk.new wr 32 #[.int .i64 a, .int .i64 b]
              obtain ⟨e0, e1⟩ := hcb.two
              have hown1 := hown.alloc (.cells #[.int .i64 a, .int .i64 b] 32)
              have hli1 := hlist.alloc (.cells #[.int .i64 a, .int .i64 b] 32)
              have hbx1 := hbx.alloc (.cells #[.int .i64 a, .int .i64 b] 32)
              have hb1 := alloc_ hb (.cells #[.int .i64 a, .int .i64 b] 32)
              have d0 := hli1.cellAt a (by omega)
              have d1 := hli1.cellAt b (by omega)
              rw [binI_get han] at d0
              rw [binI_get hbn] at d1
              have hgO1 := (own_lt hown1 gO rfl).2
              have hGl1 := (own_lt hli1 G' rfl).2
              have hml : wr.heap.size ≠ G' := by have := (own_lt hlist G' rfl).2; omega
              have hmo : wr.heap.size ≠ gO := by have := (own_lt hown gO rfl).2; omega
              have hoc := hown1.cellAt j (by omega)
              rw [bools_get (by rw [rowN_len]; exact hlj)] at hoc
              have hof := hown1.frozenAt j
              go_upto_region 14 with fail
              generalize wr.heap.size = m at e0 e1 hcb hml hmo ⊢
              generalize hwa : wr.alloc (.cells #[.int .i64 a, .int .i64 b] 32) = wa at e0 e1 hcb hown1 hli1 hbx1 hb1 d0 d1 hoc hof hgO1 hGl1 ⊢
              clear hwa
              by_cases hgt : bitI M b < bitI M a
              · have hex1 : exch cs j k = true := by rw [HEX.out]; obtain ⟨h1, h2⟩ := (bitI_lt M a b).1 hgt; simp [h1, h2]
                have hcd : cmpDo (binL M n) ((a : Int), (b : Int)) = ((binL M n).set a (bitI M b)).set b (bitI M a) := by
                  unfold cmpDo
                  simp only [Int.toNat_natCast, binL_at han, binL_at hbn, Option.getD_some]
                  rw [if_pos hgt]
                have HCD := Lib.hid hcd; clear hcd
                have HX1 := Lib.hid hex1; clear hex1
                go_quiet (fail)
                go_upto_region 16 with fail
                clear e0 e1 d0 d1 hoc hof
                have hso := World.ownsRow.stored (w := wa.drewN nq) hown1 j (.bool false)
                rw [bools_set] at hso
                have hls := own_setCell (w := wa.drewN nq) hli1 (p := ⟨gO, j, none⟩) (by simp [Value.ownBlock, hne]) (.bool false)
                have hbxs := Blk.far (hbx1.drewN nq) (p := ⟨gO, j, none⟩) (by simp; omega) (.bool false)
                have hbs := Below.setCell (below_drewN hb1 nq) (p := ⟨gO, j, none⟩) (by simp; omega) (.bool false)
                have hcs := Blk.far (hcb.drewN nq) (p := ⟨gO, j, none⟩) (by simp; omega) (.bool false)
                have s0 := hls.cellAt a (by omega)
                have s1 := hls.cellAt b (by omega)
                rw [binI_get han] at s0
                rw [binI_get hbn] at s1
                have t0 := hls.frozenAt a
                have t1 := hls.frozenAt b
                obtain ⟨y0, y1⟩ := hcs.two
                have hsg := hso.1
                clear hso hown1 hcb hli1 hbx1 hb1
                generalize hwb : (wa.drewN nq).setCell ⟨gO, j, none⟩ (.bool false) = wb at hls hbxs hbs hcs s0 s1 t0 t1 y0 y1 hsg ⊢
                clear hwb
                go_region
                go_wp2_with fail
                go_roundw
                case rel =>
                  have q1 := hls.stored a (.int .i64 (bitI M b))
                  have q2 := q1.1.stored b (.int .i64 (bitI M a))
                  rw [ints_set, ints_set] at q2
                  refine ⟨j + 1, stepN M a b, by omega, by go_num, HS.out.symm, below_drewN ((hbs.setCell (p := ⟨G', a, none⟩) hBG _).setCell (p := ⟨G', b, none⟩) hBG _) 1, ?_, ?_, ?_⟩
                  · exact Blk.drewN ((hbxs.far (p := ⟨G', a, none⟩) (by simp; omega) _).far (p := ⟨G', b, none⟩) (by simp; omega) _) 1
                  · rw [← rowN_next cs k j hlj HX1.out]
                    exact own_setCell (own_setCell hsg (p := ⟨G', a, none⟩) (by simp [Value.ownBlock]; omega) _) (p := ⟨G', b, none⟩) (by simp [Value.ownBlock]; omega) _
                  · rw [HBI.out, HCD.out]; exact q2.1
                case measure => simp [intOf]; omega
              · have hex1 : exch cs j k = false := by
                  rw [HEX.out]
                  cases h1 : M.testBit a <;> cases h2 : M.testBit b <;> simp
                  exact hgt ((bitI_lt M a b).2 ⟨h1, h2⟩)
                have hcd : cmpDo (binL M n) ((a : Int), (b : Int)) = binL M n := by
                  unfold cmpDo
                  simp only [Int.toNat_natCast, binL_at han, binL_at hbn, Option.getD_some]
                  rw [if_neg hgt]
                have HCD := Lib.hid hcd; clear hcd
                have HX1 := Lib.hid hex1; clear hex1
                go_quiet (fail)
                go_wp2_with fail
                go_roundw
                case rel =>
                  refine ⟨j + 1, stepN M a b, by omega, by go_num, HS.out.symm, below_drewN hb1 _, Blk.drewN hbx1 _, ?_, ?_⟩
                  · rw [← rowN_same cs k j HX1.out]; exact hown1
                  · rw [HBI.out, HCD.out]; exact hli1
                case measure => simp [intOf]; omega
            · have hMe : netN cs k = M := by rw [HM.out, List.take_of_length_le (by omega)]
              have hje : j = cs.length := by omega
              rw [hje, rowN_wrap] at hown
              clear hMe hje
              go_wp2_with fail
              go_roundw
              case rel => exact ⟨k + 1, by omega, by go_num, hb, hbx, hown⟩
              case measure => simp [intOf]; omega
        · have hd : ¬ (k : Int) < wrap64 (2 ^ n) := by rw [EW.out]; omega
          obtain rfl : k = N := by omega
          go_wp2_with fail
          go_ret
          rw [HN.out] at hown
          exact ⟨gO, rfl, hown, hb⟩
end Go.Proofs.Yteigceeghnphmaa
