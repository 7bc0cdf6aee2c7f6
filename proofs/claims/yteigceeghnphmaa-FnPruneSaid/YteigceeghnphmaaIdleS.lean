/- The reference's list of idle comparators. -/
import Derived.Test.YteigceeghnphmaaRedund
namespace Go.Proofs.Yteigceeghnphmaa
open Go.RowKit
set_option linter.unusedVariables false
set_option maxRecDepth 100000 in
set_option maxHeartbeats 3200000 in
theorem l12Idle_any (n : Nat) (A : Option Addr) (cs : List (Int × Int)) (c : Nat) (w : World) (hx : Reads w w.heap.size 2 A cs.length (cmps cs)) (hok : netOk n cs = true) (hn : n ≤ 12) :
    Calls Try.prog 69 #[.agg #[.int .i64 n, .slice A cs.length c]] w fun e w' => ∃ v, e = .returned v ∧
      w'.ownsRow w.heap.size 3 1 v (idleT cs (2 ^ n) cs.length).length (ints (idleT cs (2 ^ n) cs.length)) ∧ Below w.heap.size w w' := by
  have hcl : cs.length ≤ 200 := by simp [netOk] at hok; exact hok.2.1
  have hcs : ∀ c ∈ cs, cmpOk n c = true := by
    simp only [netOk, Bool.and_eq_true, List.all_eq_true] at hok; exact hok.2.2
  have HC := Lib.hid hcs; clear hcs
  obtain ⟨N, hN⟩ : ∃ N, N = 2 ^ n := ⟨_, rfl⟩
  have ew : wrap64 (2 ^ n) = (N : Int) := by rw [hN]; exact wrap_pow n (by omega)
  have hN4 : N ≤ 4096 := by rw [hN]; exact pow_le4 hn
  have HN := Lib.hid hN; clear hN
  have EW := Lib.hid ew; clear ew
  have hm : ((cs.length : Int)).toNat = cs.length := by omega
  obtain ⟨i0, hi, hz0, hz1, hz2⟩ := info_parts (show (Try.prog.info? 4).map (fun i => (i.zero, i.size, i.bytes)) = some (some (.bool false), 1, 1) by kernel_rfl)
  obtain ⟨j0, hj, hy0, hy1, hy2⟩ := info_parts (show (Try.prog.info? 3).map (fun i => (i.zero, i.size, i.bytes)) = some (some (.int .i64 0), 1, 8) by kernel_rfl)
  have hz0' : (madeCells (Value.bool false).cells (cs.length * 1)).toList = bools (List.replicate cs.length false) := by
    rw [Nat.mul_one]; simp [bools, Value.cells, toList_madeCells_one]
  have hb0 : Below w.heap.size w (w.alloc (.cells #[.int .i64 n, .slice A cs.length c] 26)) := by go_grown
  have k0 := Blk.new w 26 #[.int .i64 n, .slice A cs.length c]
  obtain ⟨w1, hmk, hown, hgr⟩ := run_make_full (P := Try.prog) (w.alloc (.cells #[.int .i64 n, .slice A cs.length c] 26)) w.heap.size 55 4 i0 (.bool false) 1 Try.underlying55 hi hz0 hz1 .i64 .i64 cs.length (by rw [hz2]; omega) (by unfold maxLen; omega) (by simp)
  have hb1 : Below w.heap.size w w1 := hb0.grown hgr (by simp) (by simp)
  have kb1 : Blk w1 w.heap.size 26 #[.int .i64 n, .slice A cs.length c] := k0.grown hgr (by simp)
  rw [hz0', World.size_alloc, ← rowU_zero] at hown
  rw [World.size_alloc] at hmk
  obtain ⟨x0, x1⟩ := k0.two
  go_enter Try.func69, Try.ntmps69
  go_wp2_with fail
  clear hmk x0 x1 hz0'
  generalize hgO : w.heap.size + 1 = gO at hown ⊢
  have hgOl : w.heap.size < gO := by omega
  clear hgO
  go_loopw [4] (fun i wr => ∃ k : Nat, k ≤ N ∧ i = .int .i64 k ∧ Below w.heap.size w wr ∧ Blk wr w.heap.size 26 #[.int .i64 n, .slice A cs.length c] ∧
      wr.ownsRow w.heap.size 4 1 (.slice (some ⟨gO, 0, none⟩) cs.length cs.length) cs.length (bools (rowU cs k 0))) (fun i _ => N - (intOf i).toNat)
  case atStart => exact ⟨0, by omega, rfl, hb1, kb1, hown⟩
  case round =>
    clear hown hb1 kb1 hb0 k0 hgr
    obtain ⟨k, hk, rfl, hb, hbx, hown⟩ := hrel
    obtain ⟨x0, x1⟩ := hbx.two
    have xl := hbx.lt
    by_cases hlt : k < N
    · have hd : (k : Int) < wrap64 (2 ^ n) := by rw [EW.out]; omega
      obtain ⟨wo, rfl⟩ : ∃ wo : World, wo = wr := ⟨_, rfl⟩
      go_wp2_with fail
      clear x0 x1
      go_loopw [5, 6] (fun m j wr => ∃ (q M : Nat), q ≤ cs.length ∧ j = .int .i64 q ∧ m = .int .i64 M ∧ M = netN (cs.take q) k ∧ Below w.heap.size w wr ∧ Blk wr w.heap.size 26 #[.int .i64 n, .slice A cs.length c] ∧
          wr.ownsRow w.heap.size 4 1 (.slice (some ⟨gO, 0, none⟩) cs.length cs.length) cs.length (bools (rowU cs k q))) (fun _ j _ => cs.length - (intOf j).toNat)
      case atStart => exact ⟨0, k, by omega, rfl, rfl, by simp [netN], hb, hbx, hown⟩
      case round =>
        clear hb hbx hown xl
        obtain ⟨q, M, hq, rfl, rfl, hM, hb, hbx, hown⟩ := hrel
        have hMl : M < 2 ^ n := by
          rw [hM]; exact netN_lt (by rw [← HN.out]; exact hlt) (fun c hc => HC.out c (List.mem_of_mem_take hc))
        have hM4 : M < 4096 := by rw [← HN.out] at hMl; omega
        have HM := Lib.hid hM; clear hM hMl
        obtain ⟨x0, x1⟩ := hbx.two
        have xl := hbx.lt
        by_cases hlq : q < cs.length
        · obtain ⟨ad, rfl, had, hc0, hc1⟩ := (hx.below hb).cmp hlq
          obtain ⟨hcn, hlo0, hlo1, hhi0, hhi1⟩ := cmpOk_iff' (HC.out cs[q] (List.getElem_mem hlq))
          obtain ⟨a, b, hck⟩ : ∃ a b : Nat, cs[q] = ((a : Int), (b : Int)) := ⟨cs[q].1.toNat, cs[q].2.toNat, by ext <;> simp <;> omega⟩
          have hst := netN_take cs k q hlq
          rw [← HM.out, hck] at hst
          have hex := exch_step cs q k M a b HM.out (by rw [cAt_get hlq, hck])
          rw [hck] at hlo1 hhi1 hc0 hc1 hcn
          simp only [Int.toNat_natCast] at hlo1 hhi1 hst hcn
          have hne := step_ne (M := M) (a := a) (b := b) (by omega)
          rw [← hex] at hne
          have hnxt := rowU_next cs k q hlq
          have HX := Lib.hid hnxt; clear hnxt
          have HS := Lib.hid hst; clear hst
          have hneI : ((stepN M a b : Int) != (M : Int)) = exch cs q k := by
            rw [← hne, Bool.eq_iff_iff]; simp; omega
          clear hck hcn hlo0 hhi0 hex hne
          have i0' : (0 : Int) ≤ (q : Int) := by omega
          have i1' : (q : Int) < cs.length := by omega
          cases hxx : exch cs q k <;> cases huu : usedB cs k q
          all_goals
            rw [hxx] at hneI
            rw [usedJ_at, hxx, huu] at HX
            have HXX := HX
            clear HX
            go_wp2_with fail
            refine (l12Step_any M a b _ hM4 (by omega) (by omega)).mono ?_
            rintro e w1 ⟨rfl, hb1⟩
            have hown1 := own_below hown hb1 (Nat.le_refl _)
            have oc := hown1.cellAt q (by omega)
            rw [bools_get (by simpa using hlq), rowU_get, usedJ_at, huu] at oc
            have of := hown1.frozenAt q
            have hs := hown1.stored q (.bool (false || false))
            have ht := hown1.stored q (.bool true)
            rw [bools_set] at hs ht
            have HSS := Lib.hid hs; clear hs
            have HTT := Lib.hid ht; clear ht
            have hbn1 := bthen' hb hb1
            have hbx1 := hbx.below_ hb1
            have hgl := (own_lt hown1 gO rfl).2
            clear hxx huu
            go_wp2_with fail
            go_roundw
            case rel => first
              | exact ⟨q + 1, stepN M a b, by omega, by go_num, rfl, HS.out.symm, hbn1.grown HSS.out.2 hbn1.size (by simp; omega), hbx1.grown HSS.out.2 (by simp; omega), by rw [← HXX.out]; exact HSS.out.1⟩
              | exact ⟨q + 1, stepN M a b, by omega, by go_num, rfl, HS.out.symm, hbn1.grown HTT.out.2 hbn1.size (by simp; omega), hbx1.grown HTT.out.2 (by simp; omega), by rw [← HXX.out]; exact HTT.out.1⟩
            case measure => simp [intOf]; omega
        · rw [show q = cs.length from by omega, rowU_wrap] at hown
          clear HM
          go_wp2_with fail
          go_roundw
          case rel => exact ⟨k + 1, by omega, by go_num, hb, hbx, hown⟩
          case measure => simp [intOf]; omega
    · have hd : ¬ (k : Int) < wrap64 (2 ^ n) := by rw [EW.out]; omega
      obtain rfl : k = N := by omega
      rw [HN.out] at hown
      have ho1 := World.ownsRow_made (base := w.heap.size) (size := 1) (e := 3) wr #[] 0 hb.size (by simp) (by simp)
      have hrow := hown.alloc (.cells #[] 3)
      have hb2 := alloc_ hb (.cells #[] 3)
      go_wp2_with fail
      clear x0 x1 hd hown
      go_loopw [8, 9] (fun o i wr => ∃ (k : Nat) (ys : List Int), k ≤ cs.length ∧ i = .int .i64 k ∧ ys = idleT cs (2 ^ n) k ∧ Below w.heap.size w wr ∧ wr.ownsRow w.heap.size 3 1 o ys.length (ints ys) ∧
          wr.ownsRow w.heap.size 4 1 (.slice (some ⟨gO, 0, none⟩) cs.length cs.length) cs.length (bools (rowU cs (2 ^ n) 0))) (fun _ i _ => cs.length - (intOf i).toNat)
      case atStart => exact ⟨0, [], by omega, rfl, by simp [idleT], hb2, ho1, hrow⟩
      case round =>
        clear ho1 hrow hb2 hb hbx xl
        obtain ⟨k, ys, hk, rfl, hys, hb, hown, hrow⟩ := hrel
        have hyl : ys.length ≤ k := by rw [hys]; exact idleT_len _ _ _
        have HY := Lib.hid hys; clear hys
        by_cases hlt : k < cs.length
        · have hc := hrow.cellAt k (by omega)
          have hst := idleT_succ cs (2 ^ n) k
          rw [← HY.out] at hst
          have hrk : (bools (rowU cs (2 ^ n) 0))[k]? = some (.bool (usedB cs (2 ^ n) k)) := by
            rw [bools_get (by simpa using hlt), rowU_get, usedJ_zero]
          rw [hrk] at hc
          clear hrk
          cases hu : usedB cs (2 ^ n) k
          · rw [hu] at hst hc
            simp only [Bool.false_eq_true, if_false] at hst
            have HS := Lib.hid hst; clear hst
            clear hu
            go_wp2_with (at_builtin; refine wpList_push _ rfl _ _ 33 rfl w.heap.size 3 j0 _ 1 8 Try.underlying33 hj hy0 hy1 hy2 rfl (by decide) u8 _ _ rfl hown #[.int .i64 k] rfl rfl (by simp [Value.oneCell']) (by omega) (by unfold maxLen; omega) hb.size ?_; intro g1 k1 w2 hown1 hg1 hb3 hat3)
            go_roundw
            case rel =>
              refine ⟨k + 1, ys ++ [(k : Int)], by omega, by go_num, HS.out.symm, hb.trans hb3, by simpa [ints] using hown1, ?_⟩
              exact World.ownsRow.kept hrow hg1 (own_ne_type hrow hown (by decide))
            case measure => simp [intOf]; omega
          · rw [hu] at hst hc
            simp only [if_true, List.append_nil] at hst
            have HS := Lib.hid hst; clear hst
            clear hu
            go_wp2_with fail
            go_roundw
            case rel => exact ⟨k + 1, ys, by omega, by go_num, HS.out.symm, hb, hown, hrow⟩
            case measure => simp [intOf]; omega
        · have hks : k = cs.length := by omega
          rw [HY.out, hks] at hown
          clear hks HY hyl
          go_wp2_with fail
          go_ret
          exact ⟨_, rfl, hown, hb⟩
end Go.Proofs.Yteigceeghnphmaa
