/- The walk of the law on oblivious sorting. -/
import Derived.Test.YtphcfjdhichfkaaZero
import Derived.Test.YtphcfjdhichfkaaOSort
import Derived.Test.YtphcfjdhichfkaaVC
import Derived.Test.YtphcfjdhichfkaaROrd
import Derived.Deep.DeepCutAuto
namespace Go.Proofs.Ytphcfjdhichfkaa
open Go.RowKit
set_option linter.unusedVariables false
theorem vl64 {zs : List Int} (h : vList zs = true) : zs.length ≤ 64 := by simp [vList] at h; exact h.1
theorem cmpDo_no (st : List Int) (a b : Nat) (h : ¬ st[b]?.getD 0 < st[a]?.getD 0) : cmpDo st ((a : Int), (b : Int)) = st := by
  unfold cmpDo
  rw [if_neg (by simpa using h)]
theorem cmpDo_yes (st : List Int) (a b : Nat) (h : st[b]?.getD 0 < st[a]?.getD 0) : cmpDo st ((a : Int), (b : Int)) = (st.set a (st[b]?.getD 0)).set b (st[a]?.getD 0) := by
  unfold cmpDo
  rw [if_pos (by simpa using h)]
  rfl
theorem osT_law (zs : List Int) (hv : vList zs = true) : netRun (osT zs) zs = osV zs ∧ (∀ c ∈ osT zs, 0 ≤ c.1 ∧ c.1 < c.2 ∧ c.2 < (zs.length : Int)) := by
  have h64 : zs.length ≤ 64 := vl64 hv
  rw [osT, if_pos hv, osV, if_pos hv]
  exact ⟨oddEven_sorts zs h64, fun c hc => (oddEven_mem _ c hc).2.2⟩
set_option maxRecDepth 100000 in
set_option maxHeartbeats 6400000 in
theorem FnObliviousSort_any (A : Option Addr) (bs : List Nat) (c : Nat) (w : World) (hr : Reads w w.heap.size 1 A bs.length (byts bs)) (hm : bs.length ≤ maxLen) (hbb : ∀ b ∈ bs, b ≤ 255) :
    Calls Try.prog 6 #[.slice A bs.length c] w fun e w' => e = .returned (.bool true) ∧ Below w.heap.size w w' := by
  have HVB := Lib.hid (fun w => vBig_any A bs.length c w hm)
  by_cases hbig : 65536 < bs.length
  case pos =>
    have HB := Lib.hid (show decide (65536 < bs.length) = true by simpa using hbig)
    clear hbig
    go_enter Try.func6, Try.ntmps6
    go_wp2_with (go_at_call 9; refine (HVB.out _).mono ?_; rintro e w' ⟨rfl, rfl⟩; rw [HB.out])
    go_ret
    exact ⟨rfl, Below.refl _ _⟩
  have hsm : bs.length ≤ 65536 := by omega
  have HB := Lib.hid (show decide (65536 < bs.length) = false by simpa using hbig)
  clear hbig
  obtain ⟨i0, hi, hz0, hz1, hz2⟩ := info_parts (show (Try.prog.info? 3).map (fun i => (i.zero, i.size, i.bytes)) = some (some (.int .i64 0), 1, 8) by kernel_rfl)
  have HVL := Lib.hid (vList_any A bs c w hr hbb hsm)
  have HR := Lib.hid hr; have HBY := Lib.hid hbb
  clear hr hbb
  go_enter Try.func6, Try.ntmps6
  go_wp2_with (go_at_call 9; refine (HVB.out _).mono ?_; rintro e w' ⟨rfl, rfl⟩; rw [HB.out])
  refine HVL.out.mono ?_
  rintro e w1 ⟨v, zs, rfl, oZ, hv, hb1⟩
  obtain ⟨AZ, CZ, rfl⟩ := own_slice oZ
  have h64 := vl64 hv
  have HV := Lib.hid hv; clear hv
  go_wp2_with fail
  refine (ObliviousSort_any AZ zs CZ _ (Reads.of_own oZ) (by omega)).mono ?_
  rintro e w2 ⟨A1, c1, A2, c2, rfl, oS, oT, b2⟩
  have oZ2 := own_below oZ b2 (Nat.le_refl _)
  have hB2 := hb1.trans (b2.mono hb1.size)
  clear oZ hb1 b2
  rw [HV.out]
  have HO := Lib.hid (vOrdered_any AZ zs CZ _ (Reads.of_own oZ2) (by omega))
  go_wp2_with fail
  refine HO.out.mono ?_
  rintro e w3 ⟨u3, rfl, o3, b3⟩
  obtain ⟨A3, c3, rfl⟩ := own_slice o3
  have oZ3 := own_below oZ2 b3 (Nat.le_refl _)
  have oS3 := own_below oS b3 (Nat.le_refl _)
  have oT3 := own_below oT b3 (Nat.le_refl _)
  have hB3 := hB2.trans (b3.mono hB2.size)
  clear oZ2 oS oT hB2 b3 HO
  have eV : osV zs = srt zs := by rw [osV, if_pos HV.out]
  have hVl : (osV zs).length = zs.length := by rw [eV, srt_len]
  have hT : (osT zs).length ≤ 4096 := (os_len zs).2
  obtain ⟨law1, law2⟩ := osT_law zs HV.out
  have HLAW := Lib.hid law1
  have HTM := Lib.hid law2
  have HET := Lib.hid (show osT zs = oddEvenL zs.length by rw [osT, if_pos HV.out])
  rw [← eV] at o3
  have o3' : w3.ownsRow w2.heap.size 3 1 (.slice A3 zs.length c3) zs.length (ints (osV zs)) := o3
  clear o3 law1 law2
  have HVI := Lib.hid (vInts_any A1 A3 (osV zs) (osV zs) c1 c3 w3 (Reads.of_own oS3) (by rw [hVl]; exact Reads.of_own o3') (by omega) (by omega))
  rw [hVl] at HVI oS3
  clear eV o3'
  generalize osV zs = V at *
  generalize osT zs = T at *
  go_wp2_with fail
  refine HVI.out.mono ?_
  rintro e w4 ⟨rfl, n4, rfl⟩
  simp only [decide_true]
  have oZ4 : (w3.drewN n4).ownsRow w.heap.size 3 1 (.slice AZ zs.length CZ) zs.length (ints zs) := oZ3
  have oS4 : (w3.drewN n4).ownsRow w1.heap.size 3 1 (.slice A1 zs.length c1) zs.length (ints V) := oS3
  have oT4 : (w3.drewN n4).ownsRow w1.heap.size 37 2 (.slice A2 T.length c2) T.length (cmps T) := oT3
  have hB4 := below_drewN hB3 n4
  clear oZ3 oS3 oT3 hB3 HVI
  generalize w3.drewN n4 = w5 at *
  have oM := made_at (w := w5) (base := w5.heap.size) (g := w5.heap.size) (size := 1) (e := 3) (Nat.le_refl _) rfl
  have oZ5 := oZ4.alloc (.cells #[] 3)
  go_wp2_with (at_builtin; refine wpList_append_any _ rfl _ _ 24 rfl w5.heap.size 3 i0 _ 1 8 Try.underlying24 hi hz0 hz1 hz2 rfl (by decide) (.slice (some ⟨w5.heap.size, 0, none⟩) 0 0) _ _ rfl oM (w5.heap.size + 1) AZ zs.length CZ (ints zs) rfl ((Reads.of_own oZ5).more (by simp)) (by intro u hu; simp [ints] at hu; obtain ⟨z, _, rfl⟩ := hu; rfl) (by unfold maxLen; omega) (by omega) (by simp) ?_; intro v7 w7 o7 gr7 at7)
  have bl7 : Below w5.heap.size w5 w7 := (alloc_ (Below.refl w5.heap.size w5) (.cells #[] 3)).grown gr7 (by simp) (by simp [Value.ownBlock])
  simp only [Nat.zero_add, List.nil_append] at o7
  clear oZ5 oM gr7 at7
  obtain ⟨A7, c7, rfl⟩ := own_slice o7
  go_loopw [8] (fun vi wr => ∃ (k : Nat) (st : List Int), k ≤ T.length ∧ vi = .int .i64 (k : Nat) ∧ Hid (st = netRun (T.take k) zs) ∧ Hid (st.length = zs.length) ∧ wr.ownsRow w5.heap.size 3 1 (.slice A7 zs.length c7) zs.length (ints st) ∧ Below w5.heap.size w5 wr) (fun vi _ => T.length - (intOf vi).toNat)
  case atStart => exact ⟨0, zs, by omega, rfl, Lib.hid rfl, Lib.hid rfl, o7, bl7⟩
  case round =>
    clear o7 bl7
    obtain ⟨k, st, hk, rfl, HS, HL, oN, hb⟩ := hrel
    have oTr := own_below oT4 hb (Nat.le_refl _)
    by_cases hlt : k < T.length
    · have kI : (k : Int) < T.length := by omega
      obtain ⟨ad, eT, had, hc0, hc1⟩ := (Reads.of_own oTr).cmp hlt
      cases eT
      have hmem := HTM.out T[k] (List.getElem_mem hlt)
      have HFS := Lib.hid (show netRun (T.take (k + 1)) zs = cmpDo st T[k] by rw [netRun_take T zs k hlt, HS.out])
      obtain ⟨a, b, hab⟩ : ∃ a b : Nat, T[k] = ((a : Int), (b : Int)) := ⟨T[k].1.toNat, T[k].2.toNat, by ext <;> simp <;> omega⟩
      rw [hab] at hc0 hc1 hmem
      simp only at hc0 hc1 hmem
      have HAB := Lib.hid hab
      clear hab oTr
      have n1 : ¬ (a : Int) < 0 := by omega
      have n2 : ¬ (b : Int) ≥ zs.length := by omega
      have n2' : ¬ (zs.length : Int) ≤ b := by omega
      have n3 : ¬ (a : Int) ≥ b := by omega
      have n3' : ¬ (b : Int) ≤ a := by omega
      go_upto_region 11 with fail
      go_quiet (fail)
      go_upto_region 14 with fail
      have hbq := below_drewN hb nq
      have oNq : (wr.drewN nq).ownsRow w5.heap.size 3 1 (.slice A7 zs.length c7) zs.length (ints st) := oN
      clear hb hc0 hc1 n1 n2 n2' n3 n3' oN
      generalize wr.drewN nq = wq at *
      obtain ⟨g7, c7', e7, hg7, -, -⟩ := own_some oNq (by omega)
      cases e7
      have bI : (b : Int) < zs.length := by omega
      have aI : (a : Int) < zs.length := by omega
      have cB := oNq.cellAt b (by omega)
      have cA := oNq.cellAt a (by omega)
      have fB := oNq.frozenAt b
      have fA := oNq.frozenAt a
      have hbl : b < st.length := by rw [HL.out]; omega
      have hal : a < st.length := by rw [HL.out]; omega
      rw [ints_get hbl] at cB
      rw [ints_get hal] at cA
      obtain ⟨y, hy⟩ : ∃ y, st[b] = y := ⟨_, rfl⟩
      obtain ⟨x, hx⟩ : ∃ x, st[a] = x := ⟨_, rfl⟩
      rw [hy] at cB
      rw [hx] at cA
      have HNO := Lib.hid (cmpDo_no st a b)
      have HYES := Lib.hid (cmpDo_yes st a b)
      rw [List.getElem?_eq_getElem hbl, List.getElem?_eq_getElem hal, hy, hx] at HNO HYES
      simp only [Option.getD_some] at HNO HYES
      have HBL := Lib.hid hbl; have HAL := Lib.hid hal
      clear hy hx hbl hal
      have hab2 : a ≠ b := by omega
      by_cases hyx : y < x
      · have HS3 := Lib.hid (show (st.set a y).set b x = netRun (T.take (k + 1)) zs by rw [HFS.out, HAB.out, HYES.out hyx])
        have HL3 : Hid (((st.set a y).set b x).length = zs.length) := Lib.hid (by simp [HL.out])
        go_quiet (fail)
        have hbp := below_drewN hbq nq
        have oNp : (wq.drewN nq).ownsRow w5.heap.size 3 1 (.slice (some ⟨g7, 0, none⟩) zs.length c7) zs.length (ints st) := oNq
        have cBp : (wq.drewN nq).cell? ⟨g7, b, none⟩ = some (.int .i64 y) := cB
        have cAp : (wq.drewN nq).cell? ⟨g7, a, none⟩ = some (.int .i64 x) := cA
        have fBp := oNp.frozenAt b
        have fAp := oNp.frozenAt a
        clear cA cB fA fB oNq hbq
        generalize wq.drewN nq = wp at *
        have s1 := oNp.stored a (.int .i64 y)
        have s2 := s1.1.stored b (.int .i64 x)
        have hset : ((ints st).set a (.int .i64 y)).set b (.int .i64 x) = ints ((st.set a y).set b x) := by simp [ints, List.map_set]
        rw [hset] at s2
        have HS2 := Lib.hid s2.1
        have HB6 := Lib.hid ((hbp.setCell (p := ⟨g7, a, none⟩) hg7 (.int .i64 y)).setCell (p := ⟨g7, b, none⟩) hg7 (.int .i64 x))
        clear s1 s2 hset oNp hbp
        go_wp2_with fail
        go_roundw
        case rel => exact ⟨k + 1, _, by omega, by go_num, HS3, HL3, HS2.out, HB6.out⟩
        case measure => simp [intOf]; omega
      · have HS3 := Lib.hid (show st = netRun (T.take (k + 1)) zs by rw [HFS.out, HAB.out, HNO.out hyx])
        go_quiet (fail)
        go_wp2_with fail
        go_roundw
        case rel => exact ⟨k + 1, st, by omega, by go_num, HS3, HL, oNq, below_drewN hbq _⟩
        case measure => simp [intOf]; omega
    · obtain rfl : k = T.length := by omega
      have kI : ¬ (T.length : Int) < (T.length : Int) := by omega
      have hend : st = V := by rw [HS.out, List.take_of_length_le (Nat.le_refl _)]; exact HLAW.out
      have HEND := Lib.hid hend
      clear hend
      have hBr := hB4.trans (hb.mono hB4.size)
      have HRO := Lib.hid (rOrder_any A bs c zs.length wr ((HR.out.below hBr).more hBr.size) HBY.out hsm h64)
      go_wp2_with fail
      refine HRO.out.mono ?_
      rintro e w8 ⟨v8, ys, rfl, oY, hp, b8⟩
      have hyl : ys.length = zs.length := by have := hp.length_eq; simpa using this
      have hyv : vList ys = true := by
        simp only [vList, Bool.and_eq_true, decide_eq_true_eq, List.all_eq_true]
        refine ⟨by omega, fun z hz => ?_⟩
        have := hp.mem_iff.1 hz
        simp at this
        obtain ⟨i, hi, rfl⟩ := this
        exact inB_iff.2 (by omega)
      obtain ⟨AY, CY, rfl⟩ := own_slice oY
      have hO9 := ObliviousSort_any AY ys CY w8 (by rw [hyl]; exact Reads.of_own oY) (by omega)
      have eT : osT ys = T := by rw [osT, if_pos hyv, hyl]; exact HET.out.symm
      rw [eT, hyv, hyl] at hO9
      have HO9 := Lib.hid hO9
      have oN8 := own_below oN b8 (Nat.le_refl _)
      have oS8 := own_below (own_below oS4 hb (Nat.le_refl _)) b8 (Nat.le_refl _)
      have oT8 := own_below (own_below oT4 hb (Nat.le_refl _)) b8 (Nat.le_refl _)
      have hB8 := hBr.trans (b8.mono hBr.size)
      clear hO9 hyv eT oY hp b8 hBr hb oN hyl
      go_wp2_with fail
      refine HO9.out.mono ?_
      rintro e w9 ⟨A10, c10, A11, c11, rfl, -, o11, b9⟩
      have oN9 := own_below oN8 b9 (Nat.le_refl _)
      have oS9 := own_below oS8 b9 (Nat.le_refl _)
      have oT9 := own_below oT8 b9 (Nat.le_refl _)
      have hB9 := hB8.trans (b9.mono hB8.size)
      clear oN8 oS8 oT8 hB8 b9
      have hv1 := vInts_any A7 A1 st V c7 c1 w9 (by rw [HL.out]; exact Reads.of_own oN9) (by rw [hVl]; exact Reads.of_own oS9) (by rw [HL.out]; omega) (by omega)
      rw [HL.out, hVl, decide_eq_true HEND.out] at hv1
      have HV1 := Lib.hid hv1
      clear hv1
      go_wp2_with fail
      refine HV1.out.mono ?_
      rintro e w10 ⟨rfl, n10, rfl⟩
      have HT1 := Lib.hid (rTrace_any A2 A11 T T c2 c11 (w9.drewN n10) (by exact Reads.of_own oT9) (by exact Reads.of_own o11) (by omega) (by omega))
      have hB10 := below_drewN hB9 n10
      clear oN9 oS9 hB9
      generalize w9.drewN n10 = w10 at *
      go_wp2_with fail
      refine HT1.out.mono ?_
      rintro e w11 ⟨rfl, n11, rfl⟩
      simp only [decide_true]
      go_wp2_with fail
      go_ret
      exact ⟨rfl, below_drewN hB10 n11⟩
end Go.Proofs.Ytphcfjdhichfkaa
