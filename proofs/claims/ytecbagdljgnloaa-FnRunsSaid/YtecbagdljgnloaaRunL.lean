/- The walk of the law on the runs of every method. -/
import Derived.Test.YtecbagdljgnloaaSelL
namespace Go.Proofs.Ytecbagdljgnloaa
open Go.RowKit
set_option linter.unusedVariables false
theorem ar_le (zs : List Int) : (arV zs).length + ((arV zs).map List.length).sum ≤ 128 := by have := ar_len zs; omega
/-- what a round of the law's loop takes -/
def Take3 (w : World) (zs : List Int) (R : List (List Int)) (g k : Nat) : Prop := ∃ (As : Option Addr) (n c : Nat) (Z : List (List Int)), w.cell? ⟨g, k, none⟩ = some (.slice As n c) ∧ Z.length = n ∧ n ≤ 64 ∧ Hid (ReadsRR w w.heap.size As Z) ∧ Hid (Parts zs Z) ∧ Hid ((Z.map List.length).sum ≤ 64) ∧ Hid (k = 0 → Z = R)
theorem rSumR_any (A : Option Addr) (zs : List Int) (n c : Nat) (w : World) (hn : zs.length = n) (hx : Reads w w.heap.size 1 A n (ints zs)) (hl : n ≤ 1048576) :
    Calls Try.prog 23 #[.slice A n c] w fun e w' => e = .returned (.int .i64 (sumW zs)) ∧ w = w' := by
  subst hn
  go_enter Try.func23, Try.ntmps23
  go_wp2_with fail
  go_loop [3, 4] (fun t i => ∃ k : Nat, k ≤ zs.length ∧ i = .int .i64 k ∧ t = .int .i64 (sumW (zs.take k))) (fun _ i => zs.length - (intOf i).toNat)
  case atStart => exact ⟨0, by omega, rfl, rfl⟩
  case round =>
    obtain ⟨k, hk, rfl, rfl⟩ := hrel
    by_cases hlt : k < zs.length
    · obtain ⟨ad, rfl, -, hc⟩ := hx.int hlt
      go_wp2_with fail
      go_round
      case rel => exact ⟨k + 1, by omega, by go_num, by rw [sumW_succ hlt]⟩
      case measure => simp [intOf]; omega
    · go_wp2_with fail
      go_ret
      exact ⟨reti (by rw [List.take_of_length_le (by omega)]), rfl⟩
set_option maxRecDepth 100000 in
set_option maxHeartbeats 3200000 in
theorem FnRuns_any (A : Option Addr) (bs : List Nat) (c : Nat) (w : World) (hr : Reads w w.heap.size 1 A bs.length (byts bs)) (hm : bs.length ≤ maxLen) (hbb : ∀ b ∈ bs, b ≤ 255) :
    Calls Try.prog 5 #[.slice A bs.length c] w fun e w' => e = .returned (.bool true) ∧ Below w.heap.size w w' := by
  have e3 : ∀ x : Int, (x != x) = false := by simp
  have HVB := Lib.hid (fun w => vBig_any A bs.length c w hm)
  by_cases hbig : 65536 < bs.length
  case pos =>
    have HB := Lib.hid (show decide (65536 < bs.length) = true by simpa using hbig)
    clear hbig
    go_enter Try.func5, Try.ntmps5
    go_wp2_with (go_at_call 18; refine (HVB.out _).mono ?_; rintro e w' ⟨rfl, rfl⟩; rw [HB.out])
    go_ret
    exact ⟨rfl, Below.refl _ _⟩
  have hsm : bs.length ≤ 65536 := by omega
  have HB := Lib.hid (show decide (65536 < bs.length) = false by simpa using hbig)
  clear hbig
  have HD := Lib.hid (vList_any A bs c w hr hbb hsm)
  have HX := Lib.hid hr
  have HBB := Lib.hid hbb
  have HSM := Lib.hid hsm
  clear hr hbb hsm
  go_enter Try.func5, Try.ntmps5
  go_wp2_with (go_at_call 18; refine (HVB.out _).mono ?_; rintro e w' ⟨rfl, rfl⟩; rw [HB.out])
  refine HD.out.mono ?_
  rintro e w1 ⟨v, zs, rfl, hO, hv, hb1⟩
  have h64 : zs.length ≤ 64 := by simp [vList] at hv; exact hv.1
  obtain ⟨AV, CV, rfl⟩ := own_slice hO
  have HV := Lib.hid hv; clear hv
  have HCAP := Lib.hid (own_cap2 hO).1
  go_wp2_with fail
  refine (vAt_any A bs c 1 _ ((HX.out.below hb1).more hb1.size) HBB.out HSM.out (by omega)).mono ?_
  rintro e w' ⟨rfl, rfl⟩
  obtain ⟨r, hr⟩ : ∃ r : Nat, r = atV bs 1 % 16 := ⟨_, rfl⟩
  have hr15 : r ≤ 15 := by omega
  have et : Int.tmod ((atV bs 1 : Nat) : Int) 16 = (r : Int) := by rw [Int.tmod_eq_emod_of_nonneg (by omega)]; omega
  have ee : ((atV bs 1 : Nat) : Int) % 16 = (r : Int) := by omega
  clear hr
  go_upto_region 5 with fail
  clear et ee
  have HOK : Hid (memOk zs (1 + (r : Int)) = true) := Lib.hid (by unfold memOk; rw [HV.out]; exact inB_iff.2 ⟨by omega, by omega⟩)
  obtain ⟨m, hme⟩ : ∃ m : Int, 1 + (r : Int) = m := ⟨_, rfl⟩
  rw [hme] at HOK
  try rw [hme]
  clear hme
  go_wp2_with fail
  refine (ReplacementSelection_any AV zs CV m _ (Reads.of_own hO) (by omega) HCAP.out).mono ?_
  rintro e w2 ⟨AA, CA, rfl, oA, hb2⟩
  rw [HOK.out]
  have hO2 := own_below hO hb2 (Nat.le_refl _)
  have hB2 := hb1.trans (hb2.mono hb1.size)
  go_wp2_with fail
  refine (BatchRuns_any AV zs CV m _ (Reads.of_own hO2) (by omega) HCAP.out).mono ?_
  rintro e w3 ⟨AB, CB, rfl, oB, hb3⟩
  rw [HOK.out]
  have hO3 := own_below hO2 hb3 (Nat.le_refl _)
  have oA3 := oA.below hb3 (Nat.le_refl _)
  have hB3 := hB2.trans (hb3.mono hB2.size)
  go_wp2_with fail
  refine (AscendingRuns_any AV zs CV _ (Reads.of_own hO3) (by omega)).mono ?_
  rintro e w4 ⟨AC, CC, rfl, oC, hb4⟩
  rw [HV.out]
  have hO4 := own_below hO3 hb4 (Nat.le_refl _)
  have oA4 := oA3.below hb4 (Nat.le_refl _)
  have oB4 := oB.below hb4 (Nat.le_refl _)
  have hB4 := hB3.trans (hb4.mono hB3.size)
  go_wp2_with fail
  refine (RunLengths_any AV zs CV m _ (Reads.of_own hO4) (by omega) HCAP.out).mono ?_
  rintro e w5 ⟨AL, CL, rfl, oL, hb5⟩
  rw [HOK.out]
  have HO5 := Lib.hid (own_below hO4 hb5 (Nat.le_refl _))
  have HA5 := Lib.hid (ReadsRR.of_own (oA4.below hb5 (Nat.le_refl _)))
  have HB5 := Lib.hid (ReadsRR.of_own (oB4.below hb5 (Nat.le_refl _)))
  have HC5 := Lib.hid (ReadsRR.of_own (oC.below hb5 (Nat.le_refl _)))
  have HBE := Lib.hid (hB4.trans (hb5.mono hB4.size))
  have HPA := Lib.hid (parts_rp HOK.out)
  have HPB := Lib.hid (parts_bt HOK.out)
  have HPC := Lib.hid (parts_ar HV.out)
  have HSA := Lib.hid (rp_len zs m).2
  have HSB := Lib.hid (bt_len zs m).2
  have HSC := Lib.hid (ar_len zs).2
  have hla := (rp_len zs m).1
  have hlb := (bt_len zs m).1
  have hlc := (ar_len zs).1
  have hab := rp_le_bt zs m
  have hll : (rlV zs m).length = (rpV zs m).length := by simp [rlV]
  have HSUM := Lib.hid (rl_sum HOK.out)
  have HLR : Hid (rlV zs m = (rpV zs m).map fun r => (r.length : Int)) := Lib.hid rfl
  obtain ⟨L, hLe⟩ : ∃ L, rlV zs m = L := ⟨_, rfl⟩
  obtain ⟨RA, hRA⟩ : ∃ R, rpV zs m = R := ⟨_, rfl⟩
  obtain ⟨RB, hRB⟩ : ∃ R, btV zs m = R := ⟨_, rfl⟩
  obtain ⟨RC, hRC⟩ : ∃ R, arV zs = R := ⟨_, rfl⟩
  rw [hLe] at oL hll HSUM HLR ⊢
  rw [hRA] at HA5 HPA HSA hla hab hll HLR ⊢
  rw [hRB] at HB5 HPB HSB hlb hab ⊢
  rw [hRC] at HC5 HPC HSC hlc ⊢
  rw [hll] at oL ⊢
  have HLL := Lib.hid hll
  obtain ⟨na, hna⟩ : ∃ n, RA.length = n := ⟨_, rfl⟩
  obtain ⟨nb, hnb⟩ : ∃ n, RB.length = n := ⟨_, rfl⟩
  obtain ⟨nc, hnc⟩ : ∃ n, RC.length = n := ⟨_, rfl⟩
  have HNA := Lib.hid hna
  have HNB := Lib.hid hnb
  have HNC := Lib.hid hnc
  rw [hna] at hla hab oL ⊢
  rw [hnb] at hlb hab ⊢
  rw [hnc] at hlc ⊢
  have HOL := Lib.hid oL
  clear hLe hRA hRB hRC hll hna hnb hnc oL oA oB oC oA3 oA4 oB4 hO hO2 hO3 hO4 hb1 hb2 hb3 hb4 hb5 hB2 hB3 hB4
  have habI : ¬ (nb : Int) < (na : Int) := by omega
  have habG : ¬ (na : Int) > (nb : Int) := by omega
  obtain ⟨nz, hnz⟩ : ∃ n, zs.length = n := ⟨_, rfl⟩
  have HNZ := Lib.hid hnz
  have h64' : nz ≤ 64 := by omega
  rw [hnz]
  rw [hnz] at HSUM
  clear hnz h64
  obtain ⟨g6, hg6⟩ : ∃ g, w5.heap.size = g := ⟨_, rfl⟩
  have HT : Hid (∀ k, k < 3 → Take3 (w5.alloc (.cells #[.slice AA na CA, .slice AB nb CB, .slice AC nc CC] 29)) zs RA g6 k) := Lib.hid (by
    intro k hk
    have hblk := blk_new_at (t := 29) (cs := #[.slice AA na CA, .slice AB nb CB, .slice AC nc CC]) hg6
    have hal : Below w5.heap.size w5 (w5.alloc (.cells #[.slice AA na CA, .slice AB nb CB, .slice AC nc CC] 29)) := alloc_ (Below.refl _ _) _
    obtain rfl | rfl | rfl : k = 0 ∨ k = 1 ∨ k = 2 := by omega
    · exact ⟨AA, na, CA, RA, hblk.cell 0, HNA.out, hla, Lib.hid ((HA5.out.below hal).more hal.size), HPA, HSA, Lib.hid fun _ => rfl⟩
    · exact ⟨AB, nb, CB, RB, hblk.cell 1, HNB.out, hlb, Lib.hid ((HB5.out.below hal).more hal.size), HPB, HSB, Lib.hid fun h => absurd h (by decide)⟩
    · exact ⟨AC, nc, CC, RC, hblk.cell 2, HNC.out, hlc, Lib.hid ((HC5.out.below hal).more hal.size), HPC, HSC, Lib.hid fun h => absurd h (by decide)⟩)
  have hal : Below w5.heap.size w5 (w5.alloc (.cells #[.slice AA na CA, .slice AB nb CB, .slice AC nc CC] 29)) := alloc_ (Below.refl _ _) _
  have HO6 := Lib.hid (own_below HO5.out hal (Nat.le_refl _))
  have HL6 := Lib.hid (own_below HOL.out hal (Nat.le_refl _))
  have HBE6 := Lib.hid (HBE.out.trans (hal.mono HBE.out.size))
  have HLLN : Hid (L.length = na) := Lib.hid (by rw [HLL.out, HNA.out])
  have HG6 : Hid (g6 < (w5.alloc (.cells #[.slice AA na CA, .slice AB nb CB, .slice AC nc CC] 29)).heap.size) := Lib.hid (by rw [← hg6]; simp)
  clear hal HA5 HB5 HC5
  go_wp2_with (go_at_call 23; refine (rSumR_any AL L na CL w5 HLLN.out (Reads.of_own HOL.out) (by omega)).mono ?_; rintro e w' ⟨rfl, rfl⟩; rw [HSUM.out])
  try rw [hg6]
  generalize w5.alloc (.cells #[.slice AA na CA, .slice AB nb CB, .slice AC nc CC] 29) = w7 at *
  clear hg6 HO5 HOL HBE HPA HPB HPC HSA HSB HSC HSUM
  go_loopw [98] (fun vi wr => ∃ k : Nat, k ≤ 3 ∧ vi = .int .i64 (k : Nat) ∧ Hid (Below w7.heap.size w7 wr)) (fun vi _ => 3 - (intOf vi).toNat)
  case atStart => exact ⟨0, by omega, rfl, Lib.hid (Below.refl _ _)⟩
  case round =>
    obtain ⟨k, hk, rfl, HB⟩ := hrel
    by_cases hlt : k < 3
    · have kI : (k : Int) < 3 := by omega
      obtain ⟨As, n, cs, Z, c0, hZn, hn64, HRR, HPT, HSZ, HZR⟩ := HT.out k hlt
      have c1 := HB.out.cell (p := ⟨g6, k, none⟩) (HG6.out)
      rw [c0] at c1
      have HZN := Lib.hid hZn
      obtain ⟨hp1, hp2, hp3⟩ := HPT.out.ok HV.out
      have HP1 := Lib.hid hp1
      have HP2 := Lib.hid hp2
      have HP3 := Lib.hid hp3
      clear hp1 hp2 hp3 c0 hZn
      go_upto_region 14 with fail
      have HR1 := Lib.hid (HRR.out.below HB.out)
      have HO8 := Lib.hid (own_below HO6.out HB.out (Nat.le_refl _))
      have HL8 := Lib.hid (own_below HL6.out HB.out (Nat.le_refl _))
      have hIP := IsRunPartition_any AV zs CV As Z cs wr (Reads.of_own HO8.out) (by rw [HNZ.out]; omega) (HR1.out.more HB.out.size) (by have := HSZ.out; rw [HZN.out]; omega)
      rw [HNZ.out, HZN.out, HP2.out, HV.out] at hIP
      have HIP := Lib.hid hIP
      clear hIP
      go_wp2_with fail
      refine HIP.out.mono ?_
      rintro e w8 ⟨rfl, hb8⟩
      have HB8 := Lib.hid (HB.out.trans (hb8.mono HB.out.size))
      have HO9 := Lib.hid (own_below HO8.out hb8 (Nat.le_refl _))
      clear hb8
      have hMR := MergeRuns_any As Z cs w8 ((HRR.out.below HB8.out).more HB8.out.size) (by have := HSZ.out; rw [HZN.out]; omega)
      rw [HZN.out, HP1.out, HP3.out, srt_len, HNZ.out] at hMR
      have HMR := Lib.hid hMR
      clear hMR
      go_wp2_with fail
      refine HMR.out.mono ?_
      rintro e w9 ⟨AS, CS, rfl, oS, hb9⟩
      have HB9 := Lib.hid (HB8.out.trans (hb9.mono HB8.out.size))
      have HO10 := Lib.hid (own_below HO9.out hb9 (Nat.le_refl _))
      have HS10 := Lib.hid oS
      clear hb9 oS
      have hVO := vOrdered_any AV zs CV w9 (Reads.of_own HO10.out) (by rw [HNZ.out]; omega)
      rw [HNZ.out] at hVO
      have HVO := Lib.hid hVO
      clear hVO
      go_wp2_with fail
      refine HVO.out.mono ?_
      rintro e w10 ⟨v10, rfl, oT, hb10⟩
      obtain ⟨AT, CT, rfl⟩ := own_slice oT
      have HB10 := Lib.hid (HB9.out.trans (hb10.mono HB9.out.size))
      have HT10 := Lib.hid oT
      have HS11 := Lib.hid (own_below HS10.out hb10 (Nat.le_refl _))
      clear oT hb10
      go_wp2_with fail
      refine (vInts_t AS AT (srt zs) nz CS CT w10 (by rw [srt_len, HNZ.out]) (by omega) (Reads.of_own HS11.out) (Reads.of_own HT10.out)).mono ?_
      rintro e w11 ⟨rfl, n11, rfl⟩
      have HB11 := Lib.hid (below_drewN HB10.out n11)
      generalize w10.drewN n11 = w11 at *
      clear HS11 HT10 HS10 HO8 HO9 HO10 HB8 HB9 HB10 HVO HMR HIP HR1
      by_cases hk0 : k = 0
      · subst hk0
        have hZR := HZR.out rfl
        subst hZR
        have hnn : n = na := by rw [← HZN.out, ← HNA.out]
        subst hnn
        clear HZR
        go_wp2_with fail
        go_loopw [19] (fun vi wr => ∃ j : Nat, j ≤ n ∧ vi = .int .i64 (j : Nat) ∧ Hid (Below w7.heap.size w7 wr)) (fun vi _ => n - (intOf vi).toNat)
        case atStart => exact ⟨0, by omega, rfl, HB11⟩
        case round =>
          obtain ⟨j, hj, rfl, HBJ⟩ := hrel
          by_cases hjn : j < n
          · have jI : (j : Int) < (n : Int) := by omega
            have hjR : j < Z.length := by rw [HZN.out]; exact hjn
            obtain ⟨adG, Ag, cg, rfl, c2, -⟩ := (HRR.out.below HBJ.out).at_ hjR
            have hL := own_below HL6.out HBJ.out (Nat.le_refl _)
            obtain ⟨gL, cL', eL, -, -, -, -⟩ := own_some hL (by omega)
            cases eL
            have c3 := hL.cellAt j (by omega)
            have hLj : L[j]? = some ((Z[j].length : Nat) : Int) := by rw [HLR.out]; simp [hjR]
            simp only [ints, List.getElem?_map, hLj, Option.map_some] at c3
            generalize Z[j].length = q at *
            clear hLj hjR hL
            go_upto_region 22 with fail
            go_quiet (fail)
            go_wp2_with fail
            go_roundw
            case rel => exact ⟨j + 1, by omega, by go_num, Lib.hid (below_drewN HBJ.out _)⟩
            case measure => simp [intOf]; omega
          · have jI : ¬ (j : Int) < (n : Int) := by omega
            go_wp2_with fail
            go_roundw
            case rel => exact ⟨1, by omega, by go_num, HBJ⟩
            case measure => simp [intOf]
      · have hk0I : ((k : Int) == 0) = false := by rw [beq_eq_false_iff_ne]; omega
        go_wp2_with fail
        go_roundw
        case rel => exact ⟨k + 1, by omega, by go_num, HB11⟩
        case measure => simp [intOf]; omega
    · have kI : ¬ (k : Int) < 3 := by omega
      go_wp2_with fail
      go_ret
      exact ⟨rfl, HBE6.out.trans (HB.out.mono HBE6.out.size)⟩
end Go.Proofs.Ytecbagdljgnloaa
